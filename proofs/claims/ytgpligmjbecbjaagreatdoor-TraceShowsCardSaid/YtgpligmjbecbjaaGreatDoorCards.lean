/-
  DERIVED. GIVEN WITH THE SEED: THE CARDS: each row of YtgpligmjbecbjaaGreatDoorRows.lean that lists a variable, with what it lists TIED to the program's text (the seventh form; the later family's looks); each row that meets fmt, with fmt's text TOLD by the authors' own Lean function (tested against real Go, not proved from fmt's source: count such statements apart). THE CARD IS WHAT COUNTS. Prove the row's statement (the work); the ties are given (YtgpligmjbecbjaaGreatDoorTie.lean); close each card by the builder's one call (the guide's Derived/Test/ToyasCard.lean, 'card_holds'). Laid BY PROGRAM, IN A SANDBOX (cutbox-door.mjs). By AI agents, Wed Nov 11 2026. No macro, syntax, notation, axiom, sorry.
-/
import Derived.Test.YtgpligmjbecbjaaGreatDoorRows
import GoSem.ClaimSeven
namespace Go.Proofs.YtgpligmjbecbjaaGreatDoor
namespace Rows

/-- THE TIED CARD OF 'netlablaw36.TraceShows'. -/
def traceShowsCard : Claim7 := { stood := { row := traceShowsRow, standIns := [], harness := (true, "95686d123fc9860b574787d1864b8228fbb5980cb370ef41a3d6da9f75dc1425"), looks := false }, kinds := [], alts := [], laidByText := true, laidKinds := [.data, .data, .data, .pinned], laidTests := true, laidLooks := .later }
def TraceShowsCardSaid : Prop := Claim7.holds Tryz.pinned (.plain (OpenSpec.ofChange traceShowsSpec)) traceShowsCard

/-- THE TIED CARD OF 'netlablaw19.VcdDiffsMatch'. -/
def vcdDiffsMatchCard : Claim7 := { stood := { row := vcdDiffsMatchRow, standIns := [], harness := (true, "95686d123fc9860b574787d1864b8228fbb5980cb370ef41a3d6da9f75dc1425"), looks := false }, kinds := [], alts := [], laidByText := true, laidKinds := [.data, .data, .data, .data, .pinned], laidTests := true, laidLooks := .later }
def VcdDiffsMatchCardSaid : Prop := Claim7.holds Tryz.pinned (.plain (OpenSpec.ofChange vcdDiffsMatchSpec)) vcdDiffsMatchCard

/-- THE TIED CARD OF 'netlablaw19.VcdMatches'. -/
def vcdMatchesCard : Claim7 := { stood := { row := vcdMatchesRow, standIns := [], harness := (true, "95686d123fc9860b574787d1864b8228fbb5980cb370ef41a3d6da9f75dc1425"), looks := false }, kinds := [], alts := [], laidByText := true, laidKinds := [.data, .data, .data, .data, .pinned], laidTests := true, laidLooks := .later }
def VcdMatchesCardSaid : Prop := Claim7.holds Tryz.pinned (.plain (OpenSpec.ofChange vcdMatchesSpec)) vcdMatchesCard

/-- THE SECOND FORM's CARD OF 'netlablaw36.TraceShows'. -/
def traceShowsUptoCard : Claim7 := { stood := { row := traceShowsUptoRow, standIns := [], harness := (true, "95686d123fc9860b574787d1864b8228fbb5980cb370ef41a3d6da9f75dc1425"), looks := false }, kinds := [], alts := [], laidByText := true, laidKinds := [.data, .data, .data, .pinned], laidTests := true, laidLooks := .later }
def TraceShowsUptoCardSaid : Prop := Claim7.holds Tryz.pinned (.plain (OpenSpec.upto traceShowsSpec)) traceShowsUptoCard

/-- THE SECOND FORM's CARD OF 'netlablaw19.VcdDiffsMatch'. -/
def vcdDiffsMatchUptoCard : Claim7 := { stood := { row := vcdDiffsMatchUptoRow, standIns := [], harness := (true, "95686d123fc9860b574787d1864b8228fbb5980cb370ef41a3d6da9f75dc1425"), looks := false }, kinds := [], alts := [], laidByText := true, laidKinds := [.data, .data, .data, .data, .pinned], laidTests := true, laidLooks := .later }
def VcdDiffsMatchUptoCardSaid : Prop := Claim7.holds Tryz.pinned (.plain (OpenSpec.upto vcdDiffsMatchSpec)) vcdDiffsMatchUptoCard

/-- THE SECOND FORM's CARD OF 'netlablaw19.VcdMatches'. -/
def vcdMatchesUptoCard : Claim7 := { stood := { row := vcdMatchesUptoRow, standIns := [], harness := (true, "95686d123fc9860b574787d1864b8228fbb5980cb370ef41a3d6da9f75dc1425"), looks := false }, kinds := [], alts := [], laidByText := true, laidKinds := [.data, .data, .data, .data, .pinned], laidTests := true, laidLooks := .later }
def VcdMatchesUptoCardSaid : Prop := Claim7.holds Tryz.pinned (.plain (OpenSpec.upto vcdMatchesSpec)) vcdMatchesUptoCard
end Rows
end Go.Proofs.YtgpligmjbecbjaaGreatDoor
