/-
  DERIVED. GIVEN WITH THE SEED: THE CARDS: each row of YtomnbibmflodlaaDoorRows.lean that lists a variable, with what it lists TIED to the program's text (the seventh form; the later family's looks); each row that meets fmt, with fmt's text TOLD by the authors' own Lean function (tested against real Go, not proved from fmt's source: count such statements apart). THE CARD IS WHAT COUNTS. Prove the row's statement (the work); the ties are given (YtomnbibmflodlaaDoorTie.lean); close each card by the builder's one call (the guide's Derived/Test/ToyasCard.lean, 'card_holds'). Laid BY PROGRAM, IN A SANDBOX (cutbox-door.mjs). By AI agents, Wed Nov 11 2026. No macro, syntax, notation, axiom, sorry.
-/
import Derived.Test.YtomnbibmflodlaaDoorRows
import GoSem.ClaimSeven
namespace Go.Proofs.YtomnbibmflodlaaDoor
namespace Rows

/-- THE TIED CARD OF 'netlablaw19.VcdIds'. -/
def vcdIdsCard : Claim7 := { stood := { row := vcdIdsRow, standIns := [], harness := (true, "9d29db787612e874a84b1f5e6b268b9126129d9a59a7f3b844e6f80ffd0f2578"), looks := false }, kinds := [], alts := [], laidByText := true, laidKinds := [.data, .data, .data, .data, .pinned], laidTests := true, laidLooks := .later }
def VcdIdsCardSaid : Prop := Claim7.holds Tryd.pinned (.plain (OpenSpec.ofChange vcdIdsSpec)) vcdIdsCard

/-- THE SECOND FORM's CARD OF 'netlablaw19.VcdIds'. -/
def vcdIdsUptoCard : Claim7 := { stood := { row := vcdIdsUptoRow, standIns := [], harness := (true, "9d29db787612e874a84b1f5e6b268b9126129d9a59a7f3b844e6f80ffd0f2578"), looks := false }, kinds := [], alts := [], laidByText := true, laidKinds := [.data, .data, .data, .data, .pinned], laidTests := true, laidLooks := .later }
def VcdIdsUptoCardSaid : Prop := Claim7.holds Tryd.pinned (.plain (OpenSpec.upto vcdIdsSpec)) vcdIdsUptoCard
end Rows
end Go.Proofs.YtomnbibmflodlaaDoor
