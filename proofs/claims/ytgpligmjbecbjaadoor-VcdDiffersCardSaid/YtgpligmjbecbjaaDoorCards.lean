/-
  DERIVED. GIVEN WITH THE SEED: THE CARDS: each row of YtgpligmjbecbjaaDoorRows.lean that lists a variable, with what it lists TIED to the program's text (the seventh form; the later family's looks); each row that meets fmt, with fmt's text TOLD by the authors' own Lean function (tested against real Go, not proved from fmt's source: count such statements apart). THE CARD IS WHAT COUNTS. Prove the row's statement (the work); the ties are given (YtgpligmjbecbjaaDoorTie.lean); close each card by the builder's one call (the guide's Derived/Test/ToyasCard.lean, 'card_holds'). Laid BY PROGRAM, IN A SANDBOX (cutbox-door.mjs). By AI agents, Wed Nov 11 2026. No macro, syntax, notation, axiom, sorry.
-/
import Derived.Test.YtgpligmjbecbjaaDoorRows
import GoSem.ClaimSeven
namespace Go.Proofs.YtgpligmjbecbjaaDoor
namespace Rows

/-- THE TIED CARD OF 'netlablaw19.VcdNormalForms'. -/
def vcdNormalFormsCard : Claim7 := { stood := { row := vcdNormalFormsRow, standIns := [], harness := (true, "38faf3e8153511e83f7a38ca09fc92d67be866c309f8532b16e0b0b0bba484f3"), looks := false }, kinds := [], alts := [], laidByText := true, laidKinds := [.data, .data, .data, .data, .pinned], laidTests := true, laidLooks := .later }
def VcdNormalFormsCardSaid : Prop := Claim7.holds Tryd.pinned (.plain (OpenSpec.ofChange vcdNormalFormsSpec)) vcdNormalFormsCard

/-- THE TIED CARD OF 'netlablaw19.VcdDiffers'. -/
def vcdDiffersCard : Claim7 := { stood := { row := vcdDiffersRow, standIns := [], harness := (true, "38faf3e8153511e83f7a38ca09fc92d67be866c309f8532b16e0b0b0bba484f3"), looks := false }, kinds := [], alts := [], laidByText := true, laidKinds := [.data, .data, .data, .data, .pinned], laidTests := true, laidLooks := .later }
def VcdDiffersCardSaid : Prop := Claim7.holds Tryd.pinned (.plain (OpenSpec.ofChange vcdDiffersSpec)) vcdDiffersCard

/-- THE TIED CARD OF 'netlablaw19.VcdSamples'. -/
def vcdSamplesCard : Claim7 := { stood := { row := vcdSamplesRow, standIns := [], harness := (true, "38faf3e8153511e83f7a38ca09fc92d67be866c309f8532b16e0b0b0bba484f3"), looks := false }, kinds := [], alts := [], laidByText := true, laidKinds := [.data, .data, .data, .data, .pinned], laidTests := true, laidLooks := .later }
def VcdSamplesCardSaid : Prop := Claim7.holds Tryd.pinned (.plain (OpenSpec.ofChange vcdSamplesSpec)) vcdSamplesCard

/-- THE SECOND FORM's CARD OF 'netlablaw19.VcdNormalForms'. -/
def vcdNormalFormsUptoCard : Claim7 := { stood := { row := vcdNormalFormsUptoRow, standIns := [], harness := (true, "38faf3e8153511e83f7a38ca09fc92d67be866c309f8532b16e0b0b0bba484f3"), looks := false }, kinds := [], alts := [], laidByText := true, laidKinds := [.data, .data, .data, .data, .pinned], laidTests := true, laidLooks := .later }
def VcdNormalFormsUptoCardSaid : Prop := Claim7.holds Tryd.pinned (.plain (OpenSpec.upto vcdNormalFormsSpec)) vcdNormalFormsUptoCard

/-- THE SECOND FORM's CARD OF 'netlablaw19.VcdDiffers'. -/
def vcdDiffersUptoCard : Claim7 := { stood := { row := vcdDiffersUptoRow, standIns := [], harness := (true, "38faf3e8153511e83f7a38ca09fc92d67be866c309f8532b16e0b0b0bba484f3"), looks := false }, kinds := [], alts := [], laidByText := true, laidKinds := [.data, .data, .data, .data, .pinned], laidTests := true, laidLooks := .later }
def VcdDiffersUptoCardSaid : Prop := Claim7.holds Tryd.pinned (.plain (OpenSpec.upto vcdDiffersSpec)) vcdDiffersUptoCard

/-- THE SECOND FORM's CARD OF 'netlablaw19.VcdSamples'. -/
def vcdSamplesUptoCard : Claim7 := { stood := { row := vcdSamplesUptoRow, standIns := [], harness := (true, "38faf3e8153511e83f7a38ca09fc92d67be866c309f8532b16e0b0b0bba484f3"), looks := false }, kinds := [], alts := [], laidByText := true, laidKinds := [.data, .data, .data, .data, .pinned], laidTests := true, laidLooks := .later }
def VcdSamplesUptoCardSaid : Prop := Claim7.holds Tryd.pinned (.plain (OpenSpec.upto vcdSamplesSpec)) vcdSamplesUptoCard
end Rows
end Go.Proofs.YtgpligmjbecbjaaDoor
