/-
  DERIVED. GIVEN WITH THE SEED: THE CARDS: each row of YtkcmacdakgohcaaDoorRows.lean that lists a variable, with what it lists TIED to the program's text (the seventh form; the later family's looks); each row that meets fmt, with fmt's text TOLD by the authors' own Lean function (tested against real Go, not proved from fmt's source: count such statements apart). THE CARD IS WHAT COUNTS. Prove the row's statement (the work); the ties are given (YtkcmacdakgohcaaDoorTie.lean); close each card by the builder's one call (the guide's Derived/Test/ToyasCard.lean, 'card_holds'). Laid BY PROGRAM, IN A SANDBOX (cutbox-door.mjs). By AI agents, Wed Nov 11 2026. No macro, syntax, notation, axiom, sorry.
-/
import Derived.Test.YtkcmacdakgohcaaDoorRows
import GoSem.ClaimSeven
namespace Go.Proofs.YtkcmacdakgohcaaDoor
namespace Rows

/-- THE TIED CARD OF 'netlablaw36.TraceTextMatches'. -/
def traceTextMatchesCard : Claim7 := { stood := { row := traceTextMatchesRow, standIns := [], harness := (true, "75493b190134aab016bb0c119249fd738a76d3c8bdf04a4d06ed3cd5ae69473c"), looks := false }, kinds := [], alts := [], laidByText := true, laidKinds := [.data, .data], laidTests := true, laidLooks := .later }
def TraceTextMatchesCardSaid : Prop := Claim7.holds Tryd.pinned (.plain (OpenSpec.ofChange traceTextMatchesSpec)) traceTextMatchesCard

/-- THE TIED CARD OF 'netlablaw36.TraceText'. -/
def traceTextCard : Claim7 := { stood := { row := traceTextRow, standIns := [], harness := (true, "75493b190134aab016bb0c119249fd738a76d3c8bdf04a4d06ed3cd5ae69473c"), looks := false }, kinds := [], alts := [], laidByText := true, laidKinds := [.data, .data], laidTests := true, laidLooks := .later }
def TraceTextCardSaid : Prop := Claim7.holds Tryd.pinned (.plain (OpenSpec.ofChange traceTextSpec)) traceTextCard

/-- THE TIED CARD OF 'netlablaw36.TraceMatches'. -/
def traceMatchesCard : Claim7 := { stood := { row := traceMatchesRow, standIns := [], harness := (true, "75493b190134aab016bb0c119249fd738a76d3c8bdf04a4d06ed3cd5ae69473c"), looks := false }, kinds := [], alts := [], laidByText := true, laidKinds := [.data, .data], laidTests := true, laidLooks := .later }
def TraceMatchesCardSaid : Prop := Claim7.holds Tryd.pinned (.plain (OpenSpec.ofChange traceMatchesSpec)) traceMatchesCard

/-- THE TIED CARD OF 'netlablaw36.TracePatternsMatch'. -/
def tracePatternsMatchCard : Claim7 := { stood := { row := tracePatternsMatchRow, standIns := [], harness := (true, "75493b190134aab016bb0c119249fd738a76d3c8bdf04a4d06ed3cd5ae69473c"), looks := false }, kinds := [], alts := [], laidByText := true, laidKinds := [.data, .data], laidTests := true, laidLooks := .later }
def TracePatternsMatchCardSaid : Prop := Claim7.holds Tryd.pinned (.plain (OpenSpec.ofChange tracePatternsMatchSpec)) tracePatternsMatchCard

/-- THE TIED CARD OF 'netlablaw36.TraceReduces'. -/
def traceReducesCard : Claim7 := { stood := { row := traceReducesRow, standIns := [], harness := (true, "75493b190134aab016bb0c119249fd738a76d3c8bdf04a4d06ed3cd5ae69473c"), looks := false }, kinds := [], alts := [], laidByText := true, laidKinds := [.data, .data], laidTests := true, laidLooks := .later }
def TraceReducesCardSaid : Prop := Claim7.holds Tryd.pinned (.plain (OpenSpec.ofChange traceReducesSpec)) traceReducesCard

/-- THE TIED CARD OF 'netlablaw36.TraceInforms'. -/
def traceInformsCard : Claim7 := { stood := { row := traceInformsRow, standIns := [], harness := (true, "75493b190134aab016bb0c119249fd738a76d3c8bdf04a4d06ed3cd5ae69473c"), looks := false }, kinds := [], alts := [], laidByText := true, laidKinds := [.data, .data], laidTests := true, laidLooks := .later }
def TraceInformsCardSaid : Prop := Claim7.holds Tryd.pinned (.plain (OpenSpec.ofChange traceInformsSpec)) traceInformsCard

/-- THE TIED CARD OF 'netlablaw36.TraceWaves'. -/
def traceWavesCard : Claim7 := { stood := { row := traceWavesRow, standIns := [], harness := (true, "75493b190134aab016bb0c119249fd738a76d3c8bdf04a4d06ed3cd5ae69473c"), looks := false }, kinds := [], alts := [], laidByText := true, laidKinds := [.data, .data], laidTests := true, laidLooks := .later }
def TraceWavesCardSaid : Prop := Claim7.holds Tryd.pinned (.plain (OpenSpec.ofChange traceWavesSpec)) traceWavesCard

/-- THE TIED CARD OF 'netlablaw36.TraceExamples'. -/
def traceExamplesCard : Claim7 := { stood := { row := traceExamplesRow, standIns := [], harness := (true, "75493b190134aab016bb0c119249fd738a76d3c8bdf04a4d06ed3cd5ae69473c"), looks := false }, kinds := [], alts := [], laidByText := true, laidKinds := [.data, .data], laidTests := true, laidLooks := .later }
def TraceExamplesCardSaid : Prop := Claim7.holds Tryd.pinned (.plain (OpenSpec.ofChange traceExamplesSpec)) traceExamplesCard

/-- THE SECOND FORM's CARD OF 'netlablaw36.TraceTextMatches'. -/
def traceTextMatchesUptoCard : Claim7 := { stood := { row := traceTextMatchesUptoRow, standIns := [], harness := (true, "75493b190134aab016bb0c119249fd738a76d3c8bdf04a4d06ed3cd5ae69473c"), looks := false }, kinds := [], alts := [], laidByText := true, laidKinds := [.data, .data], laidTests := true, laidLooks := .later }
def TraceTextMatchesUptoCardSaid : Prop := Claim7.holds Tryd.pinned (.plain (OpenSpec.upto traceTextMatchesSpec)) traceTextMatchesUptoCard

/-- THE SECOND FORM's CARD OF 'netlablaw36.TraceText'. -/
def traceTextUptoCard : Claim7 := { stood := { row := traceTextUptoRow, standIns := [], harness := (true, "75493b190134aab016bb0c119249fd738a76d3c8bdf04a4d06ed3cd5ae69473c"), looks := false }, kinds := [], alts := [], laidByText := true, laidKinds := [.data, .data], laidTests := true, laidLooks := .later }
def TraceTextUptoCardSaid : Prop := Claim7.holds Tryd.pinned (.plain (OpenSpec.upto traceTextSpec)) traceTextUptoCard

/-- THE SECOND FORM's CARD OF 'netlablaw36.TraceMatches'. -/
def traceMatchesUptoCard : Claim7 := { stood := { row := traceMatchesUptoRow, standIns := [], harness := (true, "75493b190134aab016bb0c119249fd738a76d3c8bdf04a4d06ed3cd5ae69473c"), looks := false }, kinds := [], alts := [], laidByText := true, laidKinds := [.data, .data], laidTests := true, laidLooks := .later }
def TraceMatchesUptoCardSaid : Prop := Claim7.holds Tryd.pinned (.plain (OpenSpec.upto traceMatchesSpec)) traceMatchesUptoCard

/-- THE SECOND FORM's CARD OF 'netlablaw36.TracePatternsMatch'. -/
def tracePatternsMatchUptoCard : Claim7 := { stood := { row := tracePatternsMatchUptoRow, standIns := [], harness := (true, "75493b190134aab016bb0c119249fd738a76d3c8bdf04a4d06ed3cd5ae69473c"), looks := false }, kinds := [], alts := [], laidByText := true, laidKinds := [.data, .data], laidTests := true, laidLooks := .later }
def TracePatternsMatchUptoCardSaid : Prop := Claim7.holds Tryd.pinned (.plain (OpenSpec.upto tracePatternsMatchSpec)) tracePatternsMatchUptoCard

/-- THE SECOND FORM's CARD OF 'netlablaw36.TraceReduces'. -/
def traceReducesUptoCard : Claim7 := { stood := { row := traceReducesUptoRow, standIns := [], harness := (true, "75493b190134aab016bb0c119249fd738a76d3c8bdf04a4d06ed3cd5ae69473c"), looks := false }, kinds := [], alts := [], laidByText := true, laidKinds := [.data, .data], laidTests := true, laidLooks := .later }
def TraceReducesUptoCardSaid : Prop := Claim7.holds Tryd.pinned (.plain (OpenSpec.upto traceReducesSpec)) traceReducesUptoCard

/-- THE SECOND FORM's CARD OF 'netlablaw36.TraceInforms'. -/
def traceInformsUptoCard : Claim7 := { stood := { row := traceInformsUptoRow, standIns := [], harness := (true, "75493b190134aab016bb0c119249fd738a76d3c8bdf04a4d06ed3cd5ae69473c"), looks := false }, kinds := [], alts := [], laidByText := true, laidKinds := [.data, .data], laidTests := true, laidLooks := .later }
def TraceInformsUptoCardSaid : Prop := Claim7.holds Tryd.pinned (.plain (OpenSpec.upto traceInformsSpec)) traceInformsUptoCard

/-- THE SECOND FORM's CARD OF 'netlablaw36.TraceWaves'. -/
def traceWavesUptoCard : Claim7 := { stood := { row := traceWavesUptoRow, standIns := [], harness := (true, "75493b190134aab016bb0c119249fd738a76d3c8bdf04a4d06ed3cd5ae69473c"), looks := false }, kinds := [], alts := [], laidByText := true, laidKinds := [.data, .data], laidTests := true, laidLooks := .later }
def TraceWavesUptoCardSaid : Prop := Claim7.holds Tryd.pinned (.plain (OpenSpec.upto traceWavesSpec)) traceWavesUptoCard

/-- THE SECOND FORM's CARD OF 'netlablaw36.TraceExamples'. -/
def traceExamplesUptoCard : Claim7 := { stood := { row := traceExamplesUptoRow, standIns := [], harness := (true, "75493b190134aab016bb0c119249fd738a76d3c8bdf04a4d06ed3cd5ae69473c"), looks := false }, kinds := [], alts := [], laidByText := true, laidKinds := [.data, .data], laidTests := true, laidLooks := .later }
def TraceExamplesUptoCardSaid : Prop := Claim7.holds Tryd.pinned (.plain (OpenSpec.upto traceExamplesSpec)) traceExamplesUptoCard
end Rows
end Go.Proofs.YtkcmacdakgohcaaDoor
