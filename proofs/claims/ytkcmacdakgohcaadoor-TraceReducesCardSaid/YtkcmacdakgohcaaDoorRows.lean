/-
  NARROWER THAN 'FOR EVERY INPUT', by the rows' own cells (each row's printed sentence says how): TraceTextMatches: laid · TraceText: laid · TraceMatches: laid · TracePatternsMatch: laid · TraceReduces: laid · TraceInforms: laid · TraceWaves: laid · TraceExamples: laid.
  DERIVED. THE GIVEN ROWS OF THIS SEAT. 8 by the template 'for every input the law returns true; each argument reads behind the call as it read before'; 0 by the template 'total and deterministic' (their statements: YtkcmacdakgohcaaDoorTotals.lean).
  GIVEN WITH THE SEED: the statements are not yours to turn. If you find one false, say at which input.
  Laid BY PROGRAM, IN A SANDBOX (cutbox-rows.mjs): the forced cells as the released guide's own fill.sh prints them over the translation bb5d27963425b63b… (all of the seat's roots in one cut). By AI agents, Wed Nov 11 2026. No macro, syntax, notation, axiom, sorry.
-/
import Derived.Test.YtkcmacdakgohcaaDoorChecked
import GoSem.Claim
import GoSem.ClaimJoined
import GoSem.ClaimMapViews
import Derived.JoinedTies
import Derived.KernelRfl
namespace Go.Proofs.YtkcmacdakgohcaaDoor
/- THE CELL 'sum', in the pinned program and in every row, IS THE sha256 OF THE DUMP (.gsa) THAT YtkcmacdakgohcaaDoorProg.lean LOADS. Nothing in Lean hashes anything: it is a label: what it is worth is what the hold of that sum in a sandbox is worth. -/
noncomputable def Tryd.pinned : Pinned := { name := "ytkcmacdakgohcaadoor", sum := "bb5d27963425b63b3e0776f3052728834e1e8507ca8c46a282040eb270bc4596", checked := Tryd.checked }
namespace Rows
def none {H : Type} : Left H := { results := [], args := [] }

/- WHAT THE LISTED PACKAGE-LEVEL VARIABLES READ AS WHEN THE CALL BEGINS. Each datum BY PROGRAM (the guide's laid-datum.mjs) off the statement by which the dump's own 'gosem.cut.vars' lays the variable. In a bare row this is a premise. The card (YtkcmacdakgohcaaDoorCards.lean) ties it to the program's text. -/
def laid_netlab_trace_inverted {H : Type} : DataW H := .agg [.lit (.int .u8 1), .lit (.int .u8 0), .lit (.int .u8 2)]
def laid_netlab_trace_both {H : Type} : DataW H := .agg [.agg [.lit (.int .u8 0), .lit (.int .u8 0), .lit (.int .u8 0)], .agg [.lit (.int .u8 0), .lit (.int .u8 1), .lit (.int .u8 2)], .agg [.lit (.int .u8 0), .lit (.int .u8 2), .lit (.int .u8 2)]]

/-- 'netlablaw36.TraceTextMatches': WHATEVER THE INPUT: true; the input reads as it did. -/
def traceTextMatchesSpec : ChangeSpec := { name := "traceTextMatches", fn := fun _ => fun
  | [d1, d2] => { results := [.lit (.bool true)], args := [d1, d2] }
  | _ => none }
def traceTextMatchesRow : OpenClaim := { program := "ytkcmacdakgohcaadoor", sum := "bb5d27963425b63b3e0776f3052728834e1e8507ca8c46a282040eb270bc4596", func := "netlab/netlablaw36.TraceTextMatches", spec := "traceTextMatches", inPlace := ["internal/abi.NoEscape", "internal/bytealg.IndexByteString", "internal/bytealg.IndexString"], unfollowed := true, recurses := true, named := ["netlab/trace.inverted", "netlab/trace.both", "internal/bytealg.MaxLen"], apart := false, laid := [("netlab/trace.inverted", laid_netlab_trace_inverted), ("netlab/trace.both", laid_netlab_trace_both)] }
def TraceTextMatchesSaid : Prop := traceTextMatchesRow.holds Tryd.pinned (OpenSpec.ofChange traceTextMatchesSpec)

/-- ITS FALSE NEIGHBOUR: 'it returns false'. Refute it at one input. -/
def traceTextMatchesWrong : ChangeSpec := { name := "traceTextMatches", fn := fun _ => fun
  | [d1, d2] => { results := [.lit (.bool false)], args := [d1, d2] }
  | _ => none }
def TraceTextMatchesWrongFalsely : Prop := traceTextMatchesRow.holds Tryd.pinned (OpenSpec.ofChange traceTextMatchesWrong)

/-- 'netlablaw36.TraceText': WHATEVER THE INPUT: true; the input reads as it did. -/
def traceTextSpec : ChangeSpec := { name := "traceText", fn := fun _ => fun
  | [d1, d2] => { results := [.lit (.bool true)], args := [d1, d2] }
  | _ => none }
def traceTextRow : OpenClaim := { program := "ytkcmacdakgohcaadoor", sum := "bb5d27963425b63b3e0776f3052728834e1e8507ca8c46a282040eb270bc4596", func := "netlab/netlablaw36.TraceText", spec := "traceText", inPlace := ["internal/abi.NoEscape", "internal/bytealg.IndexByteString", "internal/bytealg.IndexString"], unfollowed := true, recurses := true, named := ["netlab/trace.inverted", "netlab/trace.both", "internal/bytealg.MaxLen"], apart := false, laid := [("netlab/trace.inverted", laid_netlab_trace_inverted), ("netlab/trace.both", laid_netlab_trace_both)] }
def TraceTextSaid : Prop := traceTextRow.holds Tryd.pinned (OpenSpec.ofChange traceTextSpec)

/-- ITS FALSE NEIGHBOUR: 'it returns false'. Refute it at one input. -/
def traceTextWrong : ChangeSpec := { name := "traceText", fn := fun _ => fun
  | [d1, d2] => { results := [.lit (.bool false)], args := [d1, d2] }
  | _ => none }
def TraceTextWrongFalsely : Prop := traceTextRow.holds Tryd.pinned (OpenSpec.ofChange traceTextWrong)

/-- 'netlablaw36.TraceMatches': WHATEVER THE INPUT: true; the input reads as it did. -/
def traceMatchesSpec : ChangeSpec := { name := "traceMatches", fn := fun _ => fun
  | [d1, d2, d3] => { results := [.lit (.bool true)], args := [d1, d2, d3] }
  | _ => none }
def traceMatchesRow : OpenClaim := { program := "ytkcmacdakgohcaadoor", sum := "bb5d27963425b63b3e0776f3052728834e1e8507ca8c46a282040eb270bc4596", func := "netlab/netlablaw36.TraceMatches", spec := "traceMatches", inPlace := ["internal/abi.NoEscape", "internal/bytealg.IndexByteString", "internal/bytealg.IndexString"], unfollowed := true, recurses := true, named := ["netlab/trace.inverted", "netlab/trace.both", "internal/bytealg.MaxLen"], apart := false, laid := [("netlab/trace.inverted", laid_netlab_trace_inverted), ("netlab/trace.both", laid_netlab_trace_both)] }
def TraceMatchesSaid : Prop := traceMatchesRow.holds Tryd.pinned (OpenSpec.ofChange traceMatchesSpec)

/-- ITS FALSE NEIGHBOUR: 'it returns false'. Refute it at one input. -/
def traceMatchesWrong : ChangeSpec := { name := "traceMatches", fn := fun _ => fun
  | [d1, d2, d3] => { results := [.lit (.bool false)], args := [d1, d2, d3] }
  | _ => none }
def TraceMatchesWrongFalsely : Prop := traceMatchesRow.holds Tryd.pinned (OpenSpec.ofChange traceMatchesWrong)

/-- 'netlablaw36.TracePatternsMatch': WHATEVER THE INPUT: true; the input reads as it did. -/
def tracePatternsMatchSpec : ChangeSpec := { name := "tracePatternsMatch", fn := fun _ => fun
  | [d1, d2, d3] => { results := [.lit (.bool true)], args := [d1, d2, d3] }
  | _ => none }
def tracePatternsMatchRow : OpenClaim := { program := "ytkcmacdakgohcaadoor", sum := "bb5d27963425b63b3e0776f3052728834e1e8507ca8c46a282040eb270bc4596", func := "netlab/netlablaw36.TracePatternsMatch", spec := "tracePatternsMatch", inPlace := ["internal/abi.NoEscape", "internal/bytealg.IndexByteString", "internal/bytealg.IndexString"], unfollowed := true, recurses := true, named := ["netlab/trace.inverted", "netlab/trace.both", "internal/bytealg.MaxLen"], apart := false, laid := [("netlab/trace.inverted", laid_netlab_trace_inverted), ("netlab/trace.both", laid_netlab_trace_both)] }
def TracePatternsMatchSaid : Prop := tracePatternsMatchRow.holds Tryd.pinned (OpenSpec.ofChange tracePatternsMatchSpec)

/-- ITS FALSE NEIGHBOUR: 'it returns false'. Refute it at one input. -/
def tracePatternsMatchWrong : ChangeSpec := { name := "tracePatternsMatch", fn := fun _ => fun
  | [d1, d2, d3] => { results := [.lit (.bool false)], args := [d1, d2, d3] }
  | _ => none }
def TracePatternsMatchWrongFalsely : Prop := tracePatternsMatchRow.holds Tryd.pinned (OpenSpec.ofChange tracePatternsMatchWrong)

/-- 'netlablaw36.TraceReduces': WHATEVER THE INPUT: true; the input reads as it did. -/
def traceReducesSpec : ChangeSpec := { name := "traceReduces", fn := fun _ => fun
  | [d1, d2, d3, d4] => { results := [.lit (.bool true)], args := [d1, d2, d3, d4] }
  | _ => none }
def traceReducesRow : OpenClaim := { program := "ytkcmacdakgohcaadoor", sum := "bb5d27963425b63b3e0776f3052728834e1e8507ca8c46a282040eb270bc4596", func := "netlab/netlablaw36.TraceReduces", spec := "traceReduces", inPlace := ["internal/abi.NoEscape", "internal/bytealg.IndexByteString", "internal/bytealg.IndexString"], unfollowed := true, recurses := true, named := ["netlab/trace.inverted", "netlab/trace.both", "internal/bytealg.MaxLen"], apart := false, laid := [("netlab/trace.inverted", laid_netlab_trace_inverted), ("netlab/trace.both", laid_netlab_trace_both)] }
def TraceReducesSaid : Prop := traceReducesRow.holds Tryd.pinned (OpenSpec.ofChange traceReducesSpec)

/-- ITS FALSE NEIGHBOUR: 'it returns false'. Refute it at one input. -/
def traceReducesWrong : ChangeSpec := { name := "traceReduces", fn := fun _ => fun
  | [d1, d2, d3, d4] => { results := [.lit (.bool false)], args := [d1, d2, d3, d4] }
  | _ => none }
def TraceReducesWrongFalsely : Prop := traceReducesRow.holds Tryd.pinned (OpenSpec.ofChange traceReducesWrong)

/-- 'netlablaw36.TraceInforms': WHATEVER THE INPUT: true; the input reads as it did. -/
def traceInformsSpec : ChangeSpec := { name := "traceInforms", fn := fun _ => fun
  | [d1, d2, d3, d4] => { results := [.lit (.bool true)], args := [d1, d2, d3, d4] }
  | _ => none }
def traceInformsRow : OpenClaim := { program := "ytkcmacdakgohcaadoor", sum := "bb5d27963425b63b3e0776f3052728834e1e8507ca8c46a282040eb270bc4596", func := "netlab/netlablaw36.TraceInforms", spec := "traceInforms", inPlace := ["internal/abi.NoEscape", "internal/bytealg.IndexByteString", "internal/bytealg.IndexString"], unfollowed := true, recurses := true, named := ["netlab/trace.inverted", "netlab/trace.both", "internal/bytealg.MaxLen"], apart := false, laid := [("netlab/trace.inverted", laid_netlab_trace_inverted), ("netlab/trace.both", laid_netlab_trace_both)] }
def TraceInformsSaid : Prop := traceInformsRow.holds Tryd.pinned (OpenSpec.ofChange traceInformsSpec)

/-- ITS FALSE NEIGHBOUR: 'it returns false'. Refute it at one input. -/
def traceInformsWrong : ChangeSpec := { name := "traceInforms", fn := fun _ => fun
  | [d1, d2, d3, d4] => { results := [.lit (.bool false)], args := [d1, d2, d3, d4] }
  | _ => none }
def TraceInformsWrongFalsely : Prop := traceInformsRow.holds Tryd.pinned (OpenSpec.ofChange traceInformsWrong)

/-- 'netlablaw36.TraceWaves': WHATEVER THE INPUT: true; the input reads as it did. -/
def traceWavesSpec : ChangeSpec := { name := "traceWaves", fn := fun _ => fun
  | [d1, d2] => { results := [.lit (.bool true)], args := [d1, d2] }
  | _ => none }
def traceWavesRow : OpenClaim := { program := "ytkcmacdakgohcaadoor", sum := "bb5d27963425b63b3e0776f3052728834e1e8507ca8c46a282040eb270bc4596", func := "netlab/netlablaw36.TraceWaves", spec := "traceWaves", inPlace := ["internal/abi.NoEscape", "internal/bytealg.IndexByteString", "internal/bytealg.IndexString"], unfollowed := true, recurses := true, named := ["netlab/trace.inverted", "netlab/trace.both", "internal/bytealg.MaxLen"], apart := false, laid := [("netlab/trace.inverted", laid_netlab_trace_inverted), ("netlab/trace.both", laid_netlab_trace_both)] }
def TraceWavesSaid : Prop := traceWavesRow.holds Tryd.pinned (OpenSpec.ofChange traceWavesSpec)

/-- ITS FALSE NEIGHBOUR: 'it returns false'. Refute it at one input. -/
def traceWavesWrong : ChangeSpec := { name := "traceWaves", fn := fun _ => fun
  | [d1, d2] => { results := [.lit (.bool false)], args := [d1, d2] }
  | _ => none }
def TraceWavesWrongFalsely : Prop := traceWavesRow.holds Tryd.pinned (OpenSpec.ofChange traceWavesWrong)

/-- 'netlablaw36.TraceExamples': WHATEVER THE INPUT: true; the input reads as it did. -/
def traceExamplesSpec : ChangeSpec := { name := "traceExamples", fn := fun _ => fun
  | [] => { results := [.lit (.bool true)], args := [] }
  | _ => none }
def traceExamplesRow : OpenClaim := { program := "ytkcmacdakgohcaadoor", sum := "bb5d27963425b63b3e0776f3052728834e1e8507ca8c46a282040eb270bc4596", func := "netlab/netlablaw36.TraceExamples", spec := "traceExamples", inPlace := ["internal/bytealg.IndexByteString", "internal/bytealg.IndexString", "internal/abi.NoEscape"], unfollowed := true, recurses := true, named := ["netlab/trace.inverted", "netlab/trace.both", "internal/bytealg.MaxLen"], apart := false, laid := [("netlab/trace.inverted", laid_netlab_trace_inverted), ("netlab/trace.both", laid_netlab_trace_both)] }
def TraceExamplesSaid : Prop := traceExamplesRow.holds Tryd.pinned (OpenSpec.ofChange traceExamplesSpec)

/-- ITS FALSE NEIGHBOUR: 'it returns false'. Refute it at one input. -/
def traceExamplesWrong : ChangeSpec := { name := "traceExamples", fn := fun _ => fun
  | [] => { results := [.lit (.bool false)], args := [] }
  | _ => none }
def TraceExamplesWrongFalsely : Prop := traceExamplesRow.holds Tryd.pinned (OpenSpec.ofChange traceExamplesWrong)

/- THE SECOND FORM. 'bulk': how many values and letters a reading holds, each counted each time it is reached (what is shared counts as often as it is met; a slice's spare places count too). A statement '..UptoSaid' is the law's where the arguments, and the package variables that the reading takes, are together of bulk at most 1048576: NARROWER than '..Said'. Prove '..Said' where nothing that the law and all that it calls make is longer than what came in: it says more and counts as full. Else prove '..UptoSaid'. A law counts once. -/
mutual
def uptoBulk {H : Type} : DataW H → Nat
  | .lit (.string bytes) => bytes.length + 1
  | .lit _ => 1
  | .nil => 1
  | .ptr d => uptoBulk d + 1
  | .slice elems spare => uptoBulkAll elems + uptoBulkAll spare + 1
  | .agg parts => uptoBulkAll parts + 1
  | .iface _ d => uptoBulk d + 1
  | .map entries => uptoBulkEntries entries + 1
  | .held _ => 1
def uptoBulkAll {H : Type} : List (DataW H) → Nat
  | [] => 0
  | d :: r => uptoBulk d + uptoBulkAll r
def uptoBulkEntries {H : Type} : List (Lit × DataW H) → Nat
  | [] => 0
  | x :: r => uptoBulkEntry x + uptoBulkEntries r
def uptoBulkEntry {H : Type} : Lit × DataW H → Nat
  | (.string bytes, d) => bytes.length + uptoBulk d + 1
  | (_, d) => uptoBulk d + 1
 end
def uptoSmall : (H : Type) → List (DataW H) → Bool := fun _ ds => decide (uptoBulkAll ds ≤ 1048576)
def OpenSpec.upto (s : _root_.Go.ChangeSpec) : _root_.Go.OpenSpec := { _root_.Go.OpenSpec.ofChange s with cond := some uptoSmall }

/-- 'netlablaw36.TraceTextMatches', WHERE WHAT IT READS IS OF BULK AT MOST 1048576: true; the input reads as it did. -/
def traceTextMatchesUptoRow : OpenClaim := { program := "ytkcmacdakgohcaadoor", sum := "bb5d27963425b63b3e0776f3052728834e1e8507ca8c46a282040eb270bc4596", func := "netlab/netlablaw36.TraceTextMatches", spec := "traceTextMatches", inPlace := ["internal/abi.NoEscape", "internal/bytealg.IndexByteString", "internal/bytealg.IndexString"], unfollowed := true, recurses := true, named := ["netlab/trace.inverted", "netlab/trace.both", "internal/bytealg.MaxLen"], apart := false, laid := [("netlab/trace.inverted", laid_netlab_trace_inverted), ("netlab/trace.both", laid_netlab_trace_both)], narrowed := true }
def TraceTextMatchesUptoSaid : Prop := traceTextMatchesUptoRow.holds Tryd.pinned (OpenSpec.upto traceTextMatchesSpec)

/-- 'netlablaw36.TraceText', WHERE WHAT IT READS IS OF BULK AT MOST 1048576: true; the input reads as it did. -/
def traceTextUptoRow : OpenClaim := { program := "ytkcmacdakgohcaadoor", sum := "bb5d27963425b63b3e0776f3052728834e1e8507ca8c46a282040eb270bc4596", func := "netlab/netlablaw36.TraceText", spec := "traceText", inPlace := ["internal/abi.NoEscape", "internal/bytealg.IndexByteString", "internal/bytealg.IndexString"], unfollowed := true, recurses := true, named := ["netlab/trace.inverted", "netlab/trace.both", "internal/bytealg.MaxLen"], apart := false, laid := [("netlab/trace.inverted", laid_netlab_trace_inverted), ("netlab/trace.both", laid_netlab_trace_both)], narrowed := true }
def TraceTextUptoSaid : Prop := traceTextUptoRow.holds Tryd.pinned (OpenSpec.upto traceTextSpec)

/-- 'netlablaw36.TraceMatches', WHERE WHAT IT READS IS OF BULK AT MOST 1048576: true; the input reads as it did. -/
def traceMatchesUptoRow : OpenClaim := { program := "ytkcmacdakgohcaadoor", sum := "bb5d27963425b63b3e0776f3052728834e1e8507ca8c46a282040eb270bc4596", func := "netlab/netlablaw36.TraceMatches", spec := "traceMatches", inPlace := ["internal/abi.NoEscape", "internal/bytealg.IndexByteString", "internal/bytealg.IndexString"], unfollowed := true, recurses := true, named := ["netlab/trace.inverted", "netlab/trace.both", "internal/bytealg.MaxLen"], apart := false, laid := [("netlab/trace.inverted", laid_netlab_trace_inverted), ("netlab/trace.both", laid_netlab_trace_both)], narrowed := true }
def TraceMatchesUptoSaid : Prop := traceMatchesUptoRow.holds Tryd.pinned (OpenSpec.upto traceMatchesSpec)

/-- 'netlablaw36.TracePatternsMatch', WHERE WHAT IT READS IS OF BULK AT MOST 1048576: true; the input reads as it did. -/
def tracePatternsMatchUptoRow : OpenClaim := { program := "ytkcmacdakgohcaadoor", sum := "bb5d27963425b63b3e0776f3052728834e1e8507ca8c46a282040eb270bc4596", func := "netlab/netlablaw36.TracePatternsMatch", spec := "tracePatternsMatch", inPlace := ["internal/abi.NoEscape", "internal/bytealg.IndexByteString", "internal/bytealg.IndexString"], unfollowed := true, recurses := true, named := ["netlab/trace.inverted", "netlab/trace.both", "internal/bytealg.MaxLen"], apart := false, laid := [("netlab/trace.inverted", laid_netlab_trace_inverted), ("netlab/trace.both", laid_netlab_trace_both)], narrowed := true }
def TracePatternsMatchUptoSaid : Prop := tracePatternsMatchUptoRow.holds Tryd.pinned (OpenSpec.upto tracePatternsMatchSpec)

/-- 'netlablaw36.TraceReduces', WHERE WHAT IT READS IS OF BULK AT MOST 1048576: true; the input reads as it did. -/
def traceReducesUptoRow : OpenClaim := { program := "ytkcmacdakgohcaadoor", sum := "bb5d27963425b63b3e0776f3052728834e1e8507ca8c46a282040eb270bc4596", func := "netlab/netlablaw36.TraceReduces", spec := "traceReduces", inPlace := ["internal/abi.NoEscape", "internal/bytealg.IndexByteString", "internal/bytealg.IndexString"], unfollowed := true, recurses := true, named := ["netlab/trace.inverted", "netlab/trace.both", "internal/bytealg.MaxLen"], apart := false, laid := [("netlab/trace.inverted", laid_netlab_trace_inverted), ("netlab/trace.both", laid_netlab_trace_both)], narrowed := true }
def TraceReducesUptoSaid : Prop := traceReducesUptoRow.holds Tryd.pinned (OpenSpec.upto traceReducesSpec)

/-- 'netlablaw36.TraceInforms', WHERE WHAT IT READS IS OF BULK AT MOST 1048576: true; the input reads as it did. -/
def traceInformsUptoRow : OpenClaim := { program := "ytkcmacdakgohcaadoor", sum := "bb5d27963425b63b3e0776f3052728834e1e8507ca8c46a282040eb270bc4596", func := "netlab/netlablaw36.TraceInforms", spec := "traceInforms", inPlace := ["internal/abi.NoEscape", "internal/bytealg.IndexByteString", "internal/bytealg.IndexString"], unfollowed := true, recurses := true, named := ["netlab/trace.inverted", "netlab/trace.both", "internal/bytealg.MaxLen"], apart := false, laid := [("netlab/trace.inverted", laid_netlab_trace_inverted), ("netlab/trace.both", laid_netlab_trace_both)], narrowed := true }
def TraceInformsUptoSaid : Prop := traceInformsUptoRow.holds Tryd.pinned (OpenSpec.upto traceInformsSpec)

/-- 'netlablaw36.TraceWaves', WHERE WHAT IT READS IS OF BULK AT MOST 1048576: true; the input reads as it did. -/
def traceWavesUptoRow : OpenClaim := { program := "ytkcmacdakgohcaadoor", sum := "bb5d27963425b63b3e0776f3052728834e1e8507ca8c46a282040eb270bc4596", func := "netlab/netlablaw36.TraceWaves", spec := "traceWaves", inPlace := ["internal/abi.NoEscape", "internal/bytealg.IndexByteString", "internal/bytealg.IndexString"], unfollowed := true, recurses := true, named := ["netlab/trace.inverted", "netlab/trace.both", "internal/bytealg.MaxLen"], apart := false, laid := [("netlab/trace.inverted", laid_netlab_trace_inverted), ("netlab/trace.both", laid_netlab_trace_both)], narrowed := true }
def TraceWavesUptoSaid : Prop := traceWavesUptoRow.holds Tryd.pinned (OpenSpec.upto traceWavesSpec)

/-- 'netlablaw36.TraceExamples', WHERE WHAT IT READS IS OF BULK AT MOST 1048576: true; the input reads as it did. -/
def traceExamplesUptoRow : OpenClaim := { program := "ytkcmacdakgohcaadoor", sum := "bb5d27963425b63b3e0776f3052728834e1e8507ca8c46a282040eb270bc4596", func := "netlab/netlablaw36.TraceExamples", spec := "traceExamples", inPlace := ["internal/bytealg.IndexByteString", "internal/bytealg.IndexString", "internal/abi.NoEscape"], unfollowed := true, recurses := true, named := ["netlab/trace.inverted", "netlab/trace.both", "internal/bytealg.MaxLen"], apart := false, laid := [("netlab/trace.inverted", laid_netlab_trace_inverted), ("netlab/trace.both", laid_netlab_trace_both)], narrowed := true }
def TraceExamplesUptoSaid : Prop := traceExamplesUptoRow.holds Tryd.pinned (OpenSpec.upto traceExamplesSpec)

end Rows
end Go.Proofs.YtkcmacdakgohcaaDoor
