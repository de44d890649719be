/- What a closed call is checked against: the tables of calls of this law. -/
import Derived.Test.YtkcmacdakgohcaaDoorProg
import Derived.Test.YtkcmacdakgohcaaDoorAmRow
import Derived.KernelRfl
set_option linter.unusedVariables false
set_option linter.unusedSimpArgs false
set_option linter.unusedSectionVars false
open Go Go.AM
namespace Go.Proofs.YtkcmacdakgohcaaDoor
def G0 : Nat → Option (Array Value) := fun g => match g with
  | 2 => some #[.int .u8 1, .int .u8 0, .int .u8 2]
  | 1 => some #[.int .u8 0, .int .u8 0, .int .u8 0, .int .u8 0, .int .u8 1, .int .u8 2, .int .u8 0, .int .u8 2, .int .u8 2]
  | _ => none
@[reducible] def EQ : EqV := EqV.kernel G0
attribute [local instance] EQ
noncomputable abbrev P0 : Program := Tryd.prog
def int (n : Int) : Value := .int .i64 n
def text (t : List Nat) : Value := .string ⟨⟨bytesN t⟩⟩
noncomputable def S1 : PSumm := PSumm.none.put 105 fun args _ => smIdx args
noncomputable def S2 : PSumm := S1.put 101 fun args _ => match args with
  | [x] => some x
  | _ => none
noncomputable def S3 : PSumm := S2.put 17 fun args _ => match args with
  | [] => some (.bool true)
  | _ => none
def T1 : List (List Nat) := [[], [48], [48, 49], [48, 49, 120], [48, 49, 120, 10], [48, 49, 120, 10, 49], [48, 49, 120, 10, 49, 49], [48, 49, 120, 10, 49, 49, 48], [48, 49, 120, 10, 49, 49, 48, 10]]
def T2 : List (List Nat) := [[50, 49, 120, 10, 49, 49, 48, 10, 10], [48, 50, 120, 10, 49, 49, 48, 10, 10], [48, 49, 50, 10, 49, 49, 48, 10, 10], [48, 49, 120, 50, 49, 49, 48, 10, 10], [48, 49, 120, 10, 50, 49, 48, 10, 10], [48, 49, 120, 10, 49, 50, 48, 10, 10], [48, 49, 120, 10, 49, 49, 50, 10, 10], [48, 49, 120, 10, 49, 49, 48, 50, 10], [48, 49, 120, 10, 49, 49, 48, 10, 50]]
def T3 : List (List Nat) := [[10, 49, 120, 10, 49, 49, 48, 10, 10], [48, 10, 120, 10, 49, 49, 48, 10, 10], [48, 49, 10, 10, 49, 49, 48, 10, 10], [48, 49, 120, 10, 49, 49, 48, 10, 10], [48, 49, 120, 10, 10, 49, 48, 10, 10], [48, 49, 120, 10, 49, 10, 48, 10, 10], [48, 49, 120, 10, 49, 49, 10, 10, 10]]
def many : Nat → List Nat
  | 0 => []
  | n + 1 => 49 :: 10 :: many n
def row (l : List Value) : Value := LST l.length ⟨l⟩
/-- The calls of TraceTextMatches, of parsed and of TraceMatches. -/
def tab3 (T : List (List Nat)) : List (List Value) := T.map fun t => [.slice none 0 0, text t]
def tab3p : List (List Value) := [0, 1, 2, 3, 4, 5, 6, 7, 8].map fun c => [row [row [.int .u8 c]], text [88]]
def tab42 : List (List Value) := [[text [], int 0, int 0], [text [10], int 0, int 0], [text [48, 49, 10, 10, 120], int 5, int 3]]
def tab42a : List (List Value) := [[text (many 65), int 0, int 5]]
def tab42b : List (List Value) := [[text (many 64), int 0, int 0]]
def graph : Value := .agg ⟨[int 2, LST 1 ⟨[int 9, .int .u8 0]⟩, LST 2 ⟨[int 2, int 4, int 6, int 2]⟩, row [int 10]]⟩
def tt (a b : Bool) : Value := row [.bool a, .bool b]
def tab5 : List (List Value) := [[graph, int 0, row [tt true true, tt true false, tt true false]]]
noncomputable def yes (l : List Value) (T : List (List Value)) : Option Value := Bool.rec none (some (.bool true)) (memVL l T)
noncomputable def all3 : List (List Value) := tab3 T1 ++ (tab3 T2 ++ (tab3 T3 ++ tab3p))
noncomputable def all42 : List (List Value) := tab42 ++ (tab42a ++ tab42b)
noncomputable def S4 : PSumm := S3.put 3 fun args g => (deepL g args).bind fun ds => yes ds all3
noncomputable def S5 : PSumm := S4.put 42 fun args g => (deepL g args).bind fun ds => yes ds all42
noncomputable def S6 : PSumm := S5.put 5 fun args g => (deepL g args).bind fun ds => yes ds tab5
noncomputable def run (S : PSumm) (f : FuncId) (args : List Value) : β := evK P0 S 1000 (.fn f) args .leaf 3 (chkB 3 true)
end Go.Proofs.YtkcmacdakgohcaaDoor
