/- What is given to the typed machine in this chapter: laid variables, functions that are answered by a table. -/

import Derived.Test.YtkcmacdakgohcaaDoorProg
import Derived.Test.YtkcmacdakgohcaaDoorAmRow
import Derived.Test.YtkcmacdakgohcaaDoorIx
import Derived.Test.YtkcmacdakgohcaaDoorTmList
import Derived.KernelRfl
set_option linter.unusedVariables false
set_option linter.unusedSimpArgs false
set_option linter.unusedSectionVars false
open Go Go.AM
namespace Go.Proofs.YtkcmacdakgohcaaDoor
def G0 : Nat → Option (Array Value) := fun g => match g with
 | 2 => some #[.int .u8 1, .int .u8 0, .int .u8 2]
 | 1 => some #[.int .u8 0, .int .u8 0, .int .u8 0, .int .u8 0, .int .u8 1, .int .u8 2, .int .u8 0, .int .u8 2, .int .u8 2]
 | _ => none
@[reducible] def EQ : EqV := EqV.kernel G0
@[reducible] noncomputable def EQA : EqV := EqV.all G0
noncomputable abbrev P0 : Program := Tryd.prog
noncomputable def S1 : PSumm := PSumm.none.put 105 fun args _ => smIdx args
noncomputable def S2 : PSumm := S1.put 101 fun args _ => match args with
 | [x] => some x
 | _ => none
noncomputable def S3 : PSumm := S2.put 17 fun args _ => match args with
 | [] => some (.bool true)
 | _ => none
noncomputable def run (S : PSumm) (f : FuncId) (args : List Value) : β := @evK EQ P0 S 1000 (.fn f) args .leaf 3 (chkB 3 true)
end Go.Proofs.YtkcmacdakgohcaaDoor
