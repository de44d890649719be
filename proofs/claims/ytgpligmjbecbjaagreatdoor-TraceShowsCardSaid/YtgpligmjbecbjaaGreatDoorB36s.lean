/- What is given to the typed machine in this chapter: laid variables, functions that are answered by a table. -/

import Derived.Test.YtgpligmjbecbjaaGreatDoorProg
import Derived.Test.YtgpligmjbecbjaaGreatDoorAmRow
import Derived.Test.YtgpligmjbecbjaaGreatDoorIx
import Derived.Test.YtgpligmjbecbjaaGreatDoorTmList
import Derived.Test.YtgpligmjbecbjaaGreatDoorSh19z
import Derived.KernelRfl
set_option linter.unusedVariables false
set_option linter.unusedSimpArgs false
set_option linter.unusedSectionVars false
open Go Go.AM
namespace Go.Proofs.YtgpligmjbecbjaaGreatDoor
def G0 : Nat → Option (Array Value) := fun g => match g with
 | 5 => some #[.int .u8 1, .int .u8 0, .int .u8 2]
 | 0 => some #[.int .u8 0, .int .u8 0, .int .u8 0, .int .u8 0, .int .u8 1, .int .u8 2, .int .u8 0, .int .u8 2, .int .u8 2]
 | _ => none
@[reducible] def EQ : EqV := EqV.kernel G0
@[reducible] noncomputable def EQA : EqV := EqV.all G0
noncomputable abbrev P0 : Program := Tryz.prog
noncomputable def S1 : PSumm := PSumm.none.put 167 fun args _ => smIdx args
noncomputable def S2 : PSumm := S1.put 149 fun args _ => match args with
 | [x] => some x
 | _ => none
noncomputable def S3 : PSumm := (((PSumm.none.put 14 fun args _ => match args with
 | [] => some (.bool true)
 | _ => none).put 72 fun args _ => smTrim args).put 85 fun args _ => smRep args).put 38 smClone
theorem globN : P0.globals.size = 8 := by kernel_rfl
noncomputable def run (S : PSumm) (f : FuncId) (args : List Value) : β := @evK EQ P0 S 1000 (.fn f) args .leaf 8 (chkB 8 true)
end Go.Proofs.YtgpligmjbecbjaaGreatDoor
