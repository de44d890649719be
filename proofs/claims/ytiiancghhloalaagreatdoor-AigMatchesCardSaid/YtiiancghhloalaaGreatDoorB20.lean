/- What is given to the typed machine in this chapter: laid variables, functions that are answered by a table. -/

import Derived.Test.YtiiancghhloalaaGreatDoorProg
import Derived.Test.YtiiancghhloalaaGreatDoorAmRow
import Derived.Test.YtiiancghhloalaaGreatDoorIx
import Derived.Test.YtiiancghhloalaaGreatDoorTmList
import Derived.KernelRfl
set_option linter.unusedVariables false
set_option linter.unusedSimpArgs false
set_option linter.unusedSectionVars false
open Go Go.AM
namespace Go.Proofs.YtiiancghhloalaaGreatDoor
def G0 : Nat → Option (Array Value) := fun _ => none
@[reducible] def EQ : EqV := EqV.kernel G0
@[reducible] noncomputable def EQA : EqV := EqV.all G0
noncomputable abbrev P0 : Program := Tryz.prog
noncomputable def S1 : PSumm := PSumm.none.put 165 fun args _ => smIdx args
noncomputable def S2 : PSumm := S1.put 121 fun args _ => match args with
 | [x] => some x
 | _ => none
noncomputable def S3 : PSumm := PSumm.none.put 18 fun args _ => match args with
 | [] => some (.bool true)
 | _ => none
theorem globN : P0.globals.size = 8 := by kernel_rfl
noncomputable def run (S : PSumm) (f : FuncId) (args : List Value) : β := @evK EQ P0 S 1000 (.fn f) args .leaf 8 (chkB 8 true)
end Go.Proofs.YtiiancghhloalaaGreatDoor
