/- What is given to the typed machine in this chapter: laid variables, functions that are answered by a table. -/

import Derived.Test.YtomnbibmflodlaaDoorProg
import Derived.Test.YtomnbibmflodlaaDoorAmRow
import Derived.Test.YtomnbibmflodlaaDoorIx
import Derived.Test.YtomnbibmflodlaaDoorTmList
import Derived.Test.YtomnbibmflodlaaDoorSh19
import Derived.KernelRfl
set_option linter.unusedVariables false
set_option linter.unusedSimpArgs false
set_option linter.unusedSectionVars false
open Go Go.AM
namespace Go.Proofs.YtomnbibmflodlaaDoor
def G0 : Nat → Option (Array Value) := fun _ => none
@[reducible] def EQ : EqV := EqV.kernel G0
@[reducible] noncomputable def EQA : EqV := EqV.all G0
noncomputable abbrev P0 : Program := Tryd.prog
noncomputable def S0 : PSumm := (PSumm.none.put 50 fun args _ => smRep args).put 15 smJoin
noncomputable def S1 : PSumm := S0.put 97 fun args _ => smIdx args
noncomputable def S2 : PSumm := S1.put 44 fun args _ => match args with
 | [x] => some x
 | _ => none
noncomputable def S3 : PSumm := PSumm.none.put 5 fun args _ => match args with
 | [] => some (.bool true)
 | _ => none
theorem globN : P0.globals.size = 6 := by kernel_rfl
noncomputable def run (S : PSumm) (f : FuncId) (args : List Value) : β := @evK EQ P0 S 1000 (.fn f) args .leaf 6 (chkB 6 true)
end Go.Proofs.YtomnbibmflodlaaDoor
