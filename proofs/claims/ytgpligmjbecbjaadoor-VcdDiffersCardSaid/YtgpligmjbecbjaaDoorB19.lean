/- What is given to the typed machine in this chapter: laid variables, functions that are answered by a table. -/

import Derived.Test.YtgpligmjbecbjaaDoorProg
import Derived.Test.YtgpligmjbecbjaaDoorAmRow
import Derived.Test.YtgpligmjbecbjaaDoorIx
import Derived.Test.YtgpligmjbecbjaaDoorTmList
import Derived.Test.YtgpligmjbecbjaaDoorSh19
import Derived.KernelRfl
open Go Go.AM
namespace Go.Proofs.YtgpligmjbecbjaaDoor
def G0 : Nat → Option (Array Value) := fun _ => none
@[reducible] def EQ : EqV := EqV.kernel G0
@[reducible] noncomputable def EQA : EqV := EqV.all G0
noncomputable abbrev P0 : Program := Tryd.prog
noncomputable def S0 : PSumm := (PSumm.none.put 59 fun args _ => smRep args).put 48 smJoin
noncomputable def S1 : PSumm := S0.put 103 fun args _ => smIdx args
noncomputable def S2 : PSumm := S1.put 80 fun args _ => match args with
 | [x] => some x
 | _ => none
noncomputable def S3 : PSumm := (((PSumm.none.put 9 fun args _ => match args with
 | [] => some (.bool true)
 | _ => none).put 19 fun args _ => smTrim args).put 59 fun args _ => smRep args).put 14 smClone
theorem globN : P0.globals.size = 6 := by kernel_rfl
noncomputable def run (S : PSumm) (f : FuncId) (args : List Value) : β := @evK EQ P0 S 1000 (.fn f) args .leaf 6 (chkB 6 true)
end Go.Proofs.YtgpligmjbecbjaaDoor
