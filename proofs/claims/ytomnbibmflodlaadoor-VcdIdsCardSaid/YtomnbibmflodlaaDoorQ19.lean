/- What was printed is what the typed machine comes to. -/

import Derived.Test.YtomnbibmflodlaaDoorD19
import Derived.KernelRfl
import Derived.Test.YtomnbibmflodlaaDoorProg
set_option linter.unusedVariables false
set_option linter.unusedSimpArgs false
set_option linter.unusedSectionVars false
open Go Go.AM Go.TM
namespace Go.Proofs.YtomnbibmflodlaaDoor
variable {S : Summ} [EqV]
theorem eq_vcd_Id (a0 : Int) : F_vcd_Id a0 = tmFun Go.Proofs.Tryd.prog gl ann itS (fun g => findS g L0) effs 40 4 false [(.int .i64)] [.str] [.no] (a0) := by kernel_rfl
theorem ok_vcd_Id (B : TBase Go.Proofs.Tryd.prog S gl effs) (h : OKL Go.Proofs.Tryd.prog S effs L0) : OKL Go.Proofs.Tryd.prog S effs L_vcd_Id := OKL.cons B (h) (by kernel_rfl) (by kernel_rfl) fun x => eq_vcd_Id x
theorem eq_w19_VcdIds (a0 : Int) (a1 : Int) : F_w19_VcdIds a0 a1 = tmFun Go.Proofs.Tryd.prog gl ann itS (fun g => findS g L_vcd_Id) effs 40 3 false [(.int .i64), (.int .i64)] [.bool] [.no] (a0, a1) := by kernel_rfl
theorem ok_w19_VcdIds (B : TBase Go.Proofs.Tryd.prog S gl effs) (h : OKL Go.Proofs.Tryd.prog S effs L0) : OKL Go.Proofs.Tryd.prog S effs L_w19_VcdIds := OKL.cons B (ok_vcd_Id B h) (by kernel_rfl) (by kernel_rfl) fun x => eq_w19_VcdIds x.1 x.2
end Go.Proofs.YtomnbibmflodlaaDoor
