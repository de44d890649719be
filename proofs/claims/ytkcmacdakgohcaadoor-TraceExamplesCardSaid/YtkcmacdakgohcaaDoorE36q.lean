/- The law of Check, Fails and Reduce at one trace, by the kernel. -/
import Derived.Test.YtkcmacdakgohcaaDoorE36
open Go Go.AM
namespace Go.Proofs.YtkcmacdakgohcaaDoor
attribute [local instance] EQ
theorem q_ev : allV (run S5 5) tab5 = true := by kernel_rfl
end Go.Proofs.YtkcmacdakgohcaaDoor
