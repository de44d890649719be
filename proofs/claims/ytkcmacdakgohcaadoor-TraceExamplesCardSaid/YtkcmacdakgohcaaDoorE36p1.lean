/- Parsed texts, by the kernel. -/
import Derived.Test.YtkcmacdakgohcaaDoorE36
open Go Go.AM
namespace Go.Proofs.YtkcmacdakgohcaaDoor
attribute [local instance] EQ
theorem p1_ev : allV (run S4 42) tab42 = true := by kernel_rfl
end Go.Proofs.YtkcmacdakgohcaaDoor
