/- Patterns of one number, by the kernel. -/
import Derived.Test.YtkcmacdakgohcaaDoorE36
open Go Go.AM
namespace Go.Proofs.YtkcmacdakgohcaaDoor
attribute [local instance] EQ
theorem t4_ev : allV (run S3 3) tab3p = true := by kernel_rfl
end Go.Proofs.YtkcmacdakgohcaaDoor
