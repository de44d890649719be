/- Texts with one byte changed, by the kernel. -/
import Derived.Test.YtkcmacdakgohcaaDoorE36
open Go Go.AM
namespace Go.Proofs.YtkcmacdakgohcaaDoor
attribute [local instance] EQ
theorem t2_ev : allV (run S3 3) (tab3 T2) = true := by kernel_rfl
end Go.Proofs.YtkcmacdakgohcaaDoor
