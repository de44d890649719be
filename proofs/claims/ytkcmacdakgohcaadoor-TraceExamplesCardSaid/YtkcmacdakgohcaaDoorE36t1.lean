/- Texts cut off, by the kernel. -/
import Derived.Test.YtkcmacdakgohcaaDoorE36
open Go Go.AM
namespace Go.Proofs.YtkcmacdakgohcaaDoor
attribute [local instance] EQ
theorem t1_ev : allV (run S3 3) (tab3 T1) = true := by kernel_rfl
end Go.Proofs.YtkcmacdakgohcaaDoor
