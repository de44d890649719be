/- The chapter's examples, by the kernel. -/
import Derived.Test.YtkcmacdakgohcaaDoorE36
open Go Go.AM
namespace Go.Proofs.YtkcmacdakgohcaaDoor
attribute [local instance] EQ
theorem awake_ev : run S2 17 [] = some () := by kernel_rfl
end Go.Proofs.YtkcmacdakgohcaaDoor
