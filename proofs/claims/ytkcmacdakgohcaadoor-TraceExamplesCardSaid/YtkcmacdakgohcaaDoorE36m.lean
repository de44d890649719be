/- The law itself, by the kernel, over the tables. -/
import Derived.Test.YtkcmacdakgohcaaDoorE36
open Go Go.AM
namespace Go.Proofs.YtkcmacdakgohcaaDoor
attribute [local instance] EQ
theorem main_ev : run S6 10 [] = some () := by kernel_rfl
end Go.Proofs.YtkcmacdakgohcaaDoor
