/- The chapter's examples, by the kernel. -/

import Derived.Test.YtkcmacdakgohcaaDoorB36
set_option linter.unusedVariables false
open Go Go.AM
namespace Go.Proofs.YtkcmacdakgohcaaDoor
theorem awake_ev : run S2 17 [] = some () := by kernel_rfl
end Go.Proofs.YtkcmacdakgohcaaDoor
