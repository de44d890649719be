/- The chapter's examples, by the kernel. -/

import Derived.Test.YtomnbibmflodlaaDoorB19
set_option linter.unusedVariables false
open Go Go.AM
namespace Go.Proofs.YtomnbibmflodlaaDoor
theorem awake_ev : run S2 5 [] = some () := by kernel_rfl
end Go.Proofs.YtomnbibmflodlaaDoor
