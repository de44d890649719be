/- The chapter's examples, by the kernel. -/

import Derived.Test.YtgpligmjbecbjaaGreatDoorB19z
set_option linter.unusedVariables false
open Go Go.AM
namespace Go.Proofs.YtgpligmjbecbjaaGreatDoor
theorem awake_ev : run S2 21 [] = some () := by kernel_rfl
end Go.Proofs.YtgpligmjbecbjaaGreatDoor
