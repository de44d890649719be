/- The chapter's examples, by the kernel. -/

import Derived.Test.YtgpligmjbecbjaaGreatDoorB36s
set_option linter.unusedVariables false
open Go Go.AM
namespace Go.Proofs.YtgpligmjbecbjaaGreatDoor
theorem awake_ev : run S2 14 [] = some () := by kernel_rfl
end Go.Proofs.YtgpligmjbecbjaaGreatDoor
