/- The chapter's examples, by the kernel. -/

import Derived.Test.YtiiancghhloalaaGreatDoorB20
set_option linter.unusedVariables false
open Go Go.AM
namespace Go.Proofs.YtiiancghhloalaaGreatDoor
theorem awake_ev : run S2 18 [] = some () := by kernel_rfl
end Go.Proofs.YtiiancghhloalaaGreatDoor
