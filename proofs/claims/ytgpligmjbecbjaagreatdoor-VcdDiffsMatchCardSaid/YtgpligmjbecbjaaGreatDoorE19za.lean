/- The chapter's examples, by the kernel. -/

import Derived.Test.YtgpligmjbecbjaaGreatDoorB19z
open Go Go.AM
namespace Go.Proofs.YtgpligmjbecbjaaGreatDoor
theorem awake_ev : run S2 21 [] = some () := by kernel_rfl
end Go.Proofs.YtgpligmjbecbjaaGreatDoor
