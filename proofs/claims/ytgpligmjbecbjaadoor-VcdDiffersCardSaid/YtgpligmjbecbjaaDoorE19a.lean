/- The chapter's examples, by the kernel. -/

import Derived.Test.YtgpligmjbecbjaaDoorB19
open Go Go.AM
namespace Go.Proofs.YtgpligmjbecbjaaDoor
theorem awake_ev : run S2 9 [] = some () := by kernel_rfl
end Go.Proofs.YtgpligmjbecbjaaDoor
