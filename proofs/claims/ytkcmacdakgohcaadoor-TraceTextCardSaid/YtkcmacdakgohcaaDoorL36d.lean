/- Plain laws of the chapter's functions: runs, patterns, what matches. -/

import Derived.Test.YtkcmacdakgohcaaDoorL36c
set_option linter.unusedVariables false
set_option linter.unusedSimpArgs false
set_option linter.unusedSectionVars false
open Go Go.AM Go.TM
namespace Go.Proofs.YtkcmacdakgohcaaDoor
def PatOk (g : TAig) (p : LLI) : Prop := ∀ r ∈ p, (r.length : Int) = g.1 ∧ ∀ v ∈ r, T3 v
end Go.Proofs.YtkcmacdakgohcaaDoor
