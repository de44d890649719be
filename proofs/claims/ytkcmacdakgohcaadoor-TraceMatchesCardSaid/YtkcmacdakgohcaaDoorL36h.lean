/- Plain laws: waveforms. -/

import Derived.Test.YtkcmacdakgohcaaDoorL36g
import Derived.Test.YtkcmacdakgohcaaDoorL36f
set_option linter.unusedVariables false
set_option linter.unusedSimpArgs false
set_option linter.unusedSectionVars false
open Go Go.AM Go.TM
namespace Go.Proofs.YtkcmacdakgohcaaDoor
abbrev TVar : Type := LStr × (Str × Int)
abbrev TChg : Type := Int × (Int × Str)
abbrev TWave : Type := Str × (List TVar × List TChg)
abbrev TMach : Type := TAig × (LStr × (LStr × LStr))
def cs (v : Bool) : Str := if v = true then [49] else [48]
def chg (k : Nat) (was now : LB) (i : Nat) : Bool := decide (k = 0) || now.getD i false != was.getD i false
def chgI (k : Nat) (was now : LB) (i : Nat) : Option TChg := if chg k was now i = true then some ((k : Int), ((i : Int), cs (now.getD i false))) else none
def chgs (k : Nat) (was now : LB) (n : Nat) : List TChg := (List.range n).filterMap (chgI k was now)
end Go.Proofs.YtkcmacdakgohcaaDoor
