/- Plain laws of the chapter's functions: Run, Matches, Pattern; the law. -/

import Derived.Test.YtkcmacdakgohcaaDoorL36d
set_option linter.unusedVariables false
set_option linter.unusedSimpArgs false
set_option linter.unusedSectionVars false
open Go Go.AM Go.TM
namespace Go.Proofs.YtkcmacdakgohcaaDoor
def hi3 (v : Int) : Option Unit := if 2 < v then some () else none
def rowB (g : TAig) (r : LI) : Option Int := if (r.length : Int) ≠ g.1 then some 12 else (r.findSome? hi3).elim none fun _ => some 3
def run3 (g : TAig) (p : LLI) : LLI × Int := if chk g ≠ 0 then ([], chk g) else if 64 < (p.length : Int) then ([], 5) else (p.findSome? (rowB g)).elim (sim3 g p (start3 g), 0) fun e => ([], e)
def bitM (b : Int) (v : Bool) : Bool := !(decide (b = 0) && v) && !(decide (b = 1) && !v)
def rowM (r : LI) (s : LB) : Bool := (List.range r.length).all fun j => bitM (r.getD j 0) (s.getD j false)
def matB (p : LLI) (t : LLB) : Bool := decide (p.length = t.length) && ((List.range p.length).all fun k => decide ((p.getD k []).length = (t.getD k []).length)) && (List.range p.length).all fun k => rowM (p.getD k []) (t.getD k [])
def pat3 (t : LLB) : LLI := t.map fun r => r.map bit3
end Go.Proofs.YtkcmacdakgohcaaDoor
