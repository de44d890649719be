/- The law TraceWaves in plain Lean. -/

import Derived.Test.YtkcmacdakgohcaaDoorL36h
set_option linter.unusedVariables false
set_option linter.unusedSimpArgs false
set_option linter.unusedSectionVars false
open Go Go.AM Go.TM
namespace Go.Proofs.YtkcmacdakgohcaaDoor
def rowK (t s o : LLB) (k : Nat) : LB := (t.getD k [] ++ s.getD k []) ++ o.getD k []
def wasK (t s o : LLB) : Nat → LB
 | 0 => []
 | k + 1 => rowK t s o k
def chUp (t s o : LLB) : Nat → List TChg
 | 0 => []
 | k + 1 => chUp t s o k ++ chgs k (wasK t s o k) (rowK t s o k) (rowK t s o k).length
def names (m : TMach) : LStr := (m.2.1 ++ m.2.2.1) ++ m.2.2.2
def vars (m : TMach) : List TVar := (names m).map fun n => ([], (n, 1))
def wave (m : TMach) (t : LLB) : TWave × Int :=
 if chk m.1 ≠ 0 then (([], ([], [])), chk m.1) else if (m.2.1.length : Int) ≠ m.1.1 then (([], ([], [])), 12) else if m.2.2.1.length ≠ m.1.2.1.length then (([], ([], [])), 12) else if m.2.2.2.length ≠ m.1.2.2.2.length then (([], ([], [])), 12) else
 if (run2 m.1 t).2.2 ≠ 0 then (([], ([], [])), (run2 m.1 t).2.2) else (([49, 110, 115], (vars m, chUp t (run2 m.1 t).2.1 (run2 m.1 t).1 t.length)), 0)
theorem sim2_len (g : TAig) : ∀ (t : LLB) (st : LB), (sim2 g t st).1.length = t.length ∧ (sim2 g t st).2.length = t.length := by
 intro t
 induction t with
 | nil => intro st; exact ⟨rfl, rfl⟩
 | cons i t ih => intro st; exact ⟨by simp [sim2, (ih _).1], by simp [sim2, (ih _).2]⟩
theorem sim2_row (g : TAig) : ∀ (t : LLB) (st : LB), (∀ o ∈ (sim2 g t st).1, o.length = g.2.2.2.length) ∧ ∀ s ∈ (sim2 g t st).2, s.length = g.2.1.length := by
 intro t
 induction t with
 | nil => intro st; exact ⟨fun o h => (by cases h), fun o h => (by cases h)⟩
 | cons i t ih =>
  intro st
  refine ⟨fun o h => ?_, fun s h => ?_⟩
  ·rcases List.mem_cons.1 h with rfl | h
   ·simp [outs2]
   ·exact (ih _).1 o h
  ·rcases List.mem_cons.1 h with rfl | h
   ·simp [next2]
   ·exact (ih _).2 s h
structure RunOk (g : TAig) (t : LLB) : Prop where
 c : chk g = 0
 n : t.length ≤ 64
 lo : (run2 g t).1.length = t.length
 ls : (run2 g t).2.1.length = t.length + 1
 row : ∀ k, k < t.length → (rowK t (run2 g t).2.1 (run2 g t).1 k).length = g.1.toNat + g.2.1.length + g.2.2.2.length
def WvB (m : TMach) : Prop := m.2.1.length ≤ 1000 ∧ m.2.2.1.length ≤ 1000 ∧ m.2.2.2.length ≤ 1000
abbrev yMach : Ty := .st (.pair yAig (.pair (.slice .str) (.pair (.slice .str) (.slice .str))))
end Go.Proofs.YtkcmacdakgohcaaDoor
