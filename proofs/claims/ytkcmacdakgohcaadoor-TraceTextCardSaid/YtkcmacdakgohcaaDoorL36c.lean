/- Plain laws of the chapter's functions: three-valued simulation. -/

import Derived.Test.YtkcmacdakgohcaaDoorL36b
set_option linter.unusedVariables false
set_option linter.unusedSimpArgs false
set_option linter.unusedSectionVars false
open Go Go.AM Go.TM
namespace Go.Proofs.YtkcmacdakgohcaaDoor
def not3 (b : Int) : Int := if b = 0 then 1 else if b = 1 then 0 else 2
def and3 (a b : Int) : Int := if a = 0 ∨ b = 0 then 0 else if a = 1 ∧ b = 1 then 1 else 2
def of3 (bits : LI) (x : Int) : Int := if x % 2 = 1 then not3 (bits.getD (x / 2).toNat 0) else bits.getD (x / 2).toNat 0
def step3 (b : LI) (x : Int × Int) : LI := b ++ [and3 (of3 b x.1) (of3 b x.2)]
def bits3 (g : TAig) (inp st : LI) : LI := g.2.2.1.foldl step3 (([0] ++ inp) ++ st)
def outs3 (g : TAig) (b : LI) : LI := g.2.2.2.map (of3 b)
def next3 (g : TAig) (b : LI) : LI := g.2.1.map fun l => of3 b l.1
def bit3 (v : Bool) : Int := if v = true then 1 else 0
def start3 (g : TAig) : LI := g.2.1.map fun l => bit3 (decide (l.2 = 1))
def sim3 (g : TAig) : LLI → LI → LLI
 | [], _ => []
 | inp :: r, st => outs3 g (bits3 g inp st) :: sim3 g r (next3 g (bits3 g inp st))
def T3 (b : Int) : Prop := 0 ≤ b ∧ b ≤ 2
theorem T3.cases {b : Int} (h : T3 b) : b = 0 ∨ b = 1 ∨ b = 2 := by unfold T3 at h; omega
theorem and3_T (a b : Int) : T3 (and3 a b) := by unfold and3 T3; split <;> (try split) <;> omega
theorem step3_T {l : LI} (h : ∀ v ∈ l, T3 v) (x : Int × Int) : ∀ v ∈ step3 l x, T3 v := fun v hv => by
 rcases List.mem_append.1 hv with hv | hv
 ·exact h v hv
 ·rw [List.mem_singleton.1 hv]; exact and3_T _ _
theorem foldl_snoc {α β : Type} (f : α → β) (l : List α) (out : List β) : l.foldl (fun out x => out ++ [f x]) out = out ++ l.map f := by
 induction l generalizing out with
 | nil => simp
 | cons x l ih => simp [ih]
def BitsI (g : TAig) (i : Nat) (b : LI) : Prop := (b.length : Int) = fst0 g + i ∧ ∀ v ∈ b, T3 v
theorem BitsI.step {g : TAig} {i : Nat} {b : LI} (h : BitsI g i b) (x : Int × Int) : BitsI g (i + 1) (step3 b x) :=
 ⟨by have := h.1; simp only [step3, List.length_append, List.length_singleton]; omega, step3_T h.2 x⟩
theorem BitsI.all {g : TAig} : ∀ (l : List (Int × Int)) (i : Nat) (b : LI), BitsI g i b → BitsI g (i + l.length) (l.foldl step3 b) := by
 intro l
 induction l with
 | nil => intro i b h; exact h
 | cons x l ih => intro i b h; have := ih (i + 1) _ (h.step x); rw [show i + (x :: l).length = i + 1 + l.length by simp; omega]; exact this
end Go.Proofs.YtkcmacdakgohcaaDoor
