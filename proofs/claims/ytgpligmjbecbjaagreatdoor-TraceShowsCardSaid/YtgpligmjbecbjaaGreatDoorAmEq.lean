/- The two looks at whether values are the same: by the kernel, by all means. -/

import Derived.Test.YtgpligmjbecbjaaGreatDoorAmDef
set_option linter.unusedVariables false
set_option linter.unusedSimpArgs false
set_option linter.unusedSectionVars false
namespace Go.AM
open Go

theorem zip_all_eq {n : Nat} (ih : ∀ a b, veq n a b = true → a = b) : ∀ (x z : List Value), x.length = z.length → ((x.zip z).all fun p => veq n p.1 p.2) = true → x = z := by
 intro x
 induction x with
 | nil => intro z h _; cases z with | nil => rfl | cons => cases h
 | cons a r ihr =>
  intro z h hh; cases z with
  | nil => cases h
  | cons b s =>
   simp only [List.zip_cons_cons, List.all_cons, Bool.and_eq_true] at hh; rw [ih a b hh.1, ihr s (by simpa using h) hh.2]

theorem veq_sound : ∀ (n : Nat) (a b : Value), veq n a b = true → a = b := by
 intro n
 induction n with
 | zero => intro a b h; cases h
 | succ n ih =>
  intro a b h; unfold veq at h; split at h
  all_goals (first | (cases h; done) | rfl | skip)
  ·rw [beq_iff_eq.1 h]
  ·simp only [Bool.and_eq_true, beq_iff_eq] at h; rw [h.1, h.2]
  ·rename_i a b
   obtain ⟨a⟩ := a; obtain ⟨b⟩ := b; rw [show a = b from beq_iff_eq.1 h]
  ·rw [beq_iff_eq.1 h]
  ·simp only [Bool.and_eq_true, beq_iff_eq] at h; rw [h.1.1, h.1.2, h.2]
  ·rw [beq_iff_eq.1 h]
  ·simp only [Bool.and_eq_true, beq_iff_eq] at h
   obtain ⟨⟨⟨⟨h1, h2⟩, h3⟩, h4⟩, h5⟩ := h; have e1 := zip_all_eq ih _ _ (by simpa using h2) h4; have e2 := zip_all_eq ih _ _ (by simpa using h3) h5; rw [h1, Array.toList_inj.1 e1, Array.toList_inj.1 e2]

@[reducible] def EqV.kernel (G : Nat → Option (Array Value)) : EqV := ⟨veq 9, veq_sound 9, G⟩
open Classical in
@[reducible] noncomputable def EqV.all (G : Nat → Option (Array Value)) : EqV := ⟨fun a b => decide (a = b), fun a b h => of_decide_eq_true h, G⟩
theorem EqV.all_eq (G : Nat → Option (Array Value)) (a b : Value) : (EqV.all G).eq a b = true ↔ a = b := ⟨(EqV.all G).sound a b, fun h => @decide_eq_true _ (Classical.propDecidable _) h⟩

end Go.AM
