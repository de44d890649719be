/- Identifiers: numbers in base 94 without a zero. -/

import Derived.Test.YtomnbibmflodlaaDoorPl
set_option linter.unusedVariables false
set_option linter.unusedSimpArgs false
set_option linter.unusedSectionVars false
open Go Go.AM Go.TM
namespace Go.AM.Ids
def idB : Nat → Int
 | 0 => 0
 | n + 1 => 94 * (idB n + 1)
def idF : Nat → Int → List Int
 | 0, _ => []
 | n + 1, i => if i < 0 then [] else (33 + i % 94) :: idF n (i / 94 - 1)
theorem idB10 : 9223372036854775807 < idB 10 := by decide
theorem idF_len : ∀ (n : Nat) (i : Int), (idF n i).length ≤ n := by
 intro n
 induction n with
 | zero => intro i; simp [idF]
 | succ n ih =>
  intro i
  unfold idF
  split
  ·simp
  ·have := ih (i / 94 - 1); simp; omega
theorem idF_byte : ∀ (n : Nat) (i : Int), ∀ b ∈ idF n i, 33 ≤ b ∧ b ≤ 126 := by
 intro n
 induction n with
 | zero => intro i b hb; cases hb
 | succ n ih =>
  intro i b hb
  unfold idF at hb
  split at hb
  ·cases hb
  ·rcases List.mem_cons.1 hb with e | e
   ·omega
   ·exact ih _ b e
theorem idF_nil {n : Nat} {i : Int} : idF (n + 1) i = [] ↔ i < 0 := by
 unfold idF
 split
 ·simp [*]
 ·simp [*]
theorem idF_inj : ∀ (n : Nat) (i j : Int), -1 ≤ i → -1 ≤ j → i < idB n → j < idB n → idF n i = idF n j → i = j := by
 intro n
 induction n with
 | zero => intro i j h1 h2 h3 h4 _; simp [idB] at h3 h4; omega
 | succ n ih =>
  intro i j h1 h2 h3 h4 h
  simp only [idB] at h3 h4
  unfold idF at h
  split at h
  ·split at h
   ·omega
   ·cases h
  ·split at h
   ·cases h
   ·simp only [List.cons.injEq] at h
    have := ih (i / 94 - 1) (j / 94 - 1) (by omega) (by omega) (by omega) (by omega) h.2
    omega
end Go.AM.Ids
