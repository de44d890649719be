/- Plain laws about what the typed machine prints: its words, its loops. -/

import Derived.Test.YtomnbibmflodlaaDoorTmList
set_option linter.unusedVariables false
set_option linter.unusedSimpArgs false
set_option linter.unusedSectionVars false
namespace Go.TM
open Go Go.AM

theorem br_def {R : Type} (b : Bool) (x y : Option R) : br b x y = if b = true then x else y := by cases b <;> rfl
theorem ad_def (m n : Int) : ad m n = m + n := rfl
theorem sb_def (m n : Int) : sb m n = m - n := rfl
theorem ml_def (m n : Int) : ml m n = m * n := rfl
theorem ng_def (m : Int) : ng m = -m := rfl
theorem le_def (m n : Int) : le m n = decide (m ≤ n) := rfl
theorem lt_def (m n : Int) : lt m n = decide (m < n) := rfl
theorem eq_def (m n : Int) : eq m n = decide (m = n) := rfl
theorem ne_def (m n : Int) : ne m n = decide (m ≠ n) := rfl
theorem ix_def (n m : Int) : ix n m = decide (0 ≤ n ∧ n < m) := rfl
theorem rg_def (a b m : Int) : rg a b m = decide (0 ≤ a ∧ a ≤ b ∧ b ≤ m) := rfl
theorem fits_def (a b m : Nat) : fits a b m = decide (a + b ≤ m) := rfl
theorem nlt_def (a b : Nat) : nlt a b = decide (a < b) := rfl
theorem tn_nat (n : Nat) : tn (n : Int) = n := Int.toNat_natCast n
theorem ni_def (n : Nat) : ni n = (n : Int) := rfl
theorem nadd_def (m n : Nat) : nadd m n = m + n := rfl
theorem nsub_def (m n : Nat) : nsub m n = m - n := rfl
theorem nt_def (b : Bool) : nt b = !b := rfl
theorem bq_def (a b : Bool) : bq a b = (a == b) := rfl
theorem ba_def (a b : Bool) : ba a b = (a && b) := rfl
theorem len_def {α : Type} (l : List α) : len l = l.length := rfl
theorem put_def {α : Type} (l : List α) (i : Nat) (x : α) : put l i x = l.set i x := rfl
theorem cut_def {α : Type} (l : List α) (a n : Nat) : cut l a n = (l.drop a).take n := rfl
theorem app_def {α : Type} (l r : List α) : app l r = l ++ r := rfl
theorem rept_def {α : Type} (n : Nat) (x : α) : rept n x = List.replicate n x := rfl
theorem ob_some {A R : Type} (a : A) (f : A → Option R) : ob (some a) f = f a := rfl
theorem ob_none {A R : Type} (f : A → Option R) : ob none f = none := rfl
theorem oj_inl {R S : Type} (s : S) (f : S → Option R) : oj (some (.inl s)) f = f s := rfl
theorem oj_inr {R S : Type} (r : R) (f : S → Option R) : oj (some (.inr r)) f = some r := rfl
theorem inR_some' {R S : Type} (r : R) : (inR (some r) : Option (S ⊕ R)) = some (.inr r) := rfl
theorem wr64 {n : Int} (h1 : -9223372036854775808 ≤ n) (h2 : n ≤ 9223372036854775807) : wr .i64 n = n := by
 show IntKind.i64.wrap n = n
 rw [IntKind.wrap_i64]; omega
theorem wr8 {n : Int} (h1 : 0 ≤ n) (h2 : n ≤ 255) : wr .u8 n = n := by
 show IntKind.u8.wrap n = n
 rw [IntKind.wrap_u8]; omega
theorem getD_lt {α : Type} {l : List α} {i : Nat} (h : i < l.length) (d : α) : l.getD i d = l[i] := by
 simp [List.getD_eq_getElem?_getD, List.getElem?_eq_getElem h]
theorem rd_lt {α : Type} {l : List α} {i : Nat} (h : i < l.length) (d : α) : rd l i d = l[i] := getD_lt h d

theorem iterS_inl {σ R : Type} {f : σ → Option (σ ⊕ R)} {s s' : σ} (h : f s = some (.inl s')) : iterS f s = iterS f s' := by
 rw [iterS, h]
theorem iterS_inr {σ R : Type} {f : σ → Option (σ ⊕ R)} {s : σ} {r : R} (h : f s = some (.inr r)) : iterS f s = some r := by
 rw [iterS, h]
theorem iterS_upto {σ R : Type} {f : σ → Option (σ ⊕ R)} (st : Nat → σ) (n : Nat) {r : R} (hgo : ∀ i, i < n → f (st i) = some (.inl (st (i + 1)))) (hend : f (st n) = some (.inr r)) : iterS f (st 0) = some r := by
 have key : ∀ k, k ≤ n → iterS f (st (n - k)) = some r := by
  intro k
  induction k with
  | zero => intro _; exact iterS_inr hend
  | succ k ih =>
   intro hk
   rw [iterS_inl (hgo (n - (k + 1)) (by omega)), show n - (k + 1) + 1 = n - k by omega]
   exact ih (by omega)
 have := key n (Nat.le_refl _)
 rwa [Nat.sub_self] at this
def walkL {α β R : Type} (step : β → α → β ⊕ R) : List α → β → β ⊕ R
 | [], b => .inl b
 | x :: l, b => match step b x with
  | .inl b' => walkL step l b'
  | .inr r => .inr r
end Go.TM
namespace Go.TM
end Go.TM
namespace Go.TM
end Go.TM
namespace Go.TM
attribute [simp] br_def ad_def sb_def ml_def ng_def le_def lt_def eq_def ne_def ix_def rg_def fits_def nlt_def tn_nat ni_def nadd_def nsub_def nt_def bq_def ba_def len_def put_def cut_def app_def rept_def ob_some ob_none oj_inl oj_inr inR_some'
end Go.TM
namespace Go.TM
end Go.TM
namespace Go.TM
end Go.TM
