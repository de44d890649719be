/- Plain laws about what the typed machine prints: its words, its loops. -/

import Derived.Test.YtgpligmjbecbjaaGreatDoorTmList
set_option linter.unusedVariables false
set_option linter.unusedSimpArgs false
set_option linter.unusedSectionVars false
namespace Go.TM
open Go Go.AM

theorem br_def {R : Type} (b : Bool) (x y : Option R) : br b x y = if b = true then x else y := by cases b <;> rfl
theorem ad_def (m n : Int) : ad m n = m + n := rfl
theorem sb_def (m n : Int) : sb m n = m - n := rfl
theorem ml_def (m n : Int) : ml m n = m * n := rfl
theorem ng_def (m : Int) : ng m = -m := rfl
theorem le_def (m n : Int) : le m n = decide (m ≤ n) := rfl
theorem lt_def (m n : Int) : lt m n = decide (m < n) := rfl
theorem eq_def (m n : Int) : eq m n = decide (m = n) := rfl
theorem ne_def (m n : Int) : ne m n = decide (m ≠ n) := rfl
theorem ix_def (n m : Int) : ix n m = decide (0 ≤ n ∧ n < m) := rfl
theorem rg_def (a b m : Int) : rg a b m = decide (0 ≤ a ∧ a ≤ b ∧ b ≤ m) := rfl
theorem fits_def (a b m : Nat) : fits a b m = decide (a + b ≤ m) := rfl
theorem nlt_def (a b : Nat) : nlt a b = decide (a < b) := rfl
theorem mn_def (m n : Int) : mn m n = if n < m then n else m := rfl
theorem tn_def (n : Int) : tn n = n.toNat := rfl
theorem tn_nat (n : Nat) : tn (n : Int) = n := Int.toNat_natCast n
theorem ni_def (n : Nat) : ni n = (n : Int) := rfl
theorem nadd_def (m n : Nat) : nadd m n = m + n := rfl
theorem nsub_def (m n : Nat) : nsub m n = m - n := rfl
theorem nt_def (b : Bool) : nt b = !b := rfl
theorem bq_def (a b : Bool) : bq a b = (a == b) := rfl
theorem ba_def (a b : Bool) : ba a b = (a && b) := rfl
theorem len_def {α : Type} (l : List α) : len l = l.length := rfl
theorem rd_def {α : Type} (l : List α) (i : Nat) (d : α) : rd l i d = l.getD i d := rfl
theorem put_def {α : Type} (l : List α) (i : Nat) (x : α) : put l i x = l.set i x := rfl
theorem cut_def {α : Type} (l : List α) (a n : Nat) : cut l a n = (l.drop a).take n := rfl
theorem app_def {α : Type} (l r : List α) : app l r = l ++ r := rfl
theorem rept_def {α : Type} (n : Nat) (x : α) : rept n x = List.replicate n x := rfl
theorem ob_some {A R : Type} (a : A) (f : A → Option R) : ob (some a) f = f a := rfl
theorem ob_none {A R : Type} (f : A → Option R) : ob none f = none := rfl
theorem oj_inl {R S : Type} (s : S) (f : S → Option R) : oj (some (.inl s)) f = f s := rfl
theorem oj_inr {R S : Type} (r : R) (f : S → Option R) : oj (some (.inr r)) f = some r := rfl
theorem inR_some' {R S : Type} (r : R) : (inR (some r) : Option (S ⊕ R)) = some (.inr r) := rfl
theorem wr64 {n : Int} (h1 : -9223372036854775808 ≤ n) (h2 : n ≤ 9223372036854775807) : wr .i64 n = n := by
 show IntKind.i64.wrap n = n
 rw [IntKind.wrap_i64]; omega
theorem wr8 {n : Int} (h1 : 0 ≤ n) (h2 : n ≤ 255) : wr .u8 n = n := by
 show IntKind.u8.wrap n = n
 rw [IntKind.wrap_u8]; omega
theorem getD_lt {α : Type} {l : List α} {i : Nat} (h : i < l.length) (d : α) : l.getD i d = l[i] := by
 simp [List.getD_eq_getElem?_getD, List.getElem?_eq_getElem h]
theorem rd_lt {α : Type} {l : List α} {i : Nat} (h : i < l.length) (d : α) : rd l i d = l[i] := getD_lt h d

theorem iterS_inl {σ R : Type} {f : σ → Option (σ ⊕ R)} {s s' : σ} (h : f s = some (.inl s')) : iterS f s = iterS f s' := by
 rw [iterS, h]
theorem iterS_inr {σ R : Type} {f : σ → Option (σ ⊕ R)} {s : σ} {r : R} (h : f s = some (.inr r)) : iterS f s = some r := by
 rw [iterS, h]
theorem iterS_upto {σ R : Type} {f : σ → Option (σ ⊕ R)} (st : Nat → σ) (n : Nat) {r : R} (hgo : ∀ i, i < n → f (st i) = some (.inl (st (i + 1)))) (hend : f (st n) = some (.inr r)) : iterS f (st 0) = some r := by
 have key : ∀ k, k ≤ n → iterS f (st (n - k)) = some r := by
  intro k; induction k with
  | zero => intro _; exact iterS_inr hend
  | succ k ih =>
   intro hk; rw [iterS_inl (hgo (n - (k + 1)) (by omega)), show n - (k + 1) + 1 = n - k by omega]; exact ih (by omega)
 have := key n (Nat.le_refl _)
 rwa [Nat.sub_self] at this
def walkL {α β R : Type} (step : β → α → β ⊕ R) : List α → β → β ⊕ R
 | [], b => .inl b
 | x :: l, b => match step b x with
  | .inl b' => walkL step l b'
  | .inr r => .inr r
theorem iterS_walk {α β σ R R' : Type} {f : σ → Option (σ ⊕ R')} (l : List α) (st : Nat → β → σ) (step : β → α → β ⊕ R) (fin : β → R') (ret : R → R') (Inv : Nat → β → Prop)
  (hgo : ∀ (i : Nat) (b : β) (h : i < l.length), Inv i b → match step b l[i] with
   | .inl b' => f (st i b) = some (.inl (st (i + 1) b')) ∧ Inv (i + 1) b'
   | .inr r => f (st i b) = some (.inr (ret r)))
  (hend : ∀ b, Inv l.length b → f (st l.length b) = some (.inr (fin b))) {b : β} (h0 : Inv 0 b) :
  iterS f (st 0 b) = some (match walkL step l b with | .inl b' => fin b' | .inr r => ret r) := by
 have key : ∀ (k : Nat) (b : β), k ≤ l.length → Inv (l.length - k) b → iterS f (st (l.length - k) b) = some (match walkL step (l.drop (l.length - k)) b with | .inl b' => fin b' | .inr r => ret r) := by
  intro k; induction k with
  | zero =>
   intro b _ hi; rw [Nat.sub_zero] at hi ⊢; rw [iterS_inr (hend b hi), List.drop_length]; rfl
  | succ k ih =>
   intro b hk hi; have hlt : l.length - (k + 1) < l.length := by omega
   have := hgo _ b hlt hi; rw [List.drop_eq_getElem_cons hlt, walkL]; cases hs : step b l[l.length - (k + 1)] with
   | inl b' =>
    rw [hs] at this; obtain ⟨h1, h2⟩ := this; have e : l.length - (k + 1) + 1 = l.length - k := by omega
    rw [e] at h1 h2; rw [iterS_inl h1, ih b' (by omega) h2, e]
   | inr r =>
    rw [hs] at this; rw [iterS_inr this]
 have := key l.length b (Nat.le_refl _) (by rwa [Nat.sub_self])
 rwa [Nat.sub_self] at this
theorem iterS_fold {α β σ R' : Type} {f : σ → Option (σ ⊕ R')} (l : List α) (st : Nat → β → σ) (step : β → α → β) (fin : β → R') (Inv : Nat → β → Prop)
  (hgo : ∀ (i : Nat) (b : β) (h : i < l.length), Inv i b → f (st i b) = some (.inl (st (i + 1) (step b l[i]))) ∧ Inv (i + 1) (step b l[i]))
  (hend : ∀ b, Inv l.length b → f (st l.length b) = some (.inr (fin b))) {b : β} (h0 : Inv 0 b) :
  iterS f (st 0 b) = some (fin (l.foldl step b)) := by
 have h := iterS_walk (R := Empty) (f := f) l st (fun b x => .inl (step b x)) fin (fun r => nomatch r) Inv (fun i b h hi => hgo i b h hi) hend h0
 rw [h]
 have e : ∀ (l : List α) (b : β), walkL (R := Empty) (fun b x => .inl (step b x)) l b = .inl (l.foldl step b) := by
  intro l; induction l with
  | nil => intro b; rfl
  | cons x l ih => intro b; simp only [walkL, List.foldl_cons, ih]
 rw [e]
theorem iterS_find {α σ R R' : Type} {f : σ → Option (σ ⊕ R')} (l : List α) (st : Nat → σ) (bad : α → Option R) (fin : R') (ret : R → R')
  (hgo : ∀ (i : Nat) (h : i < l.length), f (st i) = some ((bad l[i]).elim (.inl (st (i + 1))) fun r => .inr (ret r)))
  (hend : f (st l.length) = some (.inr fin)) : iterS f (st 0) = some ((l.findSome? bad).elim fin ret) := by
 have h := iterS_walk (f := f) l (fun i (_ : Unit) => st i) (fun _ x => match bad x with | none => .inl () | some r => .inr r) (fun _ => fin) ret (fun _ _ => True)
  (fun i b h _ => by
   have := hgo i h; cases e : bad l[i] with
   | none => rw [e] at this; exact ⟨this, trivial⟩
   | some r => rw [e] at this; exact this) (fun _ _ => hend) (b := ()) trivial
 rw [h]
 have e : ∀ (l : List α), walkL (fun (_ : Unit) x => match bad x with | none => .inl () | some r => .inr r) l () = match l.findSome? bad with | none => .inl () | some r => .inr r := by
  intro l; induction l with
  | nil => rfl
  | cons x l ih =>
   simp only [walkL, List.findSome?_cons]; cases bad x with
   | none => exact ih
   | some r => rfl
 rw [e]
 cases l.findSome? bad <;> rfl
end Go.TM
namespace Go.TM
theorem iterS_findR {σ R R' : Type} {f : σ → Option (σ ⊕ R')} (n : Nat) (st : Nat → σ) (bad : Nat → Option R) (fin : R') (ret : R → R')
  (hgo : ∀ (i : Nat) (h : i < n), f (st i) = some ((bad i).elim (.inl (st (i + 1))) fun r => .inr (ret r)))
  (hend : f (st n) = some (.inr fin)) : iterS f (st 0) = some (((List.range n).findSome? bad).elim fin ret) :=
 iterS_find (List.range n) st bad fin ret (fun i h => by rw [List.getElem_range]; exact hgo i (by simpa using h)) (by rw [List.length_range]; exact hend)
end Go.TM
namespace Go.TM
theorem shr1 {x : Int} : shr .i64 x 1 = x / 2 := by
 show x.fdiv (2 ^ (min (1 : Int).toNat 64)) = x / 2
 rw [show (2 : Int) ^ (min (1 : Int).toNat 64) = 2 from rfl, Int.fdiv_eq_ediv_of_nonneg _ (by decide)]
theorem band1 {x : Int} (h : 0 ≤ x) (h2 : x ≤ 9223372036854775807) : band .i64 x 1 = x % 2 := by
 show IntKind.i64.wrap ((BitVec.ofInt 64 x &&& BitVec.ofInt 64 1).toNat : Nat) = x % 2
 rw [BitVec.toNat_and, show (BitVec.ofInt 64 1).toNat = 1 from rfl, Nat.and_one_is_mod, BitVec.toNat_ofInt, IntKind.wrap_i64]
 omega
end Go.TM
namespace Go.TM
attribute [simp] br_def ad_def sb_def ml_def ng_def le_def lt_def eq_def ne_def ix_def rg_def fits_def nlt_def tn_nat ni_def nadd_def nsub_def nt_def bq_def ba_def len_def put_def cut_def app_def rept_def ob_some ob_none oj_inl oj_inr inR_some'
end Go.TM
namespace Go.TM
theorem set_map {α β : Type} (f : α → β) (l : List α) (d : β) (j : Nat) (hj : j < l.length) : ((l.take j).map f ++ List.replicate (l.length - j) d).set j (f l[j]) = (l.take (j + 1)).map f ++ List.replicate (l.length - (j + 1)) d := by
 rw [← List.take_append_getElem hj, List.set_append_right _ _ (by simp; omega), show l.length - j = (l.length - (j + 1)) + 1 by omega, List.replicate_succ, List.map_append]
 simp [Nat.min_eq_left (Nat.le_of_lt hj)]
end Go.TM
namespace Go.TM
end Go.TM
