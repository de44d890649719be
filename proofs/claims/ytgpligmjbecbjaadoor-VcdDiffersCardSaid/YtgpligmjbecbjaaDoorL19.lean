/- Waveforms as functions of time: values, times of changes, normal forms, first differences. Plain lists, no program. -/
import Derived.Test.YtgpligmjbecbjaaDoorPl
import Derived.Test.YtgpligmjbecbjaaDoorD19
set_option linter.unusedSectionVars false
set_option linter.unusedSimpArgs false
set_option linter.unusedVariables false

namespace Go.AM.Wv
abbrev BS : Type := List UInt8
abbrev Chg : Type := Int × (Int × BS)
theorem sorted_eq {α : Type} (lt : α → α → Prop) (has : ∀ a b, lt a b → ¬ lt b a) : ∀ (l l' : List α), l.Pairwise lt → l'.Pairwise lt → (∀ x, x ∈ l ↔ x ∈ l') → l = l' := by
 intro l
 induction l with
 | nil =>
  intro l' _ _ h
  cases l' with
  | nil => rfl
  | cons a t => exact absurd ((h a).2 (List.mem_cons_self ..)) (by simp)
 | cons a t ih =>
  intro l' h1 h2 h
  cases l' with
  | nil => exact absurd ((h a).1 (List.mem_cons_self ..)) (by simp)
  | cons b u =>
   have p1 := List.pairwise_cons.1 h1
   have p2 := List.pairwise_cons.1 h2
   have e : a = b := by
    rcases List.mem_cons.1 ((h a).1 (List.mem_cons_self ..)) with e | e
    ·exact e
    rcases List.mem_cons.1 ((h b).2 (List.mem_cons_self ..)) with e' | e'
    ·exact e'.symm
    exact absurd (p1.1 _ e') (has _ _ (p2.1 _ e))
   subst e
   rw [ih u p1.2 p2.2 fun x => ⟨fun hx => ?_, fun hx => ?_⟩]
   ·rcases List.mem_cons.1 ((h x).1 (List.mem_cons_of_mem _ hx)) with e | e
    ·subst e; exact absurd (p1.1 _ hx) (has _ _ (p1.1 _ hx))
    ·exact e
   ·rcases List.mem_cons.1 ((h x).2 (List.mem_cons_of_mem _ hx)) with e | e
    ·subst e; exact absurd (p2.1 _ hx) (has _ _ (p2.1 _ hx))
    ·exact e
def upd (v : Nat) (s : BS) (c : Chg) : BS := if c.2.1 = (v : Int) then c.2.2 else s
def val (f : Nat → BS) (ch : List Chg) (v : Nat) (T : Int) : BS := ch.foldl (fun s c => if c.2.1 = (v : Int) ∧ c.1 ≤ T then c.2.2 else s) (f v)
def Sorted (ch : List Chg) : Prop := ch.Pairwise fun a b => a.1 ≤ b.1
theorem val_append (f : Nat → BS) (a b : List Chg) (v : Nat) (T : Int) : val f (a ++ b) v T = val (fun _ => val f a v T) b v T := by
 unfold val; rw [List.foldl_append]
theorem val_late (f : Nat → BS) (b : List Chg) (v : Nat) (T : Int) (h : ∀ c ∈ b, c.2.1 = (v : Int) → T < c.1) : val f b v T = f v := by
 unfold val
 induction b generalizing f with
 | nil => rfl
 | cons c r ih =>
  rw [List.foldl_cons, if_neg fun q => by have := h c (List.mem_cons_self ..) q.1; omega]
  exact ih f fun c hc => h c (List.mem_cons_of_mem _ hc)
theorem val_early (f : Nat → BS) (b : List Chg) (v : Nat) (T : Int) (h : ∀ c ∈ b, c.1 ≤ T) : val f b v T = b.foldl (upd v) (f v) := by
 unfold val
 generalize f v = s
 induction b generalizing s with
 | nil => rfl
 | cons c r ih =>
  rw [List.foldl_cons, List.foldl_cons, ih (fun c hc => h c (List.mem_cons_of_mem _ hc))]
  congr 1
  unfold upd
  have := h c (List.mem_cons_self ..)
  by_cases e : c.2.1 = (v : Int)
  ·rw [if_pos ⟨e, this⟩, if_pos e]
  ·rw [if_neg fun q => e q.1, if_neg e]
theorem val_cut (f : Nat → BS) (ch : List Chg) (j : Nat) (v : Nat) (T : Int) (h1 : ∀ c ∈ ch.take j, c.1 ≤ T) (h2 : ∀ c ∈ ch.drop j, T < c.1) : val f ch v T = (ch.take j).foldl (upd v) (f v) := by
 conv => lhs; rw [← List.take_append_drop j ch]
 rw [val_append, val_late _ _ _ _ fun c hc _ => h2 c hc, val_early _ _ _ _ h1]
theorem val_still (f : Nat → BS) (ch : List Chg) (v : Nat) (T : Int) (h : ∀ c ∈ ch, c.1 ≠ T) : val f ch v T = val f ch v (T - 1) := by
 unfold val
 generalize f v = s
 induction ch generalizing s with
 | nil => rfl
 | cons c r ih =>
  rw [List.foldl_cons, List.foldl_cons, ih (fun c hc => h c (List.mem_cons_of_mem _ hc))]
  congr 1
  have := h c (List.mem_cons_self ..)
  by_cases e : c.2.1 = (v : Int) ∧ c.1 ≤ T
  ·rw [if_pos e, if_pos ⟨e.1, by omega⟩]
  ·rw [if_neg e, if_neg fun q => e ⟨q.1, by omega⟩]
def app1 (st : List BS) (c : Chg) : List BS := st.set c.2.1.toNat c.2.2
def Ok (nv : Nat) (ch : List Chg) : Prop := ∀ c ∈ ch, 0 ≤ c.2.1 ∧ c.2.1 < (nv : Int)
theorem app_map (nv : Nat) (f : Nat → BS) (ch : List Chg) (h : Ok nv ch) : ch.foldl app1 ((List.range nv).map f) = (List.range nv).map fun v => ch.foldl (upd v) (f v) := by
 induction ch generalizing f with
 | nil => rfl
 | cons c r ih =>
  have e : app1 ((List.range nv).map f) c = (List.range nv).map fun v => upd v (f v) c := by
   obtain ⟨h1, h2⟩ := h c (List.mem_cons_self ..)
   unfold app1
   apply List.ext_getElem
   ·simp
   ·intro i q1 q2
    simp only [List.length_map, List.length_range] at q2
    rw [List.getElem_set]
    simp only [List.getElem_map, List.getElem_range]
    unfold upd
    by_cases q : c.2.1.toNat = i
    ·rw [if_pos q, if_pos (by omega)]
    ·rw [if_neg q, if_neg (by omega)]
  simp only [List.foldl_cons]
  rw [e, ih _ fun c hc => h c (List.mem_cons_of_mem _ hc)]
def isT (ch : List Chg) (i : Nat) : Option Int := if i = 0 ∨ (ch.getD i (0, 0, [])).1 ≠ (ch.getD (i - 1) (0, 0, [])).1 then some (ch.getD i (0, 0, [])).1 else none
def tms (ch : List Chg) (n : Nat) : List Int := (List.range n).filterMap (isT ch)
theorem tms_succ (ch : List Chg) (n : Nat) : tms ch (n + 1) = tms ch n ++ (isT ch n).toList := by
 unfold tms
 rw [List.range_succ, List.filterMap_append]
 cases h : isT ch n <;> simp [List.filterMap, h]
theorem tms_group (ch : List Chg) (i j : Nat) (hij : i < j) (h0 : i = 0 ∨ (ch.getD i (0, 0, [])).1 ≠ (ch.getD (i - 1) (0, 0, [])).1) (h : ∀ k, i ≤ k → k < j → (ch.getD k (0, 0, [])).1 = (ch.getD i (0, 0, [])).1) :
  tms ch j = tms ch i ++ [(ch.getD i (0, 0, [])).1] := by
 obtain ⟨d, rfl⟩ : ∃ d, j = i + 1 + d := ⟨j - (i + 1), by omega⟩
 induction d with
 | zero => rw [Nat.add_zero, tms_succ]; unfold isT; rw [if_pos h0]; rfl
 | succ d ih =>
  rw [show i + 1 + (d + 1) = (i + 1 + d) + 1 by omega, tms_succ, ih (by omega) fun k h1 h2 => h k h1 (by omega)]
  have : isT ch (i + 1 + d) = none := by
   unfold isT
   rw [if_neg]
   rintro (q | q)
   ·omega
   ·exact q ((h _ (by omega) (by omega)).trans (h _ (by omega) (by omega)).symm)
  rw [this]; simp
theorem sorted_getD {ch : List Chg} (hs : Sorted ch) {i j : Nat} (hij : i ≤ j) (hj : j < ch.length) : (ch.getD i (0, 0, [])).1 ≤ (ch.getD j (0, 0, [])).1 := by
 rw [TM.getD_lt (by omega), TM.getD_lt hj]
 rcases Nat.lt_or_ge i j with h | h
 ·exact List.pairwise_iff_getElem.1 hs i j (by omega) hj h
 ·have : i = j := by omega
  subst this; exact Int.le_refl _
theorem tms_mem {ch : List Chg} (hs : Sorted ch) : ∀ n, n ≤ ch.length → ((tms ch n).Pairwise (· < ·)) ∧ ∀ T, T ∈ tms ch n ↔ ∃ c ∈ ch.take n, c.1 = T := by
 intro n
 induction n with
 | zero => intro _; simp [tms]
 | succ n ih =>
  intro hn
  obtain ⟨h1, h2⟩ := ih (by omega)
  have hl : n < ch.length := by omega
  have et : ch.take (n + 1) = ch.take n ++ [ch[n]] := (List.take_append_getElem hl).symm
  rw [tms_succ]
  unfold isT
  by_cases q : n = 0 ∨ (ch.getD n (0, 0, [])).1 ≠ (ch.getD (n - 1) (0, 0, [])).1
  ·rw [if_pos q]
   refine ⟨List.pairwise_append.2 ⟨h1, by simp, fun a ha b hb => ?_⟩, fun T => ?_⟩
   ·rw [Option.toList_some, List.mem_singleton] at hb; subst hb
    obtain ⟨c, hc, rfl⟩ := (h2 a).1 ha
    obtain ⟨k, hk, rfl⟩ := List.mem_take_iff_getElem.1 hc
    rcases q with q | q
    ·omega
    ·have s1 := sorted_getD hs (i := k) (j := n - 1) (by omega) (by omega)
     have s2 := sorted_getD hs (i := n - 1) (j := n) (by omega) hl
     rw [TM.getD_lt (by omega)] at s1
     omega
   ·rw [et]
    simp only [Option.toList_some, List.mem_append, List.mem_singleton, h2]
    constructor
    ·rintro (⟨c, hc, rfl⟩ | rfl)
     ·exact ⟨c, .inl hc, rfl⟩
     ·exact ⟨ch[n], .inr rfl, by rw [TM.getD_lt hl]⟩
    ·rintro ⟨c, hc | rfl, rfl⟩
     ·exact .inl ⟨c, hc, rfl⟩
     ·exact .inr (by rw [TM.getD_lt hl])
  ·rw [if_neg q]
   simp only [Option.toList_none, List.append_nil]
   refine ⟨h1, fun T => ?_⟩
   have q1 : n ≠ 0 ∧ (ch.getD n (0, 0, [])).1 = (ch.getD (n - 1) (0, 0, [])).1 := by
    constructor
    ·exact fun e => q (.inl e)
    ·exact Decidable.not_not.1 fun e => q (.inr e)
   rw [h2, et]
   simp only [List.mem_append, List.mem_singleton]
   constructor
   ·rintro ⟨c, hc, rfl⟩; exact ⟨c, .inl hc, rfl⟩
   ·rintro ⟨c, hc | rfl, rfl⟩
    ·exact ⟨c, hc, rfl⟩
    ·refine ⟨ch[n - 1]'(by omega), List.mem_take_iff_getElem.2 ⟨n - 1, by omega, rfl⟩, ?_⟩
     have := q1.2
     rw [TM.getD_lt hl, TM.getD_lt (show n - 1 < ch.length by omega)] at this
     exact this.symm
end Go.AM.Wv

open Go Go.AM Go.TM Go.AM.Wv
namespace Go.Proofs.YtgpligmjbecbjaaDoor
theorem ltl {α : Type} {a : Int} {l : List α} (h : a < (l.length : Int)) : lt a (ni (len l)) = true := decide_eq_true h
theorem lnl {α : Type} {a : Int} {l : List α} (h : ¬ a < (l.length : Int)) : lt a (ni (len l)) = false := decide_eq_false h
theorem ixl {α : Type} {a : Int} {l : List α} (h : 0 ≤ a ∧ a < (l.length : Int)) : ix a (ni (len l)) = true := decide_eq_true h
theorem wra {a b : Int} (h : -9223372036854775808 ≤ a + b ∧ a + b ≤ 9223372036854775807) : wr .i64 (ad a b) = a + b := wr64 h.1 h.2
theorem z0 : ((0 : Int), ()) = (((0 : Nat) : Int), ()) := rfl
theorem dec_low {s : Str} {i : Nat} (hi : i < s.length) (h : s[i].toNat < 128) : rune s i = (s[i].toNat : Int) ∧ runw s i = 1 := by
 have hg : (ByteArray.mk s.toArray).get! (i + 0) = s[i] := by
  show (s.toArray)[i + 0]! = _
  rw [Nat.add_zero, getElem!_pos s.toArray i (by simpa using hi)]; simp
 have hd : Utf8.decode ⟨s.toArray⟩ i = (s[i].toNat, 1) := by
  unfold Utf8.decode
  simp only [hg]
  rw [if_pos h]
 unfold rune runw
 rw [hd]
 exact ⟨rfl, rfl⟩
theorem dec_high {s : Str} {i : Nat} (hi : i < s.length) (h : 128 ≤ s[i].toNat) : 128 ≤ rune s i := by
 have hg : (ByteArray.mk s.toArray).get! (i + 0) = s[i] := by
  show (s.toArray)[i + 0]! = _
  rw [Nat.add_zero, getElem!_pos s.toArray i (by simpa using hi)]; simp
 have hd : 128 ≤ (Utf8.decode ⟨s.toArray⟩ i).1 := by
  unfold Utf8.decode
  simp only [hg]
  rw [if_neg (by omega)]
  have hr : 128 ≤ Utf8.runeError := by decide
  split
  ·split
   ·assumption
   ·exact hr
  split
  ·split
   ·rename_i q; simp only [Bool.and_eq_true, decide_eq_true_eq] at q; omega
   ·exact hr
  split
  ·split
   ·rename_i q; simp only [Bool.and_eq_true, decide_eq_true_eq] at q; omega
   ·exact hr
  ·exact hr
 unfold rune
 omega
def chOk (b : UInt8) : Bool := decide (33 ≤ b.toNat ∧ b.toNat ≤ 126)
def wordB (s : Str) : Bool := decide (1 ≤ s.length ∧ s.length ≤ 64) && s.all chOk
theorem named1 (r : Int) : F_vcd_named_1 r = some (decide (r < 33 ∨ 126 < r)) := by
 unfold F_vcd_named_1
 simp only [br_def, lt_def, decide_eq_true_eq]
 by_cases h : r < 33
 ·rw [if_pos h]; simp [h]
 ·rw [if_neg h]; simp [h]
theorem find_all' {α : Type} (l : List α) (p : α → Bool) : l.findSome? (fun x => if p x = true then none else some ()) = if l.all p = true then none else some () := by
 induction l with
 | nil => rfl
 | cons x r ih =>
  rw [List.findSome?_cons, List.all_cons]
  cases p x with
  | true => simp only [if_pos, Bool.true_and]; exact ih
  | false => rfl
theorem named_eq (s : Str) : F_vcd_named s = some (wordB s) := by
 have l := iterS_find (f := F_vcd_named_l0 s) s (fun i => (i, ())) (fun b => if chOk b = true then none else some ()) (.inl (s.length, ())) (fun _ => .inr false)
  (fun i hi => by
   unfold F_vcd_named_l0
   simp only [br_def, nlt_def, len_def, decide_eq_true_eq]
   rw [if_pos hi, named1, ob_some]
   by_cases hb : s[i].toNat < 128
   ·obtain ⟨e1, e2⟩ := dec_low hi hb
    rw [e1, e2]
    by_cases hc : chOk s[i] = true
    ·rw [if_pos hc]
     have hc' : 33 ≤ s[i].toNat ∧ s[i].toNat ≤ 126 := by simpa [chOk] using hc
     rw [if_neg (by simp only [bq_def, beq_iff_eq, decide_eq_true_eq]; omega)]; rfl
    ·rw [if_neg hc]
     have hc' : ¬ (33 ≤ s[i].toNat ∧ s[i].toNat ≤ 126) := by simpa [chOk] using hc
     rw [if_pos (by simp only [bq_def, beq_iff_eq, decide_eq_true_eq]; omega)]
     simp [inR, nt_def, le_def, ni_def]
   ·have e1 := dec_high hi (by omega)
    have hc : ¬ chOk s[i] = true := by simp [chOk]; omega
    rw [if_neg hc, if_pos (by simp only [bq_def, beq_iff_eq, decide_eq_true_eq]; omega)]
    simp [inR, nt_def, le_def, ni_def])
  (by simp [F_vcd_named_l0, br_def, nlt_def])
 unfold F_vcd_named wordB
 simp only [br_def, nt_def, le_def, ni_def, len_def, decide_eq_true_eq]
 cases s with
 | nil => simp [sq]
 | cons b r =>
  rw [if_pos (by simp [sq])]
  by_cases h : ((b :: r).length : Int) ≤ 64
  ·rw [if_pos h, l, find_all']
   by_cases hc : (b :: r).all chOk = true
   ·rw [if_pos hc, Option.elim, oj_inl]
    have e : decide (1 ≤ (b :: r).length ∧ (b :: r).length ≤ 64) = true := decide_eq_true (by simp only [List.length_cons] at h ⊢; omega)
    rw [hc, Bool.and_true, e]; rfl
   ·rw [if_neg hc, Option.elim, oj_inr]
    simp only [Bool.not_eq_true] at hc
    rw [hc]; simp
  ·rw [if_neg h]
   have : ¬ (1 ≤ (b :: r).length ∧ (b :: r).length ≤ 64) := by omega
   rw [decide_eq_false this]; rfl
theorem check1 (s : Str) : F_vcd_checkVar_1 s = some (!wordB s) := by unfold F_vcd_checkVar_1; rw [named_eq, ob_some]
theorem eq_all {α : Type} [DecidableEq α] (a b : List α) (d : α) (h : a.length = b.length) : (List.range a.length).all (fun i => decide (a.getD i d = b.getD i d)) = decide (a = b) := by
 by_cases e : a = b
 ·subst e; simp
 ·rw [decide_eq_false e]
  cases hq : (List.range a.length).all (fun i => decide (a.getD i d = b.getD i d)) with
  | false => rfl
  | true =>
   exfalso
   apply e
   apply List.ext_getElem h
   intro i h1 h2
   have := List.all_eq_true.1 hq i (List.mem_range.2 h1)
   simp only [decide_eq_true_eq] at this
   rwa [getD_lt h1, getD_lt h2] at this
theorem equal_eq (a b : LStr) (h : a.length ≤ 9000000000000 ∨ b.length ≤ 9000000000000) : F_slices_Equal_string_string a b = some (decide (a = b)) := by
 unfold F_slices_Equal_string_string
 simp only [br_def, ne_def, ni_def, len_def, decide_eq_true_eq]
 by_cases e : a.length = b.length
 ·rw [if_neg (by omega)]
  have l := iterS_findR (f := F_slices_Equal_string_string_l0 a b) a.length (fun i => ((i : Int), ())) (fun i => if decide (a.getD i [] = b.getD i []) = true then none else some ()) (.inl ((a.length : Int), ())) (fun _ => .inr false)
   (fun i hi => by
    simp (disch := omega) only [F_slices_Equal_string_string_l0, br_def, lt_def, ni_def, len_def, ix_def, tn_nat, rd_def, decide_eq_true_eq, ob_some, ad_def, wr64, nt_def, sq]
    rw [if_pos (by omega), if_pos (by omega), if_pos (by omega)]
    by_cases q : a.getD i [] = b.getD i []
    ·rw [if_neg (by rw [decide_eq_true q]; decide), if_pos q]; rfl
    ·rw [if_pos (by rw [decide_eq_false q]; decide), if_neg q]; rfl)
   (by simp [F_slices_Equal_string_string_l0, br_def, lt_def])
  rw [z0, l, find_all', eq_all _ _ _ e]
  by_cases q : a = b
  ·rw [if_pos (by simp [q]), Option.elim, oj_inl]; simp [q]
  ·rw [if_neg (by simp [q]), Option.elim, oj_inr]; simp [q]
 ·rw [if_pos (by omega), decide_eq_false fun q => e (by rw [q])]
def sameB (a b : TVar) : Bool := decide (a.2.1 = b.2.1 ∧ a.1 = b.1)
theorem same_eq (a b : TVar) (h : a.1.length ≤ 9000000000000 ∨ b.1.length ≤ 9000000000000) : F_vcd_same a b = some (sameB a b) := by
 unfold F_vcd_same sameB
 rw [equal_eq _ _ h]
 simp only [br_def, sq, decide_eq_true_eq]
 by_cases q : a.2.1 = b.2.1
 ·rw [if_pos q, ob_some]; simp [q]
 ·rw [if_neg q]; simp [q]
def vErr (v : TVar) (before : List TVar) : Int :=
 if v.2.2 < 1 then 12 else if 128 < v.2.2 then 12 else if 8 < (v.1.length : Int) then 5 else if v.1.all wordB = true then
  if wordB v.2.1 = true then if before.any (sameB · v) = true then 10 else 0 else 9 else 9
theorem find_any {α : Type} (l : List α) (p : α → Bool) : l.findSome? (fun x => if p x = true then some () else none) = if l.any p = true then some () else none := by
 induction l with
 | nil => rfl
 | cons x r ih =>
  rw [List.findSome?_cons, List.any_cons]
  cases p x with
  | true => rfl
  | false => simp only [Bool.false_or]; exact ih
theorem checkVar_eq (v : TVar) (before : List TVar) (h : before.length ≤ 9000000000000) : F_vcd_checkVar v before = some (vErr v before) := by
 unfold F_vcd_checkVar vErr
 simp only [br_def, lt_def, ni_def, len_def, decide_eq_true_eq]
 by_cases h1 : v.2.2 < 1
 ·rw [if_pos h1, if_pos h1]
 rw [if_neg h1, if_neg h1]
 by_cases h2 : 128 < v.2.2
 ·rw [if_pos h2, if_pos h2]
 rw [if_neg h2, if_neg h2]
 by_cases h3 : 8 < (v.1.length : Int)
 ·rw [if_pos h3, if_pos h3]
 rw [if_neg h3, if_neg h3]
 have l := iterS_find (f := F_vcd_checkVar_l0 v before) v.1 (fun i => ((i : Int), ())) (fun s => if wordB s = true then none else some ()) (.inl ((v.1.length : Int), ())) (fun _ => .inr 9)
  (fun i hi => by
   simp (disch := omega) only [F_vcd_checkVar_l0, br_def, lt_def, ni_def, len_def, ix_def, tn_nat, rd_lt hi, decide_eq_true_eq, check1, ob_some, ad_def, wr64, nt_def, le_def]
   rw [if_pos (by omega), if_pos (by omega)]
   by_cases q : wordB v.1[i] = true
   ·rw [if_neg (by simp [q]), if_pos q]; rfl
   ·rw [if_pos (by simpa using q), if_neg q, if_pos (by omega)]; rfl)
  (by simp [F_vcd_checkVar_l0, br_def, lt_def])
 rw [z0, l, find_all']
 by_cases h4 : v.1.all wordB = true
 ·rw [if_pos h4, if_pos h4, Option.elim, oj_inl, named_eq, ob_some]
  by_cases h5 : wordB v.2.1 = true
  ·rw [if_neg (by simp [nt_def, h5]), if_pos h5]
   have l2 := iterS_find (f := F_vcd_checkVar_l2 v before ((v.1.length : Int), ()) (wordB v.2.1)) before (fun i => ((i : Int), ())) (fun s => if sameB s v = true then some () else none) (.inl ((before.length : Int), ())) (fun _ => .inr 10)
    (fun i hi => by
     have e : F_vcd_same (before[i].1, (before[i].2.1, before[i].2.2)) (v.1, (v.2.1, v.2.2)) = some (sameB before[i] v) := same_eq before[i] v (.inr (by omega))
     simp (disch := omega) only [F_vcd_checkVar_l2, br_def, lt_def, ni_def, len_def, ix_def, tn_nat, rd_lt hi, decide_eq_true_eq, e, ob_some, ad_def, wr64, nt_def, le_def]
     rw [if_pos (by omega), if_pos (by omega)]
     by_cases q : sameB before[i] v = true
     ·rw [if_pos q, if_pos q, if_pos (by omega)]; rfl
     ·rw [if_neg q, if_neg q]; rfl)
    (by simp [F_vcd_checkVar_l2, br_def, lt_def])
   rw [l2, find_any]
   by_cases h6 : before.any (sameB · v) = true
   ·rw [if_pos h6, if_pos h6, Option.elim, oj_inr]
   ·rw [if_neg h6, if_neg h6, Option.elim, oj_inl]
  ·rw [if_pos (by simpa [nt_def] using h5), if_neg h5]
 ·rw [if_neg h4, if_neg h4, Option.elim, oj_inr]
def U6 : List Str := [[109, 115], [117, 115], [110, 115], [112, 115], [102, 115], [115]]
def N3 : List Str := [[49], [49, 48], [49, 48, 48]]
def unitB (s : Str) : Bool := decide (∃ u ∈ U6, ∃ n ∈ N3, s = n ++ u)
def sufB (s u : Str) : Bool := decide (u.length ≤ s.length ∧ s.drop (s.length - u.length) = u)
def n3B (t : Str) : Bool := decide (t = [49] ∨ t = [49, 48] ∨ t = [49, 48, 48])
theorem suffix_eq (s u : Str) (hs : s.length ≤ 140737488351232) (hu : u.length ≤ 100) : F_strings_CutSuffix s u = some (if sufB s u = true then (s.take (s.length - u.length), true) else (s, false)) := by
 have h1 : F_stringslite_HasSuffix s u = some (sufB s u) := by
  unfold F_stringslite_HasSuffix sufB
  simp only [br_def, le_def, ni_def, len_def, decide_eq_true_eq, sb_def]
  by_cases q : u.length ≤ s.length
  ·rw [if_pos (by omega), wr64 (by omega) (by omega), if_pos (by omega)]
   have e1 : tn ((s.length : Int) - (u.length : Int)) = s.length - u.length := by rw [tn_def]; omega
   rw [e1, tn_nat, nsub_def, cut_def, List.take_of_length_le (by simp)]
   simp only [sq]
   congr 1
   simp [q]
  ·rw [if_neg (by omega)]; simp [q]
 have h2 : F_stringslite_CutSuffix s u = some (if sufB s u = true then (s.take (s.length - u.length), true) else (s, false)) := by
  unfold F_stringslite_CutSuffix
  rw [h1, ob_some]
  simp only [br_def, nt_def, ni_def, len_def, sb_def]
  by_cases q : sufB s u = true
  ·have q' : u.length ≤ s.length := by unfold sufB at q; simp only [decide_eq_true_eq] at q; exact q.1
   rw [if_neg (by simp [q]), wr64 (by omega) (by omega), rg_def, if_pos (by simp only [decide_eq_true_eq]; omega), if_pos q]
   have e1 : tn ((s.length : Int) - (u.length : Int)) = s.length - u.length := by rw [tn_def]; omega
   rw [e1, cut_def]; simp
  ·rw [if_pos (by simpa using q), if_neg q]
 unfold F_strings_CutSuffix
 rw [h2]; rfl
theorem unit_round (s u : Str) (hs : s.length ≤ 140737488351232) (hu : u.length ≤ 100) (nx : Int × Unit) : (ob (F_strings_CutSuffix s u) fun y0 => (br y0.2 (br (sq y0.1 ([49] : Str)) (inR (some (.inr true))) (br (sq y0.1 ([49, 48] : Str)) (inR (some (.inr true))) (inR (some (.inr (sq y0.1 ([49, 48, 48] : Str))))))) (some (.inl nx)))) =
  (some ((if sufB s u = true then some (n3B (s.take (s.length - u.length))) else none).elim (.inl nx) fun b => .inr (.inr b)) : Option ((Int × Unit) ⊕ ((Int × Unit) ⊕ Bool))) := by
 rw [suffix_eq s u hs hu, ob_some]
 by_cases q : sufB s u = true
 ·rw [if_pos q, if_pos q]
  simp only [br_def, if_true, n3B, sq, decide_eq_true_eq, Option.elim]
  by_cases a1 : s.take (s.length - u.length) = [49]
  ·simp [a1, inR]
  ·rw [if_neg a1]
   by_cases a2 : s.take (s.length - u.length) = [49, 48]
   ·simp [a2, inR]
   ·rw [if_neg a2]
    simp [a1, a2, inR]
 ·rw [if_neg q, if_neg q]; rfl
theorem unit_eq (s : Str) (hs : s.length ≤ 140737488351232) : F_vcd_unit s = some (unitB s) := by
 have l := iterS_find (f := F_vcd_unit_l0 s) U6 (fun i => ((i : Int), ())) (fun u => if sufB s u = true then some (n3B (s.take (s.length - u.length))) else none) (.inl ((6 : Int), ())) (fun b => .inr b)
  (fun i hi => by
   have hU : (([([109, 115] : Str), ([117, 115] : Str), ([110, 115] : Str), ([112, 115] : Str), ([102, 115] : Str), ([115] : Str)] : (List Str))) = U6 := rfl
   have hu : U6[i].length ≤ 100 := by
    have : ∀ u ∈ U6, u.length ≤ 100 := by decide
    exact this _ (List.getElem_mem hi)
   have hi6 : i < 6 := hi
   have hl6 : U6.length = 6 := rfl
   unfold F_vcd_unit_l0
   rw [hU]
   rw [br_def, if_pos (by simp only [lt_def, ni_def, len_def, decide_eq_true_eq]; omega), br_def, if_pos (by simp only [ix_def, ni_def, len_def, decide_eq_true_eq]; omega), tn_nat, rd_lt hi, wr64 (by simp only [ad_def]; omega) (by simp only [ad_def]; omega)]
   exact unit_round s U6[i] hs hu _)
  (by rfl)
 unfold F_vcd_unit
 rw [z0, l]
 have key : (U6.findSome? fun u => if sufB s u = true then some (n3B (s.take (s.length - u.length))) else none).getD false = unitB s := by
  rw [Bool.eq_iff_iff]
  constructor
  ·intro h
   cases hf : (U6.findSome? fun u => if sufB s u = true then some (n3B (s.take (s.length - u.length))) else none) with
   | none => rw [hf] at h; cases h
   | some b =>
    rw [hf] at h
    have hb : b = true := h
    subst hb
    obtain ⟨u, hu, he⟩ := List.exists_of_findSome?_eq_some hf
    split at he
    ·rename_i q
     have he := Option.some.inj he
     unfold sufB at q
     unfold n3B at he
     simp only [decide_eq_true_eq] at q he
     have e : s = s.take (s.length - u.length) ++ u := by conv => lhs; rw [← List.take_append_drop (s.length - u.length) s, q.2]
     unfold unitB
     simp only [decide_eq_true_eq]
     refine ⟨u, hu, s.take (s.length - u.length), ?_, e⟩
     unfold N3
     rcases he with h | h | h <;> rw [h] <;> simp
    ·cases he
  ·intro h
   unfold unitB at h
   simp only [decide_eq_true_eq] at h
   obtain ⟨u, hu, n, hn, rfl⟩ := h
   have all : ∀ u ∈ U6, ∀ n ∈ N3, (U6.findSome? fun v => if sufB (n ++ u) v = true then some (n3B ((n ++ u).take ((n ++ u).length - v.length))) else none).getD false = true := by decide
   exact all u hu n hn
 rw [← key]
 cases (U6.findSome? fun u => if sufB s u = true then some (n3B (s.take (s.length - u.length))) else none) with
 | none => rfl
 | some b => rfl
def digB (b : UInt8) : Bool := ([48, 49, 120, 122] : Str).contains b
theorem drop_nil {p : UInt8 → Bool} : ∀ l : Str, l.dropWhile p = [] ↔ ∀ b ∈ l, p b = true := by
 intro l
 induction l with
 | nil => simp
 | cons a r ih =>
  rw [List.dropWhile_cons]
  by_cases h : p a = true
  ·rw [if_pos h, ih]; simp [h]
  ·rw [if_neg h]; simp [h]
theorem trim_nil (s : Str) : (Lib.trimS s [48, 49, 120, 122] = []) ↔ s.all digB = true := by
 unfold Lib.trimS Lib.trimLeftS Lib.trimRightS
 rw [drop_nil, List.all_eq_true]
 constructor
 ·intro h b hb
  have hb' : b ∈ s.reverse := List.mem_reverse.2 hb
  rw [← List.takeWhile_append_dropWhile (p := (([48, 49, 120, 122] : Str).contains ·)) (l := s.reverse)] at hb'
  rcases List.mem_append.1 hb' with q | q
  ·exact List.all_eq_true.1 (List.all_takeWhile (p := (([48, 49, 120, 122] : Str).contains ·)) (l := s.reverse)) b q
  ·exact h b (List.mem_reverse.2 q)
 ·intro h b hb
  have := List.dropWhile_subset (p := (([48, 49, 120, 122] : Str).contains ·)) (l := s.reverse) (List.mem_reverse.1 hb)
  exact h b (List.mem_reverse.1 this)
abbrev d0 : TChg := (0, 0, [])
abbrev v0 : TVar := ([], [], 0)
def cErr (w : TWave) (i : Nat) : Int :=
 if (w.2.2.getD i d0).1 < 0 then 1 else if 1000000000000 < (w.2.2.getD i d0).1 then 1 else if (w.2.2.getD i d0).2.1 < 0 then 1 else if (w.2.1.length : Int) ≤ (w.2.2.getD i d0).2.1 then 1 else
 if ((w.2.2.getD i d0).2.2.length : Int) ≠ (w.2.1.getD (w.2.2.getD i d0).2.1.toNat v0).2.2 then 12 else if (w.2.2.getD i d0).2.2.all digB = true then
  if 0 < i ∧ (w.2.2.getD i d0).1 < (w.2.2.getD (i - 1) d0).1 then 22 else 0 else 3
def vErrs (w : TWave) (i : Nat) : Option Int := if vErr (w.2.1.getD i v0) (w.2.1.take i) = 0 then none else some (vErr (w.2.1.getD i v0) (w.2.1.take i))
def cErrs (w : TWave) (i : Nat) : Option Int := if cErr w i = 0 then none else some (cErr w i)
def chk (w : TWave) : Int :=
 if unitB w.1 = true then if 256 < (w.2.1.length : Int) then 5 else if 4096 < (w.2.2.length : Int) then 5 else
  ((List.range w.2.1.length).findSome? (vErrs w)).elim (((List.range w.2.2.length).findSome? (cErrs w)).elim 0 id) id
 else 3
theorem vErr_zero {v : TVar} {b : List TVar} (h : vErr v b = 0) : 1 ≤ v.2.2 ∧ v.2.2 ≤ 128 ∧ v.1.length ≤ 8 ∧ v.1.all wordB = true ∧ wordB v.2.1 = true ∧ b.any (sameB · v) ≠ true := by
 unfold vErr at h
 split at h
 ·cases h
 split at h
 ·cases h
 split at h
 ·cases h
 split at h
 ·split at h
  ·split at h
   ·cases h
   ·refine ⟨by omega, by omega, by omega, by assumption, by assumption, by assumption⟩
  ·cases h
 ·cases h
theorem cErr_zero {w : TWave} {i : Nat} (h : cErr w i = 0) : 0 ≤ (w.2.2.getD i d0).1 ∧ (w.2.2.getD i d0).1 ≤ 1000000000000 ∧ 0 ≤ (w.2.2.getD i d0).2.1 ∧ (w.2.2.getD i d0).2.1 < (w.2.1.length : Int) ∧
  ((w.2.2.getD i d0).2.2.length : Int) = (w.2.1.getD (w.2.2.getD i d0).2.1.toNat v0).2.2 ∧ (w.2.2.getD i d0).2.2.all digB = true ∧ (0 < i → (w.2.2.getD (i - 1) d0).1 ≤ (w.2.2.getD i d0).1) := by
 unfold cErr at h
 split at h
 ·cases h
 split at h
 ·cases h
 split at h
 ·cases h
 split at h
 ·cases h
 split at h
 ·cases h
 split at h
 ·split at h
  ·cases h
  ·refine ⟨by omega, by omega, by omega, by omega, by omega, by assumption, by omega⟩
 ·cases h
theorem check_eq (w : TWave) (h : WfT .str w.1) : F_vcd_Check w = some (chk w) := by
 unfold F_vcd_Check chk
 rw [unit_eq _ h, ob_some]
 simp only [br_def, nt_def, lt_def, ni_def, len_def, decide_eq_true_eq]
 by_cases h1 : unitB w.1 = true
 ·rw [if_neg (by simp [h1]), if_pos h1]
  by_cases h2 : 256 < (w.2.1.length : Int)
  ·rw [if_pos h2, if_pos h2]
  rw [if_neg h2, if_neg h2]
  by_cases h3 : 4096 < (w.2.2.length : Int)
  ·rw [if_pos h3, if_pos h3]
  rw [if_neg h3, if_neg h3]
  have l := iterS_findR (f := F_vcd_Check_l0 w (unitB w.1)) w.2.1.length (fun i => ((i : Int), ())) (vErrs w) (.inl ((w.2.1.length : Int), ())) (fun r => .inr r)
   (fun i hi => by
    have e : F_vcd_checkVar ((w.2.1.getD i ([], [], 0)).1, ((w.2.1.getD i ([], [], 0)).2.1, (w.2.1.getD i ([], [], 0)).2.2)) (w.2.1.take i) = some (vErr (w.2.1.getD i v0) (w.2.1.take i)) := checkVar_eq _ _ (by simp; omega)
    have ec : cut w.2.1 0 i = w.2.1.take i := by rw [cut_def, List.drop_zero]
    simp (disch := omega) only [F_vcd_Check_l0, br_def, lt_def, ni_def, len_def, ix_def, tn_nat, rd_def, decide_eq_true_eq, ec, e, ob_some, ad_def, wr64, ne_def, rg_def]
    rw [if_pos (by omega), if_pos (by omega), if_pos (by omega)]
    unfold vErrs
    by_cases q : vErr (w.2.1.getD i v0) (w.2.1.take i) = 0
    ·rw [if_neg (by simpa using q), if_pos q]; rfl
    ·rw [if_pos q, if_neg q]; rfl)
   (by simp [F_vcd_Check_l0, br_def, lt_def])
  have l' : iterS (F_vcd_Check_l0 w (unitB w.1)) ((0 : Int), ()) = _ := l
  rw [l']
  cases hf : (List.range w.2.1.length).findSome? (vErrs w) with
  | some r => rw [Option.elim, oj_inr]; rfl
  | none =>
   rw [Option.elim, oj_inl]
   have hw : ∀ i, i < w.2.1.length → vErr (w.2.1.getD i v0) (w.2.1.take i) = 0 := fun i hi => by
    have := List.findSome?_eq_none_iff.1 hf i (List.mem_range.2 hi)
    unfold vErrs at this
    split at this
    ·assumption
    ·cases this
   have l1 := iterS_findR (f := F_vcd_Check_l1 w (unitB w.1) ((w.2.1.length : Int), ())) w.2.2.length (fun i => ((i : Int), ((if i = 0 then 0 else (w.2.2.getD (i - 1) d0).1), ()))) (cErrs w) (.inl ((w.2.2.length : Int), ((if w.2.2.length = 0 then 0 else (w.2.2.getD (w.2.2.length - 1) d0).1), ()))) (fun r => .inr r)
    (fun i hi => by
     unfold F_vcd_Check_l1
     simp only [tn_nat]
     rw [wr64 (n := ad (i : Int) 1) (by simp only [ad_def]; omega) (by simp only [ad_def]; omega)]
     unfold cErrs cErr
     have hc' : rd w.2.2 i ((0 : Int), ((0 : Int), ([] : Str))) = w.2.2.getD i d0 := rfl
     rw [hc']
     generalize hc : w.2.2.getD i d0 = c
     simp only [br_def, lt_def, ni_def, len_def, ix_def, decide_eq_true_eq, ne_def, le_def]
     rw [if_pos (by omega), if_pos (by omega)]
     by_cases q1 : c.1 < 0
     ·rw [if_pos q1, if_pos q1]; rfl
     rw [if_neg q1, if_neg q1]
     by_cases q2 : 1000000000000 < c.1
     ·rw [if_pos q2, if_pos q2]; rfl
     rw [if_neg q2, if_neg q2]
     by_cases q3 : c.2.1 < 0
     ·rw [if_pos q3, if_pos q3]; rfl
     rw [if_neg q3, if_neg q3]
     by_cases q4 : (w.2.1.length : Int) ≤ c.2.1
     ·rw [if_pos q4, if_pos q4]; rfl
     rw [if_neg q4, if_neg q4, if_pos (by omega)]
     rw [show rd w.2.1 (tn c.2.1) (([] : LStr), (([] : Str), (0 : Int))) = w.2.1.getD c.2.1.toNat v0 from rfl]
     by_cases q5 : (c.2.2.length : Int) ≠ (w.2.1.getD c.2.1.toNat v0).2.2
     ·rw [if_pos q5, if_pos q5]; rfl
     rw [if_neg q5, if_neg q5]
     have hv := vErr_zero (hw c.2.1.toNat (by omega))
     have et : F_strings_Trim c.2.2 ([48, 49, 120, 122] : Str) = some (Lib.trimS c.2.2 [48, 49, 120, 122]) := by
      unfold F_strings_Trim
      rw [if_pos ⟨rfl, by omega⟩]
     rw [et, ob_some]
     by_cases q6 : c.2.2.all digB = true
     ·rw [if_neg (by simp [nt_def, sq, (trim_nil _).2 q6]), if_pos q6]
      by_cases q7 : 0 < i ∧ c.1 < (w.2.2.getD (i - 1) d0).1
      ·rw [if_pos (by rw [if_neg (by omega)]; exact q7.2), if_pos q7]; rfl
      ·have q8 : ¬ c.1 < (if i = 0 then 0 else (w.2.2.getD (i - 1) d0).1) := by
        by_cases qi : i = 0
        ·rw [if_pos qi]; omega
        ·rw [if_neg qi]; omega
       rw [if_neg q8, if_neg q7]
       rw [if_neg (show ¬ i + 1 = 0 by omega), show i + 1 - 1 = i from rfl, hc]; rfl
     ·have q9 : ¬ Lib.trimS c.2.2 [48, 49, 120, 122] = [] := fun q => q6 ((trim_nil _).1 q)
      rw [if_pos (by simp [nt_def, sq, q9]), if_neg q6]; rfl)
    (by simp [F_vcd_Check_l1, br_def, lt_def])
   have l1' : iterS (F_vcd_Check_l1 w (unitB w.1) ((w.2.1.length : Int), ())) ((0 : Int), ((0 : Int), ())) = _ := l1
   rw [l1']
   cases (List.range w.2.2.length).findSome? (cErrs w) with
   | some r => rw [Option.elim, oj_inr]; rfl
   | none => rw [Option.elim, oj_inl]; rfl
 ·rw [if_pos (by simpa using h1), if_neg h1]
structure Good (w : TWave) : Prop where
 nv : w.2.1.length ≤ 256
 nc : w.2.2.length ≤ 4096
 unit : unitB w.1 = true
 var : ∀ i, i < w.2.1.length → vErr (w.2.1.getD i v0) (w.2.1.take i) = 0
 chg : ∀ i, i < w.2.2.length → cErr w i = 0
theorem chk_zero {w : TWave} : chk w = 0 ↔ Good w := by
 constructor
 ·intro h
  unfold chk at h
  split at h
  ·split at h
   ·cases h
   split at h
   ·cases h
   rename_i q1 q2 q3
   cases hf : (List.range w.2.1.length).findSome? (vErrs w) with
   | some r =>
    rw [hf] at h
    obtain ⟨i, -, hi⟩ := List.exists_of_findSome?_eq_some hf
    unfold vErrs at hi
    split at hi
    ·cases hi
    ·rename_i q
     have h' : r = 0 := h
     rw [h'] at hi
     exact absurd (Option.some.inj hi) q
   | none =>
    rw [hf] at h
    cases hg : (List.range w.2.2.length).findSome? (cErrs w) with
    | some r =>
     rw [hg] at h
     obtain ⟨i, -, hi⟩ := List.exists_of_findSome?_eq_some hg
     unfold cErrs at hi
     split at hi
     ·cases hi
     ·rename_i q
      have h' : r = 0 := h
      rw [h'] at hi
      exact absurd (Option.some.inj hi) q
    | none =>
     refine ⟨by omega, by omega, q1, fun i hi => ?_, fun i hi => ?_⟩
     ·have := List.findSome?_eq_none_iff.1 hf i (List.mem_range.2 hi)
      unfold vErrs at this
      split at this
      ·assumption
      ·cases this
     ·have := List.findSome?_eq_none_iff.1 hg i (List.mem_range.2 hi)
      unfold cErrs at this
      split at this
      ·assumption
      ·cases this
  ·cases h
 ·intro h
  unfold chk
  have hf : (List.range w.2.1.length).findSome? (vErrs w) = none := List.findSome?_eq_none_iff.2 fun i hi => by unfold vErrs; rw [if_pos (h.var i (List.mem_range.1 hi))]
  have hg : (List.range w.2.2.length).findSome? (cErrs w) = none := List.findSome?_eq_none_iff.2 fun i hi => by unfold cErrs; rw [if_pos (h.chg i (List.mem_range.1 hi))]
  have := h.nv
  have := h.nc
  rw [if_pos h.unit, if_neg (by omega), if_neg (by omega), hf, hg]; rfl
def fillS (w : TWave) (v : Nat) : Str := Lib.repeatL [120] (w.2.1.getD v v0).2.2.toNat
abbrev tAt (w : TWave) (i : Nat) : Int := (w.2.2.getD i d0).1
def valW (w : TWave) (v : Nat) (T : Int) : Str := val (fillS w) w.2.2 v T
def rowV (w : TWave) (T : Int) : LStr := (List.range w.2.1.length).map fun v => valW w v T
def rowAt (w : TWave) (j : Nat) : LStr := (List.range w.2.1.length).map fun v => (w.2.2.take j).foldl (upd v) (fillS w v)
theorem rowV_len (w : TWave) (T : Int) : (rowV w T).length = w.2.1.length := by simp [rowV]
theorem rowAt_len (w : TWave) (j : Nat) : (rowAt w j).length = w.2.1.length := by simp [rowAt]
theorem rowV_get {w : TWave} {T : Int} {v : Nat} (h : v < w.2.1.length) (d : Str) : (rowV w T).getD v d = valW w v T := by
 rw [getD_lt (by rw [rowV_len]; exact h)]; simp [rowV]
theorem Good.width {w : TWave} (h : Good w) {i : Nat} (hi : i < w.2.1.length) : 1 ≤ (w.2.1.getD i v0).2.2 ∧ (w.2.1.getD i v0).2.2 ≤ 128 := ⟨(vErr_zero (h.var i hi)).1, (vErr_zero (h.var i hi)).2.1⟩
theorem Good.mono {w : TWave} (h : Good w) : ∀ (d i : Nat), i + d < w.2.2.length → tAt w i ≤ tAt w (i + d) := by
 intro d
 induction d with
 | zero => intro i _; exact Int.le_refl _
 | succ d ih =>
  intro i hi
  have h1 := ih i (by omega)
  have h2 := (cErr_zero (h.chg (i + (d + 1)) hi)).2.2.2.2.2.2 (by omega)
  rw [show i + (d + 1) - 1 = i + d by omega] at h2
  exact Int.le_trans h1 h2
theorem Good.mono' {w : TWave} (h : Good w) {i j : Nat} (hij : i ≤ j) (hj : j < w.2.2.length) : tAt w i ≤ tAt w j := by
 have := h.mono (j - i) i (by omega)
 rwa [show i + (j - i) = j by omega] at this
theorem Good.sorted {w : TWave} (h : Good w) : Sorted w.2.2 := by
 refine List.pairwise_iff_getElem.2 fun i j hi hj hij => ?_
 have := h.mono' (Nat.le_of_lt hij) hj
 unfold tAt at this
 rwa [getD_lt hi, getD_lt hj] at this
theorem Good.ok {w : TWave} (h : Good w) : Ok w.2.1.length w.2.2 := by
 intro c hc
 obtain ⟨i, hi, rfl⟩ := List.getElem_of_mem hc
 have := cErr_zero (h.chg i hi)
 rw [getD_lt hi] at this
 exact ⟨this.2.2.1, this.2.2.2.1⟩
theorem Good.time {w : TWave} (h : Good w) {i : Nat} (hi : i < w.2.2.length) : 0 ≤ tAt w i ∧ tAt w i ≤ 1000000000000 := ⟨(cErr_zero (h.chg i hi)).1, (cErr_zero (h.chg i hi)).2.1⟩
theorem gend (w : TWave) {i : Nat} (hi : i < w.2.2.length) : ∃ j, i < j ∧ j ≤ w.2.2.length ∧ (∀ k, i ≤ k → k < j → tAt w k = tAt w i) ∧ (j < w.2.2.length → tAt w j ≠ tAt w i) := by
 have key : ∀ d m, i < m → m ≤ w.2.2.length → w.2.2.length - m ≤ d → (∀ k, i ≤ k → k < m → tAt w k = tAt w i) → ∃ j, i < j ∧ j ≤ w.2.2.length ∧ (∀ k, i ≤ k → k < j → tAt w k = tAt w i) ∧ (j < w.2.2.length → tAt w j ≠ tAt w i) := by
  intro d
  induction d with
  | zero => intro m h1 h2 h3 h4; exact ⟨m, h1, h2, h4, fun q => by omega⟩
  | succ d ih =>
   intro m h1 h2 h3 h4
   by_cases q : m < w.2.2.length ∧ tAt w m = tAt w i
   ·refine ih (m + 1) (by omega) (by omega) (by omega) fun k a b => ?_
    by_cases e : k = m
    ·rw [e]; exact q.2
    ·exact h4 k a (by omega)
   ·exact ⟨m, h1, h2, h4, fun a b => q ⟨a, b⟩⟩
 exact key _ (i + 1) (by omega) (by omega) (Nat.le_refl _) fun k a b => by rw [show k = i by omega]
def Bd (w : TWave) (i : Nat) : Prop := i = 0 ∨ tAt w i ≠ tAt w (i - 1)
theorem rowAt_before {w : TWave} (h : Good w) {i : Nat} (hi : i < w.2.2.length) (hb : Bd w i) : rowAt w i = rowV w (tAt w i - 1) := by
 unfold rowAt rowV valW
 refine List.map_congr_left fun v _ => ?_
 rw [val_cut _ _ i v (tAt w i - 1)]
 ·intro c hc
  obtain ⟨k, hk, rfl⟩ := List.mem_take_iff_getElem.1 hc
  rcases hb with rfl | hb
  ·omega
  ·have h1 := h.mono' (i := k) (j := i - 1) (by omega) (by omega)
   have h2 := h.mono' (i := i - 1) (j := i) (by omega) hi
   unfold tAt at *
   rw [getD_lt (by omega)] at h1
   omega
 ·intro c hc
  obtain ⟨k, hk, rfl⟩ := List.mem_drop_iff_getElem.1 hc
  have h1 := h.mono' (i := i) (j := i + k) (by omega) (by omega)
  unfold tAt at *
  rw [getD_lt (i := i + k) (by omega)] at h1
  omega
theorem rowAt_after {w : TWave} (h : Good w) {i j : Nat} (hij : i < j) (hj : j ≤ w.2.2.length) (ht : ∀ k, i ≤ k → k < j → tAt w k = tAt w i) (hn : j < w.2.2.length → tAt w j ≠ tAt w i) : rowAt w j = rowV w (tAt w i) := by
 unfold rowAt rowV valW
 refine List.map_congr_left fun v _ => ?_
 rw [val_cut _ _ j v (tAt w i)]
 ·intro c hc
  obtain ⟨k, hk, rfl⟩ := List.mem_take_iff_getElem.1 hc
  have h1 := h.mono' (i := k) (j := j - 1) (by omega) (by omega)
  rw [ht (j - 1) (by omega) (by omega)] at h1
  unfold tAt at *
  rwa [getD_lt (by omega)] at h1
 ·intro c hc
  obtain ⟨k, hk, rfl⟩ := List.mem_drop_iff_getElem.1 hc
  have h1 := h.mono' (i := j) (j := j + k) (by omega) (by omega)
  have h2 := h.mono' (i := i) (j := j) (by omega) (by omega)
  have h3 := hn (by omega)
  unfold tAt at *
  rw [getD_lt (i := j + k) (by omega)] at h1
  omega
theorem rowAt_succ {w : TWave} (h : Good w) {j : Nat} (hj : j < w.2.2.length) : (rowAt w j).set (w.2.2.getD j d0).2.1.toNat (w.2.2.getD j d0).2.2 = rowAt w (j + 1) := by
 have e := app_map w.2.1.length (fun v => (w.2.2.take j).foldl (upd v) (fillS w v)) [w.2.2[j]] fun c hc => by
  rw [List.mem_singleton.1 hc]; exact h.ok _ (List.getElem_mem hj)
 simp only [List.foldl_cons, List.foldl_nil] at e
 rw [getD_lt hj]
 unfold rowAt
 rw [show (List.map (fun v => List.foldl (upd v) (fillS w v) (List.take j w.2.2)) (List.range w.2.1.length)).set w.2.2[j].2.1.toNat w.2.2[j].2.2 = _ from e]
 refine List.map_congr_left fun v _ => ?_
 rw [← List.take_append_getElem hj, List.foldl_append]; rfl
def inner {R : Type} (w : TWave) (i : Int) (s : Int × (LStr × Unit)) : Option ((Int × (LStr × Unit)) ⊕ ((Int × (LStr × Unit)) ⊕ R)) :=
 (br (lt s.1 (ni (len w.2.2))) (br (ix s.1 (ni (len w.2.2))) (br (eq (rd w.2.2 (tn s.1) (0, (0, []))).1 (rd w.2.2 (tn i) (0, (0, []))).1) (br (ix s.1 (ni (len w.2.2))) (br (ix s.1 (ni (len w.2.2))) (br (ix (rd w.2.2 (tn s.1) (0, (0, []))).2.1 (ni (len s.2.1))) (some (.inl ((wr .i64 (ad s.1 1)), ((put s.2.1 (tn (rd w.2.2 (tn s.1) (0, (0, []))).2.1) (rd w.2.2 (tn s.1) (0, (0, []))).2.2), ())))) none) none) none) (some (.inr (.inl (s.1, (s.2.1, ())))))) none) (some (.inr (.inl (s.1, (s.2.1, ()))))))
theorem inner_eq {R : Type} {w : TWave} (h : Good w) {i j : Nat} (hij : i < j) (hj : j ≤ w.2.2.length) (ht : ∀ k, i ≤ k → k < j → tAt w k = tAt w i) (hn : j < w.2.2.length → tAt w j ≠ tAt w i) :
  iterS (inner (R := R) w (i : Int)) ((i : Int), (rowAt w i, ())) = some (.inl ((j : Int), (rowAt w j, ()))) := by
 have hnc := h.nc
 have l := iterS_upto (f := inner (R := R) w (i : Int)) (fun k => (((i + k : Nat) : Int), (rowAt w (i + k), ()))) (j - i) (r := .inl ((j : Int), (rowAt w j, ())))
  (fun k hk => by
   have hv := cErr_zero (h.chg (i + k) (by omega))
   have e1 := ht (i + k) (by omega) (by omega)
   unfold inner
   simp only [tn_nat]
   have hr : ∀ m : Nat, rd w.2.2 m d0 = w.2.2.getD m d0 := fun m => rfl
   rw [hr, hr, br_def, if_pos (by simp only [lt_def, ni_def, len_def, decide_eq_true_eq]; omega), br_def, if_pos (by simp only [ix_def, ni_def, len_def, decide_eq_true_eq]; omega), br_def,
    if_pos (by simp only [eq_def, decide_eq_true_eq]; exact e1), br_def, if_pos (by simp only [ix_def, ni_def, len_def, decide_eq_true_eq]; omega), br_def, if_pos (by simp only [ix_def, ni_def, len_def, decide_eq_true_eq]; omega),
    br_def, if_pos (by simp only [ix_def, ni_def, len_def, decide_eq_true_eq, rowAt_len]; omega), wr64 (by simp only [ad_def]; omega) (by simp only [ad_def]; omega), put_def, tn_def, rowAt_succ h (by omega)]
   rfl)
  (by
   rw [show i + (j - i) = j by omega]
   unfold inner
   simp only [tn_nat]
   have hr : ∀ m : Nat, rd w.2.2 m d0 = w.2.2.getD m d0 := fun m => rfl
   rw [hr, hr, br_def]
   by_cases q : j < w.2.2.length
   ·rw [if_pos (by simp only [lt_def, ni_def, len_def, decide_eq_true_eq]; omega), br_def, if_pos (by simp only [ix_def, ni_def, len_def, decide_eq_true_eq]; omega), br_def,
     if_neg (by simp only [eq_def, decide_eq_true_eq]; exact hn q)]
   ·rw [if_neg (by simp only [lt_def, ni_def, len_def, decide_eq_true_eq]; omega)])
 rw [Nat.add_zero] at l
 exact l
theorem steps_rule {σ R X : Type} {w : TWave} (h : Good w) {f : σ → Option (σ ⊕ R)} (mk : Int → LStr → X → σ) (g : Int → X → X) (fin : X → R) (I : Nat → X → Prop)
  (hstep : ∀ i j x, i < j → j ≤ w.2.2.length → Bd w i → (∀ k, i ≤ k → k < j → tAt w k = tAt w i) → (j < w.2.2.length → tAt w j ≠ tAt w i) → I i x →
   f (mk i (rowAt w i) x) = some (.inl (mk j (rowAt w j) (g (tAt w i) x))) ∧ I j (g (tAt w i) x))
  (hend : ∀ x, I w.2.2.length x → f (mk w.2.2.length (rowAt w w.2.2.length) x) = some (.inr (fin x))) (x0 : X) (h0 : I 0 x0) :
  iterS f (mk (0 : Nat) (rowAt w 0) x0) = some (fin ((tms w.2.2 w.2.2.length).foldl (fun x T => g T x) x0)) ∧ I w.2.2.length ((tms w.2.2 w.2.2.length).foldl (fun x T => g T x) x0) := by
 have key : ∀ d i x, w.2.2.length - i ≤ d → i ≤ w.2.2.length → (i < w.2.2.length → Bd w i) → x = (tms w.2.2 i).foldl (fun x T => g T x) x0 → I i x →
   iterS f (mk i (rowAt w i) x) = some (fin ((tms w.2.2 w.2.2.length).foldl (fun x T => g T x) x0)) ∧ I w.2.2.length ((tms w.2.2 w.2.2.length).foldl (fun x T => g T x) x0) := by
  intro d
  induction d with
  | zero =>
   intro i x hd hi hb hx hI
   have e : i = w.2.2.length := by omega
   subst e
   rw [iterS_inr (hend x hI), hx]
   exact ⟨rfl, hx ▸ hI⟩
  | succ d ih =>
   intro i x hd hi hb hx hI
   by_cases q : i < w.2.2.length
   ·obtain ⟨j, j1, j2, j3, j4⟩ := gend w q
    obtain ⟨s1, s2⟩ := hstep i j x j1 j2 (hb q) j3 j4 hI
    rw [iterS_inl s1]
    refine ih j _ (by omega) j2 (fun q2 => .inr ?_) ?_ s2
    ·rw [j3 (j - 1) (by omega) (by omega)]; exact j4 q2
    ·rw [tms_group w.2.2 i j j1 (hb q) j3, List.foldl_append, ← hx]; rfl
   ·have e : i = w.2.2.length := by omega
    subst e
    rw [iterS_inr (hend x hI), hx]
    exact ⟨rfl, hx ▸ hI⟩
 exact key _ 0 x0 (Nat.le_refl _) (Nat.zero_le _) (fun _ => .inl rfl) rfl h0
theorem init_eq {w : TWave} (h : Good w) : F_vcd_initial w = some (rowAt w 0) := by
 have hnv := h.nv
 have l := iterS_upto (f := F_vcd_initial_l0 w) (fun i => ((i : Int), ((((List.range w.2.1.length).take i).map (fillS w) ++ List.replicate ((List.range w.2.1.length).length - i) ([] : Str)), ()))) w.2.1.length (r := .inl ((w.2.1.length : Int), (rowAt w 0, ())))
  (fun i hi => by
   have hw := h.width hi
   unfold F_vcd_initial_l0
   simp only [tn_nat]
   have hr : F_strings_Repeat ([120] : Str) (rd w.2.1 i v0).2.2 = some (fillS w i) := by
    unfold F_strings_Repeat
    rw [if_pos]
    ·rfl
    ·exact ⟨rfl, by show 0 ≤ (w.2.1.getD i v0).2.2; omega, by show (w.2.1.getD i v0).2.2 ≤ 1000; omega⟩
   rw [hr, ob_some, br_def, if_pos (by simp only [lt_def, ni_def, len_def, decide_eq_true_eq]; omega), br_def, if_pos (by simp only [ix_def, ni_def, len_def, decide_eq_true_eq]; omega), br_def,
    if_pos (by simp only [ix_def, ni_def, len_def, decide_eq_true_eq, List.length_append, List.length_map, List.length_take, List.length_replicate, List.length_range]; omega), wr64 (by simp only [ad_def]; omega) (by simp only [ad_def]; omega), put_def]
   have e := set_map (fillS w) (List.range w.2.1.length) ([] : Str) i (by simpa using hi)
   rw [List.getElem_range] at e
   rw [e]; rfl)
  (by
   unfold F_vcd_initial_l0
   rw [br_def, if_neg (by simp only [lt_def, ni_def, len_def, decide_eq_true_eq]; omega)]
   have e : ((List.range w.2.1.length).take w.2.1.length).map (fillS w) ++ List.replicate ((List.range w.2.1.length).length - w.2.1.length) ([] : Str) = rowAt w 0 := by
    rw [List.take_of_length_le (by simp), List.length_range, Nat.sub_self]
    simp [rowAt]
   rw [e])
 unfold F_vcd_initial
 simp only [br_def, rg_def, ni_def, len_def, decide_eq_true_eq, le_def, ml_def]
 rw [if_pos (by omega), if_pos (by omega), if_pos (by omega)]
 have l' : iterS (F_vcd_initial_l0 w) ((0 : Int), ((rept (tn (w.2.1.length : Int)) ([] : Str)), ())) = some (.inl ((w.2.1.length : Int), (rowAt w 0, ()))) := by
  have : (rept (tn (w.2.1.length : Int)) ([] : Str)) = ((List.range w.2.1.length).take 0).map (fillS w) ++ List.replicate ((List.range w.2.1.length).length - 0) ([] : Str) := by
   rw [tn_nat, rept_def]; simp
  rw [this]; exact l
 rw [l', oj_inl]
theorem clone_eq (l : LStr) (h : l.length ≤ 100000) : F_slices_Clone_string_string l = some l := by
 unfold F_slices_Clone_string_string; rw [if_pos h]
theorem ltp {a b : Int} (h : a < b) : lt a b = true := decide_eq_true h
theorem ltn {a b : Int} (h : ¬ a < b) : lt a b = false := decide_eq_false h
theorem ixp {a b : Int} (h : 0 ≤ a ∧ a < b) : ix a b = true := decide_eq_true h
theorem fitsp {a b c : Nat} (h : a + b ≤ c) : fits a b c = true := decide_eq_true h
theorem br_t {R : Type} (x y : Option R) : br true x y = x := rfl
theorem br_f {R : Type} (x y : Option R) : br false x y = y := rfl
def dif (w : TWave) (T : Int) (v : Nat) : Option TChg := if valW w v T = valW w v (T - 1) then none else some (T, ((v : Int), valW w v T))
def diffs (w : TWave) (T : Int) : List TChg := (List.range w.2.1.length).filterMap (dif w T)
def NF (w : TWave) : List TChg := (tms w.2.2 w.2.2.length).foldl (fun x T => x ++ diffs w T) []
theorem fold_fm {α β : Type} (f : α → Option β) : ∀ (l : List α) (o : List β), l.foldl (fun o v => o ++ (f v).toList) o = o ++ l.filterMap f := by
 intro l
 induction l with
 | nil => intro o; simp
 | cons a r ih =>
  intro o
  rw [List.foldl_cons, ih, List.filterMap_cons]
  cases f a <;> simp
theorem normal_vars {w : TWave} (h : Good w) (y0 : Int) : iterS (F_vcd_Normal_l0 w y0) (0, ([], ())) = some (.inl ((w.2.1.length : Int), (w.2.1, ()))) := by
 have hnv := h.nv
 have l := iterS_upto (f := F_vcd_Normal_l0 w y0) (fun i => ((i : Int), (w.2.1.take i, ()))) w.2.1.length (r := .inl ((w.2.1.length : Int), (w.2.1, ())))
  (fun i hi => by
   have hs := (vErr_zero (h.var i hi)).2.2.1
   unfold F_vcd_Normal_l0
   simp only [tn_nat]
   have hc : F_slices_Clone_string_string (rd w.2.1 i v0).1 = some (w.2.1.getD i v0).1 := clone_eq _ (by show (w.2.1.getD i v0).1.length ≤ 100000; omega)
   rw [hc, ob_some, ltl (by omega), br_t, ixl (by omega), br_t, fitsp (by simp [len_def]; omega), br_t, wra (by omega), app_def]
   have e : w.2.1.take i ++ [((w.2.1.getD i v0).1, ((rd w.2.1 i v0).2.1, (rd w.2.1 i v0).2.2))] = w.2.1.take (i + 1) := by
    rw [← List.take_append_getElem hi]
    congr 2
    show w.2.1.getD i v0 = _
    exact getD_lt hi _
   rw [e]; rfl)
  (by
   unfold F_vcd_Normal_l0
   rw [lnl (by omega), br_f, List.take_length])
 exact l
theorem normal_dif {w : TWave} (h : Good w) {T : Int} (y0 : Int) (y2) (y3) (i : Nat) (x : List TChg) (j : Int) (st : LStr) (hT : tAt w i = T) (hx : x.length ≤ 2000000) :
  iterS (F_vcd_Normal_l3 w y0 y2 y3 ((i : Int), (st, (x, ()))) (rowV w (T - 1)) (j, (rowV w T, ()))) (0, (x, ())) = some (.inl ((w.2.1.length : Int), (x ++ diffs w T, ()))) := by
 have hnv := h.nv
 have l := iterS_fold (f := F_vcd_Normal_l3 w y0 y2 y3 ((i : Int), (st, (x, ()))) (rowV w (T - 1)) (j, (rowV w T, ()))) (List.range w.2.1.length) (fun i b => ((i : Int), (b, ()))) (fun b v => b ++ (dif w T v).toList)
  (fun b => .inl ((w.2.1.length : Int), (b, ()))) (fun i b => b.length ≤ 2000000 + i)
  (fun v b hv hb => by
   simp only [List.length_range] at hv
   rw [List.getElem_range]
   have hr : (rd w.2.2 i d0).1 = T := hT
   have g1 : rd (rowV w T) v ([] : Str) = valW w v T := rowV_get hv _
   have g2 : rd (rowV w (T - 1)) v ([] : Str) = valW w v (T - 1) := rowV_get hv _
   refine ⟨?_, ?_⟩
   ·unfold F_vcd_Normal_l3
    simp only [tn_nat]
    rw [hr, g1, g2, ltp (by simp only [ni_def, len_def, rowV_len]; omega), br_t, ixp (by simp only [ni_def, len_def, rowV_len]; omega), br_t, ixp (by simp only [ni_def, len_def, rowV_len]; omega), br_t,
     wra (by omega)]
    unfold dif
    by_cases q : valW w v T = valW w v (T - 1)
    ·rw [if_pos q, show nt (sq (valW w v T) (valW w v (T - 1))) = false by simp [nt_def, sq, q], br_f]
     simp [ad_def]
    ·rw [if_neg q, show nt (sq (valW w v T) (valW w v (T - 1))) = true by simp [nt_def, sq, q], br_t, br_t, fitsp (by simp [len_def]; omega), br_t]
     simp [ad_def, app_def]
   ·show (b ++ (dif w T v).toList).length ≤ _
    unfold dif
    split <;> simp <;> omega)
  (fun b hb => by
   unfold F_vcd_Normal_l3
   rw [ltn (by simp only [ni_def, len_def, rowV_len, List.length_range]; omega), br_f, List.length_range])
  (b := x) (by simpa using hx)
 rw [fold_fm] at l
 exact l
theorem normal_eq (w : TWave) (hw : WfT .str w.1) : F_vcd_Normal w = some (if chk w = 0 then ((w.1, (w.2.1, NF w)), 0) else (([], ([], [])), chk w)) := by
 unfold F_vcd_Normal
 rw [show F_vcd_Check (w.1, (w.2.1, w.2.2)) = some (chk w) from check_eq w hw, ob_some]
 by_cases hc : chk w = 0
 ·have h : Good w := chk_zero.1 hc
  have hnv := h.nv
  have hnc := h.nc
  rw [if_pos hc, show ne (chk w) 0 = false by simp [ne_def, hc], br_f, normal_vars h, oj_inl, show F_vcd_initial (w.1, (w.2.1, w.2.2)) = _ from init_eq h, ob_some]
  have st := steps_rule (X := List TChg) h (f := F_vcd_Normal_l1 w (chk w) ((w.2.1.length : Int), (w.2.1, ())) (rowAt w 0)) (fun i s x => (i, (s, (x, ())))) (fun T x => x ++ diffs w T)
   (fun x => .inl ((w.2.2.length : Int), (rowAt w w.2.2.length, (x, ())))) (fun i x => x.length ≤ i * 256)
   (fun i j x j1 j2 hb j3 j4 hI => by
    have hdl : (diffs w (tAt w i)).length ≤ 256 := Nat.le_trans (List.length_filterMap_le ..) (by simpa using hnv)
    refine ⟨?_, ?_⟩
    ·unfold F_vcd_Normal_l1
     simp only
     rw [ltl (by omega), br_t, ixl (by omega), br_t, clone_eq _ (by rw [rowAt_len]; omega), ob_some]
     rw [show iterS (F_vcd_Normal_l2 w (chk w) ((w.2.1.length : Int), (w.2.1, ())) (rowAt w 0) ((i : Int), (rowAt w i, (x, ()))) (rowAt w i)) ((i : Int), (rowAt w i, ())) = _ from inner_eq h j1 j2 j3 j4, oj_inl]
     have e1 := rowAt_before h (show i < w.2.2.length by omega) hb
     have e2 := rowAt_after h j1 j2 j3 j4
     have nd := normal_dif h (T := tAt w i) (chk w) ((w.2.1.length : Int), (w.2.1, ())) (rowAt w 0) i x (j : Int) (rowAt w i) rfl (by have : i * 256 ≤ 4096 * 256 := Nat.mul_le_mul (by omega) (Nat.le_refl _); omega)
     rw [← e1, ← e2] at nd
     rw [nd, oj_inl]
    ·show (x ++ diffs w (tAt w i)).length ≤ j * 256
     rw [List.length_append]
     have : (i + 1) * 256 ≤ j * 256 := Nat.mul_le_mul (by omega) (Nat.le_refl _)
     omega)
   (fun x hI => by
    unfold F_vcd_Normal_l1
    rw [lnl (by omega), br_f])
   [] (by simp)
  rw [show iterS (F_vcd_Normal_l1 w (chk w) ((w.2.1.length : Int), (w.2.1, ())) (rowAt w 0)) (0, (rowAt w 0, ([], ()))) = _ from st.1, oj_inl]; rfl
 ·rw [if_neg hc, show ne (chk w) 0 = true by simp [ne_def, hc], br_t]
theorem vat_eq (w : TWave) (hw : WfT .str w.1) (v T : Int) : F_vcd_At w v T = some (if chk w = 0 then if v < 0 ∨ (w.2.1.length : Int) ≤ v then ([], 1) else (valW w v.toNat T, 0) else ([], chk w)) := by
 unfold F_vcd_At
 rw [show F_vcd_Check (w.1, (w.2.1, w.2.2)) = some (chk w) from check_eq w hw, ob_some]
 by_cases hc : chk w = 0
 ·have h : Good w := chk_zero.1 hc
  have hnv := h.nv
  have hnc := h.nc
  rw [if_pos hc, show ne (chk w) 0 = false by simp [ne_def, hc], br_f]
  by_cases q1 : v < 0
  ·rw [ltp q1, br_t, if_pos (.inl q1)]
  rw [ltn q1, br_f]
  by_cases q2 : (w.2.1.length : Int) ≤ v
  ·rw [show le (ni (len w.2.1)) v = true from decide_eq_true q2, br_t, if_pos (.inr q2)]
  rw [show le (ni (len w.2.1)) v = false from decide_eq_false q2, br_f, if_neg (by omega)]
  obtain ⟨k, rfl⟩ : ∃ k : Nat, v = k := ⟨v.toNat, by omega⟩
  have hk : k < w.2.1.length := by omega
  rw [show F_vcd_initial (w.1, (w.2.1, w.2.2)) = _ from init_eq h, ob_some, ixp (by simp only [ni_def, len_def, rowAt_len]; omega), br_t, ob_some]
  have e0 : rd (rowAt w 0) (tn (k : Int)) ([] : Str) = val (fillS w) (w.2.2.take 0) k T := by
   rw [tn_nat]
   show (rowAt w 0).getD k [] = _
   rw [getD_lt (by rw [rowAt_len]; exact hk)]; simp [rowAt, val]
  have st := steps_rule (X := Str) h (f := F_vcd_At_l0 w (k : Int) T (chk w) (rowAt w 0) (rowAt w 0)) (fun i s x => (i, (s, (x, ())))) (fun t x => if t ≤ T then valW w k t else x)
   (fun x => .inl ((w.2.2.length : Int), (rowAt w w.2.2.length, (x, ())))) (fun i x => x = val (fillS w) (w.2.2.take i) k T)
   (fun i j x j1 j2 hb j3 j4 hI => by
    have e2 := rowAt_after h j1 j2 j3 j4
    refine ⟨?_, ?_⟩
    ·unfold F_vcd_At_l0
     simp only
     rw [ltl (by omega), br_t, ixl (by omega), br_t, clone_eq _ (by rw [rowAt_len]; omega), ob_some]
     rw [show iterS (F_vcd_At_l1 w (k : Int) T (chk w) (rowAt w 0) (rowAt w 0) ((i : Int), (rowAt w i, (x, ()))) (rowAt w i)) ((i : Int), (rowAt w i, ())) = _ from inner_eq h j1 j2 j3 j4, oj_inl]
     have hr : (rd w.2.2 (tn (i : Int)) d0).1 = tAt w i := rfl
     rw [hr]
     by_cases q : tAt w i ≤ T
     ·rw [show le (tAt w i) T = true from decide_eq_true q, br_t, ixp (by simp only [ni_def, len_def, rowAt_len]; omega), br_t, if_pos q, tn_nat]
      have g1 : rd (rowAt w j) k ([] : Str) = valW w k (tAt w i) := by rw [e2]; exact rowV_get hk _
      rw [g1]
     ·rw [show le (tAt w i) T = false from decide_eq_false q, br_f, if_neg q]
    ·show (if tAt w i ≤ T then valW w k (tAt w i) else x) = _
     have et : w.2.2.take j = w.2.2.take i ++ (w.2.2.drop i).take (j - i) := by
      conv => lhs; rw [show j = i + (j - i) by omega, List.take_add]
     by_cases q : tAt w i ≤ T
     ·rw [if_pos q, val_early _ (w.2.2.take j)]
      ·have this : (rowAt w j).getD k [] = (rowV w (tAt w i)).getD k [] := by rw [e2]
       rw [rowV_get hk, getD_lt (by rw [rowAt_len]; exact hk)] at this
       rw [← this]; simp [rowAt]
      ·intro c hc
       obtain ⟨m, hm, rfl⟩ := List.mem_take_iff_getElem.1 hc
       have h1 := h.mono' (i := m) (j := j - 1) (by omega) (by omega)
       rw [j3 (j - 1) (by omega) (by omega)] at h1
       unfold tAt at *
       rw [getD_lt (by omega)] at h1
       omega
     ·rw [if_neg q, hI, et, val_append]
      refine (val_late (fun _ => val (fillS w) (w.2.2.take i) k T) _ k T fun c hc _ => ?_).symm
      obtain ⟨m, hm, rfl⟩ := List.mem_take_iff_getElem.1 hc
      rw [List.getElem_drop]
      have h1 := j3 (i + m) (by omega) (by omega)
      unfold tAt at *
      rw [getD_lt (i := i + m) (by simp at hm; omega)] at h1
      omega)
   (fun x hI => by
    unfold F_vcd_At_l0
    rw [lnl (by omega), br_f])
   _ e0
  rw [show iterS (F_vcd_At_l0 w (k : Int) T (chk w) (rowAt w 0) (rowAt w 0)) (0, (rowAt w 0, (rd (rowAt w 0) (tn (k : Int)) ([] : Str), ()))) = _ from st.1, oj_inl]
  have e3 := st.2
  simp only at e3 ⊢
  rw [e3, List.take_length]
  rfl
 ·rw [if_neg hc, show ne (chk w) 0 = true by simp [ne_def, hc], br_t]
theorem flat_take {α : Type} (a : List (List α)) (i : Nat) (hi : i < a.length) : (a.take i).flatten ++ a[i] = (a.take (i + 1)).flatten := by
 rw [← List.take_append_getElem hi, List.flatten_append, List.flatten_singleton]
theorem flat_le {α : Type} (a : List (List α)) (i : Nat) : (a.take i).flatten.length ≤ a.flatten.length := by
 conv => rhs; rw [← List.take_append_drop i a, List.flatten_append, List.length_append]
 omega
theorem F_slices_Concat_Change_Change_eq (a : List (List TChg)) (h : a.length ≤ 4000000000000) (h2 : a.flatten.length ≤ 4000000000000) : F_slices_Concat_Change_Change a = some a.flatten := by
 have l0 := iterS_upto (f := F_slices_Concat_Change_Change_l0 a) (fun i => ((i : Int), ((a.take i).flatten.length : Int), ())) a.length (r := .inl ((a.length : Int), (a.flatten.length : Int), ()))
  (fun i hi => by
   have e := flat_take a i hi
   have e2 := flat_le a (i + 1)
   have e3 := congrArg List.length e
   rw [List.length_append] at e3
   simp only [F_slices_Concat_Change_Change_l0, br_def, lt_def, ni_def, len_def, ix_def, tn_nat, rd_lt hi, decide_eq_true_eq, ad_def]
   rw [if_pos (by omega), if_pos (by omega), wr64 (by omega) (by omega), if_neg (by omega), wr64 (by omega) (by omega), ← e3]; rfl)
  (by simp [F_slices_Concat_Change_Change_l0])
 have l1 : ∀ y0, iterS (F_slices_Concat_Change_Change_l1 a y0) (0, ([], ())) = some (.inl ((a.length : Int), a.flatten, ())) := fun y0 => by
  have := iterS_upto (f := F_slices_Concat_Change_Change_l1 a y0) (fun i => ((i : Int), (a.take i).flatten, ())) a.length (r := .inl ((a.length : Int), a.flatten, ()))
   (fun i hi => by
    have e := flat_take a i hi
    have e2 := flat_le a (i + 1)
    have e3 := congrArg List.length e
    rw [List.length_append] at e3
    simp only [F_slices_Concat_Change_Change_l1, br_def, lt_def, ni_def, len_def, ix_def, tn_nat, rd_lt hi, decide_eq_true_eq, ad_def, fits_def, app_def]
    rw [if_pos (by omega), if_pos (by omega), if_pos (by omega), wr64 (by omega) (by omega), e]; rfl)
   (by simp [F_slices_Concat_Change_Change_l1])
  simpa using this
 have l2 : ∀ y0, iterS (F_slices_Concat_Change_Change_l2 a y0) (0, ([], ())) = some (.inl ((a.length : Int), a.flatten, ())) := l1
 unfold F_slices_Concat_Change_Change
 rw [show ((0 : Int), ((0 : Int), ())) = (((0 : Nat) : Int), ((a.take 0).flatten.length : Int), ()) by simp, l0, oj_inl]
 simp only [br_def, lt_def, sb_def, ni_def, len_def, rept_def, cut_def, rg_def, fits_def, decide_eq_true_eq]
 rw [if_neg (by omega), show wr .i64 (0 - ((0 : Nat) : Int)) = 0 from wr64 (by decide) (by decide), wr64 (by omega) (by omega)]
 by_cases h0 : a.flatten.length = 0
 ·rw [if_neg (by omega), l2]
 ·have e : tn ((a.flatten.length : Int) - 0) = a.flatten.length := by
   show Int.toNat _ = _
   omega
  rw [if_pos (by omega), if_pos (by omega), e, if_pos (by omega), if_pos (by simp)]
  rw [show tn (((0 : Nat) : Int)) = 0 from rfl, List.take_zero, l1]
def fd : List TChg → List TChg → Int × (Int × (Bool × Int))
 | c :: x, d :: y => if c = d then fd x y else if d.1 < c.1 ∨ (d.1 = c.1 ∧ d.2.1 < c.2.1) then (d.1, (d.2.1, (true, 0))) else (c.1, (c.2.1, (true, 0)))
 | [], [] => (0, (0, (false, 0)))
 | c :: _, [] => (c.1, (c.2.1, (true, 0)))
 | [], d :: _ => (d.1, (d.2.1, (true, 0)))
def cp : List TChg → List TChg → Nat
 | c :: x, d :: y => if c = d then cp x y + 1 else 0
 | _, _ => 0
theorem cp_spec : ∀ (x y : List TChg), cp x y ≤ x.length ∧ cp x y ≤ y.length ∧ (∀ i, i < cp x y → x.getD i d0 = y.getD i d0) ∧ (cp x y < x.length → cp x y < y.length → x.getD (cp x y) d0 ≠ y.getD (cp x y) d0) ∧ fd x y = fd (x.drop (cp x y)) (y.drop (cp x y)) := by
 intro x
 induction x with
 | nil => intro y; cases y <;> simp [cp]
 | cons c x ih =>
  intro y
  cases y with
  | nil => simp [cp]
  | cons d y =>
   unfold cp
   by_cases e : c = d
   ·rw [if_pos e]
    subst e
    obtain ⟨h1, h2, h3, h4, h5⟩ := ih y
    refine ⟨by simp; omega, by simp; omega, fun i hi => ?_, fun a b => ?_, ?_⟩
    ·cases i with
     | zero => rfl
     | succ i => simpa using h3 i (by omega)
    ·simp at a b
     simpa using h4 a b
    ·rw [fd, if_pos rfl, h5]; rfl
   ·rw [if_neg e]
    exact ⟨Nat.zero_le _, Nat.zero_le _, fun i hi => absurd hi (Nat.not_lt_zero _), fun _ _ => by simpa using e, rfl⟩
theorem chg_eq (c d : TChg) : ba (eq c.1 d.1) (ba (eq c.2.1 d.2.1) (sq c.2.2 d.2.2)) = decide (c = d) := by
 obtain ⟨a, b, s⟩ := c
 obtain ⟨a', b', s'⟩ := d
 simp only [ba_def, eq_def, sq, Prod.mk.injEq]
 by_cases h1 : a = a' <;> by_cases h2 : b = b' <;> by_cases h3 : s = s' <;> simp [h1, h2, h3]
theorem cut1 {α : Type} (x : List α) (p : Nat) (hp : p ≤ x.length) (hl : x.length ≤ 4000000000000) : rg (p : Int) (mn (wr .i64 (ad (p : Int) 1)) (ni (len x))) (ni (len x)) = true ∧
  TM.cut x (tn (p : Int)) (nsub (tn (mn (wr .i64 (ad (p : Int) 1)) (ni (len x)))) (tn (p : Int))) = (x.drop p).take 1 := by
 rw [wr64 (by simp only [ad_def]; omega) (by simp only [ad_def]; omega), mn_def, ad_def]
 simp only [ni_def, len_def]
 by_cases q : (x.length : Int) < (p : Int) + 1
 ·have e : p = x.length := by omega
  rw [if_pos q]
  refine ⟨by rw [rg_def]; simp only [decide_eq_true_eq]; omega, ?_⟩
  rw [tn_nat, tn_nat, cut_def, nsub_def, e]; simp
 ·rw [if_neg q]
  refine ⟨by rw [rg_def]; simp only [decide_eq_true_eq]; omega, ?_⟩
  rw [show tn ((p : Int) + 1) = p + 1 by rw [tn_def]; omega, tn_nat, cut_def, nsub_def, show p + 1 - p = 1 by omega]
theorem fd_heads (X Y z : List TChg) (hz : z = X.take 1 ++ Y.take 1) (h : ∀ c x d y, X = c :: x → Y = d :: y → c ≠ d) : (br (eq (ni (len z)) 0) (some ((0 : Int), ((0 : Int), (false, (0 : Int))))) (br (ix 0 (ni (len z))) (br (ix (wr .i64 (sb (ni (len z)) 1)) (ni (len z)))
  (br (lt (rd z (tn (wr .i64 (sb (ni (len z)) 1))) d0).1 (rd z (tn 0) (0, (0, []))).1) (some ((rd z (tn (wr .i64 (sb (ni (len z)) 1))) d0).1, ((rd z (tn (wr .i64 (sb (ni (len z)) 1))) d0).2.1, (true, 0))))
   (br (eq (rd z (tn (wr .i64 (sb (ni (len z)) 1))) d0).1 (rd z (tn 0) (0, (0, []))).1) (br (lt (rd z (tn (wr .i64 (sb (ni (len z)) 1))) d0).2.1 (rd z (tn 0) (0, (0, []))).2.1)
    (some ((rd z (tn (wr .i64 (sb (ni (len z)) 1))) d0).1, ((rd z (tn (wr .i64 (sb (ni (len z)) 1))) d0).2.1, (true, 0)))) (some ((rd z (tn 0) (0, (0, []))).1, ((rd z (tn 0) (0, (0, []))).2.1, (true, 0)))))
    (some ((rd z (tn 0) (0, (0, []))).1, ((rd z (tn 0) (0, (0, []))).2.1, (true, 0)))))) none) none)) = some (fd X Y) := by
 subst hz
 have z1 : wr .i64 (sb (1 : Int) 1) = 0 := wr64 (by decide) (by decide)
 have z2 : wr .i64 (sb (2 : Int) 1) = 1 := wr64 (by decide) (by decide)
 cases X with
 | nil =>
  cases Y with
  | nil => rfl
  | cons d y =>
   show br (eq 1 0) _ (br (ix 0 1) (br (ix (wr .i64 (sb (1 : Int) 1)) 1) (br (lt (rd [d] (tn (wr .i64 (sb (1 : Int) 1))) (0, (0, []))).1 d.1) (some ((rd [d] (tn (wr .i64 (sb (1 : Int) 1))) (0, (0, []))).1, _)) _) none) none) = _
   rw [z1, show ix 0 1 = true from rfl, show eq 1 0 = false from rfl, br_f, br_t, br_t, show tn 0 = 0 from rfl]
   rw [show lt (rd [d] 0 d0).1 d.1 = false from decide_eq_false (by show ¬ d.1 < d.1; omega), br_f]
   show br (eq (rd [d] (tn (wr .i64 (sb (1 : Int) 1))) (0, (0, []))).1 d.1) (br (lt (rd [d] (tn (wr .i64 (sb (1 : Int) 1))) (0, (0, []))).2.1 d.2.1) _ (some (d.1, (d.2.1, (true, 0))))) (some (d.1, (d.2.1, (true, 0)))) = _
   rw [z1, show tn 0 = 0 from rfl, show lt (rd [d] 0 d0).2.1 d.2.1 = false from decide_eq_false (by show ¬ d.2.1 < d.2.1; omega), br_f]
   cases eq (rd [d] 0 d0).1 d.1 <;> rfl
 | cons c x =>
  cases Y with
  | nil =>
   show br (eq 1 0) _ (br (ix 0 1) (br (ix (wr .i64 (sb (1 : Int) 1)) 1) (br (lt (rd [c] (tn (wr .i64 (sb (1 : Int) 1))) (0, (0, []))).1 c.1) (some ((rd [c] (tn (wr .i64 (sb (1 : Int) 1))) (0, (0, []))).1, _)) _) none) none) = _
   rw [z1, show ix 0 1 = true from rfl, show eq 1 0 = false from rfl, br_f, br_t, br_t, show tn 0 = 0 from rfl]
   rw [show lt (rd [c] 0 d0).1 c.1 = false from decide_eq_false (by show ¬ c.1 < c.1; omega), br_f]
   show br (eq (rd [c] (tn (wr .i64 (sb (1 : Int) 1))) (0, (0, []))).1 c.1) (br (lt (rd [c] (tn (wr .i64 (sb (1 : Int) 1))) (0, (0, []))).2.1 c.2.1) _ (some (c.1, (c.2.1, (true, 0))))) (some (c.1, (c.2.1, (true, 0)))) = _
   rw [z1, show tn 0 = 0 from rfl, show lt (rd [c] 0 d0).2.1 c.2.1 = false from decide_eq_false (by show ¬ c.2.1 < c.2.1; omega), br_f]
   cases eq (rd [c] 0 d0).1 c.1 <;> rfl
  | cons d y =>
   have hne := h c x d y rfl rfl
   have hl : (wr .i64 (sb (ni (len ((c :: x).take 1 ++ (d :: y).take 1))) 1)) = 1 := z2
   have hn : ni (len ((c :: x).take 1 ++ (d :: y).take 1)) = 2 := rfl
   have r1 : rd ((c :: x).take 1 ++ (d :: y).take 1) (tn 1) d0 = d := rfl
   have r0 : rd ((c :: x).take 1 ++ (d :: y).take 1) (tn 0) d0 = c := rfl
   rw [hl, hn, r1, r0, show ix 0 2 = true from rfl, show ix 1 2 = true from rfl, show eq 2 0 = false from rfl, br_f, br_t, br_t, fd, if_neg hne]
   by_cases q1 : d.1 < c.1
   ·rw [ltp q1, br_t, if_pos (.inl q1)]
   ·rw [ltn q1, br_f]
    by_cases q2 : d.1 = c.1
    ·rw [show eq d.1 c.1 = true from decide_eq_true q2, br_t]
     by_cases q3 : d.2.1 < c.2.1
     ·rw [ltp q3, br_t, if_pos (.inr ⟨q2, q3⟩)]
     ·rw [ltn q3, br_f, if_neg (by omega)]
    ·rw [show eq d.1 c.1 = false from decide_eq_false q2, br_f, if_neg (by omega)]
theorem diff1 (a b : TVar) (h : a.1.length ≤ 9000000000000 ∨ b.1.length ≤ 9000000000000) : F_vcd_Diff_1 a b = some (decide (a = b)) := by
 unfold F_vcd_Diff_1
 rw [show F_vcd_same (a.1, (a.2.1, a.2.2)) (b.1, (b.2.1, b.2.2)) = some (sameB a b) from same_eq a b h, ob_some]
 obtain ⟨s, n, k⟩ := a
 obtain ⟨s', n', k'⟩ := b
 unfold sameB
 simp only [br_def, eq_def, decide_eq_true_eq, Prod.mk.injEq]
 by_cases h1 : n = n' <;> by_cases h2 : s = s' <;> simp [h1, h2]
theorem nf_len {w : TWave} (h : Good w) : (NF w).length ≤ 2000000 := by
 have hnv := h.nv
 have hnc := h.nc
 have hd : ∀ T, (diffs w T).length ≤ 256 := fun T => Nat.le_trans (List.length_filterMap_le ..) (by simpa using hnv)
 have hl : ∀ (l : List Int) (x : List TChg), (l.foldl (fun x T => x ++ diffs w T) x).length ≤ x.length + l.length * 256 := by
  intro l
  induction l with
  | nil => intro x; simp
  | cons T l ih =>
   intro x
   have h1 := ih (x ++ diffs w T)
   have h2 := hd T
   rw [List.length_append] at h1
   simp only [List.foldl_cons, List.length_cons]
   omega
 have h1 := hl (tms w.2.2 w.2.2.length) []
 have h2 : (tms w.2.2 w.2.2.length).length ≤ 4096 := Nat.le_trans (List.length_filterMap_le ..) (by simpa using hnc)
 unfold NF
 simp only [List.length_nil] at h1
 omega
theorem diff_eq (a b : TWave) (ha : WfT .str a.1) (hb : WfT .str b.1) : F_vcd_Diff a b = some (if chk a = 0 then if chk b = 0 then if a.1 = b.1 ∧ a.2.1 = b.2.1 then fd (NF a) (NF b) else (0, (0, (false, 12))) else (0, (0, (false, chk b))) else (0, (0, (false, chk a)))) := by
 unfold F_vcd_Diff
 rw [show F_vcd_Normal (a.1, (a.2.1, a.2.2)) = _ from normal_eq a ha, ob_some]
 by_cases hc : chk a = 0
 ·rw [if_pos hc, if_pos hc, show ne (((a.1, (a.2.1, NF a)), (0 : Int)) : TWave × Int).2 0 = false from rfl, br_f, show F_vcd_Normal (b.1, (b.2.1, b.2.2)) = _ from normal_eq b hb, ob_some]
  by_cases hd : chk b = 0
  ·rw [if_pos hd, if_pos hd, show ne (((b.1, (b.2.1, NF b)), (0 : Int)) : TWave × Int).2 0 = false from rfl, br_f]
   have ga := chk_zero.1 hc
   have gb := chk_zero.1 hd
   have na := ga.nv
   have nb := gb.nv
   simp only
   by_cases e1 : a.1 = b.1
   ·rw [show nt (sq a.1 b.1) = false by simp [nt_def, sq, e1], br_f]
    by_cases e2 : a.2.1.length = b.2.1.length
    ·rw [show ne (ni (len a.2.1)) (ni (len b.2.1)) = false from decide_eq_false (by simp only [ni_def, len_def, ne_eq]; omega), br_f]
     have l := iterS_findR (f := F_vcd_Diff_l0 a b ((a.1, (a.2.1, NF a)), 0) ((b.1, (b.2.1, NF b)), 0)) a.2.1.length (fun i => ((i : Int), ())) (fun i => if decide (a.2.1.getD i v0 = b.2.1.getD i v0) = true then none else some ()) (.inl ((a.2.1.length : Int), ())) (fun _ => .inr (0, (0, (false, 12))))
      (fun i hi => by
       have hs := (vErr_zero (ga.var i hi)).2.2.1
       unfold F_vcd_Diff_l0
       simp only [tn_nat]
       rw [show F_vcd_Diff_1 ((rd a.2.1 i v0).1, ((rd a.2.1 i v0).2.1, (rd a.2.1 i v0).2.2)) ((rd b.2.1 i v0).1, ((rd b.2.1 i v0).2.1, (rd b.2.1 i v0).2.2)) = _ from
        diff1 (a.2.1.getD i v0) (b.2.1.getD i v0) (.inl (by omega)), ob_some, ltl (by omega), br_t, ixl (by omega), br_t, ixl (by omega), br_t, wra (by omega)]
       by_cases q : a.2.1.getD i v0 = b.2.1.getD i v0
       ·rw [decide_eq_true q, if_pos rfl]; rfl
       ·rw [decide_eq_false q, if_neg (by simp)]; rfl)
      (by
       unfold F_vcd_Diff_l0
       rw [ltn (by simp only [ni_def, len_def]; omega), br_f])
     rw [show iterS (F_vcd_Diff_l0 a b ((a.1, (a.2.1, NF a)), 0) ((b.1, (b.2.1, NF b)), 0)) (0, ()) = _ from l, find_all', eq_all _ _ _ e2]
     by_cases e3 : a.2.1 = b.2.1
     ·rw [if_pos (by simpa using e3), if_pos ⟨e1, e3⟩, Option.elim, oj_inl]
      obtain ⟨p1, p2, p3, p4, p5⟩ := cp_spec (NF a) (NF b)
      have la := nf_len ga
      have lb := nf_len gb
      have l1 := iterS_upto (f := F_vcd_Diff_l1 a b ((a.1, (a.2.1, NF a)), 0) ((b.1, (b.2.1, NF b)), 0) ((a.2.1.length : Int), ())) (fun i => ((i : Int), ())) (cp (NF a) (NF b)) (r := .inl (((cp (NF a) (NF b) : Nat) : Int), ()))
       (fun i hi => by
        unfold F_vcd_Diff_l1
        simp only [tn_nat]
        rw [chg_eq, show rd (NF a) i d0 = (NF a).getD i d0 from rfl, show rd (NF b) i d0 = (NF b).getD i d0 from rfl, ltl (by omega), br_t, ltl (by omega), br_t, ixl (by omega), br_t, ixl (by omega), br_t, wra (by omega), decide_eq_true (p3 i hi), br_t]; rfl)
       (by
        unfold F_vcd_Diff_l1
        simp only [tn_nat]
        by_cases q1 : cp (NF a) (NF b) < (NF a).length
        ·rw [ltl (by omega), br_t]
         by_cases q2 : cp (NF a) (NF b) < (NF b).length
         ·rw [chg_eq, show rd (NF a) (cp (NF a) (NF b)) d0 = (NF a).getD (cp (NF a) (NF b)) d0 from rfl, show rd (NF b) (cp (NF a) (NF b)) d0 = (NF b).getD (cp (NF a) (NF b)) d0 from rfl, ltl (by omega), br_t, ixl (by omega), br_t, ixl (by omega), br_t, decide_eq_false (p4 q1 q2), br_f]
         ·rw [lnl (by omega), br_f]
        ·rw [lnl (by omega), br_f])
      rw [show iterS (F_vcd_Diff_l1 a b ((a.1, (a.2.1, NF a)), 0) ((b.1, (b.2.1, NF b)), 0) ((a.2.1.length : Int), ())) (0, ()) = _ from l1, oj_inl]
      simp only
      obtain ⟨c1, c2⟩ := cut1 (NF a) (cp (NF a) (NF b)) p1 (by omega)
      obtain ⟨c3, c4⟩ := cut1 (NF b) (cp (NF a) (NF b)) p2 (by omega)
      rw [c1, br_t, c3, br_t, c2, c4, F_slices_Concat_Change_Change_eq _ (by simp) (by simp; omega), ob_some, p5]
      have ef : ([((NF a).drop (cp (NF a) (NF b))).take 1, ((NF b).drop (cp (NF a) (NF b))).take 1] : List (List TChg)).flatten = ((NF a).drop (cp (NF a) (NF b))).take 1 ++ ((NF b).drop (cp (NF a) (NF b))).take 1 := by simp
      rw [ef]
      refine fd_heads _ _ _ rfl fun c x d y hx hy => ?_
      have k1 : cp (NF a) (NF b) < (NF a).length := by have := congrArg List.length hx; simp at this; omega
      have k2 : cp (NF a) (NF b) < (NF b).length := by have := congrArg List.length hy; simp at this; omega
      have := p4 k1 k2
      rw [List.drop_eq_getElem_cons k1] at hx
      rw [List.drop_eq_getElem_cons k2] at hy
      rw [getD_lt k1, getD_lt k2] at this
      rwa [(List.cons.inj hx).1, (List.cons.inj hy).1] at this
     ·rw [if_neg (by simpa using e3), if_neg (fun q => e3 q.2), Option.elim, oj_inr]
    ·rw [show ne (ni (len a.2.1)) (ni (len b.2.1)) = true from decide_eq_true (by simp only [ni_def, len_def, ne_eq]; omega), br_t, if_neg fun q => e2 (by rw [q.2])]
   ·rw [show nt (sq a.1 b.1) = true by simp [nt_def, sq, e1], br_t, if_neg fun q => e1 q.1]
  ·rw [if_neg hd, if_neg hd, show ne ((([], ([], [])), chk b) : TWave × Int).2 0 = true from decide_eq_true hd, br_t]
 ·rw [if_neg hc, if_neg hc, show ne ((([], ([], [])), chk a) : TWave × Int).2 0 = true from decide_eq_true hc, br_t]
end Go.Proofs.YtgpligmjbecbjaaDoor

namespace Go.AM.Wv
def lex (c d : Chg) : Prop := c.1 < d.1 ∨ (c.1 = d.1 ∧ c.2.1 < d.2.1)
theorem lex_as (a b : Chg) : lex a b → ¬ lex b a := by unfold lex; omega
def Lex (l : List Chg) : Prop := l.Pairwise lex
theorem Lex.sorted {l : List Chg} (h : Lex l) : Sorted l := h.imp fun q => by unfold lex at q; omega
theorem val_stillv (f : Nat → BS) (ch : List Chg) (v : Nat) (T : Int) (h : ∀ c ∈ ch, c.2.1 = (v : Int) → c.1 ≠ T) : val f ch v T = val f ch v (T - 1) := by
 unfold val
 generalize f v = s
 induction ch generalizing s with
 | nil => rfl
 | cons c r ih =>
  rw [List.foldl_cons, List.foldl_cons, ih (fun c hc => h c (List.mem_cons_of_mem _ hc))]
  congr 1
  have := h c (List.mem_cons_self ..)
  by_cases e : c.2.1 = (v : Int) ∧ c.1 ≤ T
  ·have := this e.1
   rw [if_pos e, if_pos ⟨e.1, by omega⟩]
  ·rw [if_neg e, if_neg fun q => e ⟨q.1, by omega⟩]
theorem val_keep (b : List Chg) (v : Nat) (T : Int) (s : BS) (h : ∀ c ∈ b, c.2.1 = (v : Int) → c.1 ≤ T → c.2.2 = s) : val (fun _ => s) b v T = s := by
 unfold val
 induction b with
 | nil => rfl
 | cons c r ih =>
  rw [List.foldl_cons]
  by_cases e : c.2.1 = (v : Int) ∧ c.1 ≤ T
  ·rw [if_pos e, h c (List.mem_cons_self ..) e.1 e.2]
   exact ih fun c hc => h c (List.mem_cons_of_mem _ hc)
  ·rw [if_neg e]
   exact ih fun c hc => h c (List.mem_cons_of_mem _ hc)
theorem val_hit (f : Nat → BS) {l r : List Chg} {c : Chg} {v : Nat} (hs : Lex (l ++ c :: r)) (hv : c.2.1 = (v : Int)) : val f (l ++ c :: r) v c.1 = c.2.2 := by
 have h2 := (List.pairwise_append.1 hs).2.1
 have h3 := List.pairwise_cons.1 h2
 rw [show l ++ c :: r = (l ++ [c]) ++ r by simp, val_append]
 have e : val f (l ++ [c]) v c.1 = c.2.2 := by
  unfold val
  rw [List.foldl_append, List.foldl_cons, if_pos ⟨hv, Int.le_refl _⟩]; rfl
 rw [e]
 refine val_keep r v c.1 c.2.2 fun d hd hdv hdt => ?_
 have := h3.1 d hd
 unfold lex at this
 omega
def Real (f : Nat → BS) (X : List Chg) : Prop := ∀ c ∈ X, ∀ v : Nat, c.2.1 = (v : Int) → c.2.2 ≠ val f X v (c.1 - 1)
theorem val_pre (f : Nat → BS) (P x : List Chg) (k : Nat) (T : Int) (h : ∀ c ∈ x, c.2.1 = (k : Int) → T < c.1) : val f (P ++ x) k T = val f P k T := by
 rw [val_append]; exact val_late (fun _ => val f P k T) x k T h
theorem side (f : Nat → BS) {P x Y' : List Chg} {c : Chg} (hX : Lex (P ++ c :: x)) (hY : ∀ d ∈ Y', ¬ lex d c) (T : Int) (k : Nat) (hk : T < c.1 ∨ (T = c.1 ∧ (k : Int) < c.2.1)) : val f (P ++ c :: x) k T = val f (P ++ Y') k T := by
 have h2 := (List.pairwise_append.1 hX).2.1
 have h3 := List.pairwise_cons.1 h2
 rw [val_pre, val_pre]
 ·intro d hd hv
  have := hY d hd
  unfold lex at this
  omega
 ·intro d hd hv
  rcases List.mem_cons.1 hd with rfl | hd
  ·omega
  ·have := h3.1 d hd
   unfold lex at this
   omega
theorem hit (f : Nat → BS) {P x Y' : List Chg} {c : Chg} {v : Nat} (hX : Lex (P ++ c :: x)) (hr : Real f (P ++ c :: x)) (hv : c.2.1 = (v : Int)) (hY : ∀ d ∈ Y', lex c d) : val f (P ++ c :: x) v c.1 ≠ val f (P ++ Y') v c.1 := by
 have h1 := List.pairwise_append.1 hX
 have h3 := List.pairwise_cons.1 h1.2.1
 rw [val_hit f hX hv]
 have e := hr c (by simp) v hv
 have e1 : val f (P ++ c :: x) v (c.1 - 1) = val f P v (c.1 - 1) := val_pre _ _ _ _ _ fun d hd hdv => by
  rcases List.mem_cons.1 hd with rfl | hd
  ·omega
  ·have := h3.1 d hd
   unfold lex at this
   omega
 have e2 : val f (P ++ Y') v c.1 = val f P v c.1 := val_pre _ _ _ _ _ fun d hd hdv => by
  have := hY d hd
  unfold lex at this
  omega
 have e3 : val f P v c.1 = val f P v (c.1 - 1) := val_stillv _ _ _ _ fun d hd hdv q => by
  have := h1.2.2 d hd c (by simp)
  unfold lex at this
  omega
 rw [e2, e3, ← e1]
 exact e
theorem hit2 (f : Nat → BS) {P x y : List Chg} {c d : Chg} {v : Nat} (hX : Lex (P ++ c :: x)) (hY : Lex (P ++ d :: y)) (hv : c.2.1 = (v : Int)) (h1 : c.1 = d.1) (h2 : c.2.1 = d.2.1) (h3 : c ≠ d) : val f (P ++ c :: x) v c.1 ≠ val f (P ++ d :: y) v c.1 := by
 rw [val_hit f hX hv, h1, val_hit f hY (h2 ▸ hv)]
 intro e
 exact h3 (by obtain ⟨a, b, s⟩ := c; obtain ⟨a', b', s'⟩ := d; simp_all)
end Go.AM.Wv

open Go Go.AM Go.TM Go.AM.Wv
namespace Go.Proofs.YtgpligmjbecbjaaDoor
abbrev times (w : TWave) : List Int := tms w.2.2 w.2.2.length
theorem times_mem {w : TWave} (h : Good w) (T : Int) : T ∈ times w ↔ ∃ c ∈ w.2.2, c.1 = T := by
 rw [(tms_mem h.sorted _ (Nat.le_refl _)).2, List.take_length]
theorem times_sorted {w : TWave} (h : Good w) : (times w).Pairwise (· < ·) := (tms_mem h.sorted _ (Nat.le_refl _)).1
theorem times_of {w : TWave} (h : Good w) {v : Nat} {T : Int} (hne : valW w v T ≠ valW w v (T - 1)) : T ∈ times w := by
 rw [times_mem h]
 exact Decidable.byContradiction fun q => hne (val_still _ _ _ _ fun c hc e => q ⟨c, hc, e⟩)
theorem NF_flat (w : TWave) : NF w = (times w).flatMap (diffs w) := by
 unfold NF
 have : ∀ (l : List Int) (x : List TChg), l.foldl (fun x T => x ++ diffs w T) x = x ++ l.flatMap (diffs w) := by
  intro l
  induction l with
  | nil => intro x; simp
  | cons T l ih => intro x; rw [List.foldl_cons, ih, List.flatMap_cons, List.append_assoc]
 rw [this]; rfl
theorem diffs_mem {w : TWave} {T : Int} {c : TChg} : c ∈ diffs w T ↔ ∃ v, v < w.2.1.length ∧ valW w v T ≠ valW w v (T - 1) ∧ c = (T, ((v : Int), valW w v T)) := by
 unfold diffs
 rw [List.mem_filterMap]
 constructor
 ·rintro ⟨v, hv, he⟩
  unfold dif at he
  split at he
  ·cases he
  ·exact ⟨v, List.mem_range.1 hv, by assumption, (Option.some.inj he).symm⟩
 ·rintro ⟨v, hv, hne, rfl⟩
  exact ⟨v, List.mem_range.2 hv, by unfold dif; rw [if_neg hne]⟩
theorem NF_mem {w : TWave} (h : Good w) {c : TChg} : c ∈ NF w ↔ ∃ (T : Int) (v : Nat), v < w.2.1.length ∧ valW w v T ≠ valW w v (T - 1) ∧ c = (T, ((v : Int), valW w v T)) := by
 rw [NF_flat, List.mem_flatMap]
 constructor
 ·rintro ⟨T, hT, hc⟩
  obtain ⟨v, h1, h2, h3⟩ := diffs_mem.1 hc
  exact ⟨T, v, h1, h2, h3⟩
 ·rintro ⟨T, v, h1, h2, h3⟩
  exact ⟨T, times_of h h2, diffs_mem.2 ⟨v, h1, h2, h3⟩⟩
theorem diffs_lex (w : TWave) (T : Int) : (diffs w T).Pairwise lex := by
 unfold diffs
 rw [List.pairwise_filterMap]
 refine List.Pairwise.imp (R := (· < ·)) ?_ List.pairwise_lt_range
 intro a b hab c hc d hd
 unfold dif at hc hd
 split at hc
 ·cases hc
 split at hd
 ·cases hd
 cases hc
 cases hd
 exact .inr ⟨rfl, by show (a : Int) < b; omega⟩
theorem NF_lex {w : TWave} (h : Good w) : Lex (NF w) := by
 unfold Lex
 rw [NF_flat, List.pairwise_flatMap]
 refine ⟨fun T _ => diffs_lex w T, (times_sorted h).imp fun {T U} hTU c hc d hd => ?_⟩
 obtain ⟨v, -, -, rfl⟩ := diffs_mem.1 hc
 obtain ⟨u, -, -, rfl⟩ := diffs_mem.1 hd
 exact .inl hTU
theorem valW_neg {w : TWave} (h : Good w) {v : Nat} {T : Int} (hT : T < 0) : valW w v T = fillS w v := val_late _ _ _ _ fun c hc _ => by
 obtain ⟨i, hi, rfl⟩ := List.getElem_of_mem hc
 have := (h.time hi).1
 unfold tAt at this
 rw [getD_lt hi] at this
 omega
theorem NF_val {w : TWave} (h : Good w) {v : Nat} (hv : v < w.2.1.length) : ∀ T : Int, val (fillS w) (NF w) v T = valW w v T := by
 have neg : ∀ T : Int, T < 0 → val (fillS w) (NF w) v T = valW w v T := fun T hT => by
  rw [valW_neg h hT]
  refine val_late _ _ _ _ fun c hc _ => ?_
  obtain ⟨T', v', h1, h2, rfl⟩ := (NF_mem h).1 hc
  obtain ⟨d, hd, e⟩ := (times_mem h T').1 (times_of h h2)
  obtain ⟨i, hi, rfl⟩ := List.getElem_of_mem hd
  have := (h.time hi).1
  unfold tAt at this
  rw [getD_lt hi] at this
  show T < T'
  omega
 have key : ∀ n : Nat, val (fillS w) (NF w) v ((n : Int) - 1) = valW w v ((n : Int) - 1) := by
  intro n
  induction n with
  | zero => exact neg _ (by omega)
  | succ n ih =>
   rw [show ((n + 1 : Nat) : Int) - 1 = (n : Int) by omega]
   by_cases q : valW w v (n : Int) = valW w v ((n : Int) - 1)
   ·rw [q, ← ih]
    refine val_stillv _ _ _ _ fun c hc hcv e => ?_
    obtain ⟨T', v', h1, h2, rfl⟩ := (NF_mem h).1 hc
    have e1 : v' = v := by have : (v' : Int) = v := hcv; omega
    have e2 : T' = (n : Int) := e
    subst e1; subst e2
    exact h2 q
   ·have hc : (((n : Int), ((v : Int), valW w v (n : Int))) : TChg) ∈ NF w := (NF_mem h).2 ⟨_, v, hv, q, rfl⟩
    obtain ⟨l, r, e⟩ := List.append_of_mem hc
    have hl := NF_lex h
    rw [e] at hl ⊢
    exact val_hit (fillS w) hl rfl
 intro T
 by_cases q : T < 0
 ·exact neg T q
 ·have := key (T + 1).toNat
  rwa [show (((T + 1).toNat : Nat) : Int) - 1 = T by omega] at this
theorem fill_vars {a b : TWave} (e : a.2.1 = b.2.1) : fillS a = fillS b := by funext v; unfold fillS; rw [e]
theorem NF_inj {a b : TWave} (ga : Good a) (gb : Good b) (e : a.2.1 = b.2.1) : NF a = NF b ↔ ∀ v, v < a.2.1.length → ∀ T, valW a v T = valW b v T := by
 constructor
 ·intro h v hv T
  rw [← NF_val ga hv, ← NF_val gb (e ▸ hv), h, fill_vars e]
 ·intro h
  refine sorted_eq lex lex_as _ _ (NF_lex ga) (NF_lex gb) fun c => ?_
  rw [NF_mem ga, NF_mem gb]
  constructor
  ·rintro ⟨T, v, h1, h2, h3⟩
   exact ⟨T, v, e ▸ h1, by rwa [← h v h1, ← h v h1], by rw [h3, h v h1]⟩
  ·rintro ⟨T, v, h1, h2, h3⟩
   have h1' : v < a.2.1.length := by rw [e]; exact h1
   exact ⟨T, v, h1', by rwa [h v h1', h v h1'], by rw [h3, h v h1']⟩
theorem NF_real {w : TWave} (h : Good w) : Real (fillS w) (NF w) := fun c hc v hv => by
 obtain ⟨T', v', h1, h2, rfl⟩ := (NF_mem h).1 hc
 have e1 : v' = v := by have : (v' : Int) = v := hv; omega
 subst e1
 rw [NF_val h h1]
 exact h2
structure Dif (a b : TWave) (t : Int) (k : Nat) : Prop where
 lt : k < a.2.1.length
 ne : valW a k t ≠ valW b k t
 first : ∀ (T : Int) (k' : Nat), k' < a.2.1.length → T < t ∨ (T = t ∧ k' < k) → valW a k' T = valW b k' T
 time : t ∈ times a ∨ t ∈ times b
theorem Dif.symm {a b : TWave} (e : a.2.1 = b.2.1) {t : Int} {k : Nat} (h : Dif a b t k) : Dif b a t k :=
 ⟨e ▸ h.lt, fun q => h.ne q.symm, fun T k' hk' hT => (h.first T k' (e ▸ hk') hT).symm, h.time.symm⟩
theorem Dif.unique {a b : TWave} {t t' : Int} {k k' : Nat} (h : Dif a b t k) (h' : Dif a b t' k') : t = t' ∧ k = k' := by
 have q1 : ¬ (t < t' ∨ (t = t' ∧ k < k')) := fun q => h.ne (h'.first t k h.lt q)
 have q2 : ¬ (t' < t ∨ (t' = t ∧ k' < k)) := fun q => h'.ne (h.first t' k' h'.lt q)
 omega
theorem fd_spec {a b : TWave} (ga : Good a) (gb : Good b) (e : a.2.1 = b.2.1) : (NF a = NF b ∧ fd (NF a) (NF b) = (0, (0, (false, 0)))) ∨ ∃ t k, Dif a b t k ∧ fd (NF a) (NF b) = (t, ((k : Int), (true, 0))) := by
 have key : ∀ (X Y P : List TChg) (A B : TWave), Good A → Good B → A.2.1 = B.2.1 → NF A = P ++ X → NF B = P ++ Y → (X = Y ∧ fd X Y = (0, (0, (false, 0)))) ∨ ∃ t k, Dif A B t k ∧ fd X Y = (t, ((k : Int), (true, 0))) := by
  have one : ∀ (A B : TWave) (P x Y' : List TChg) (c : TChg), Good A → Good B → A.2.1 = B.2.1 → NF A = P ++ c :: x → NF B = P ++ Y' → (∀ d ∈ Y', lex c d) → ∃ k : Nat, c.2.1 = (k : Int) ∧ Dif A B c.1 k := by
   intro A B P x Y' c gA gB e hA hB hY
   obtain ⟨T, v, h1, h2, h3⟩ := (NF_mem gA).1 (show c ∈ NF A by rw [hA]; simp)
   subst h3
   have hlA := NF_lex gA
   have hlB := NF_lex gB
   have hrA := NF_real gA
   rw [hA] at hlA hrA
   have ef := fill_vars e
   refine ⟨v, rfl, h1, ?_, fun T' k' hk' hT' => ?_, .inl (times_of gA h2)⟩
   ·rw [← NF_val gA h1, ← NF_val gB (e ▸ h1), ← ef, hA, hB]
    exact hit (fillS A) hlA hrA rfl hY
   ·rw [← NF_val gA hk', ← NF_val gB (e ▸ hk'), ← ef, hA, hB]
    refine side (fillS A) hlA (fun d hd => lex_as _ _ (hY d hd)) T' k' ?_
    rcases hT' with q | ⟨q1, q2⟩
    ·exact .inl q
    ·exact .inr ⟨q1, by show (k' : Int) < v; omega⟩
  intro X
  induction X with
  | nil =>
   intro Y P A B gA gB e hA hB
   cases Y with
   | nil => exact .inl ⟨rfl, rfl⟩
   | cons d y =>
    obtain ⟨k, q1, q2⟩ := one B A P y [] d gB gA e.symm hB hA (fun d hd => by cases hd)
    exact .inr ⟨d.1, k, q2.symm e.symm, by rw [fd, q1]⟩
  | cons c x ih =>
   intro Y P A B gA gB e hA hB
   cases Y with
   | nil =>
    obtain ⟨k, q1, q2⟩ := one A B P x [] c gA gB e hA hB (fun d hd => by cases hd)
    exact .inr ⟨c.1, k, q2, by rw [fd, q1]⟩
   | cons d y =>
    rw [fd]
    by_cases hcd : c = d
    ·rw [if_pos hcd]
     subst hcd
     rcases ih y (P ++ [c]) A B gA gB e (by rw [hA]; simp) (by rw [hB]; simp) with ⟨q1, q2⟩ | ⟨t, k, q1, q2⟩
     ·exact .inl ⟨by rw [q1], q2⟩
     ·exact .inr ⟨t, k, q1, q2⟩
    ·rw [if_neg hcd]
     have hlA := NF_lex gA
     have hlB := NF_lex gB
     rw [hA] at hlA
     rw [hB] at hlB
     have pA := List.pairwise_cons.1 (List.pairwise_append.1 hlA).2.1
     have pB := List.pairwise_cons.1 (List.pairwise_append.1 hlB).2.1
     by_cases q : d.1 < c.1 ∨ (d.1 = c.1 ∧ d.2.1 < c.2.1)
     ·rw [if_pos q]
      obtain ⟨k, q1, q2⟩ := one B A P y (c :: x) d gB gA e.symm hB hA fun d' hd' => by
       rcases List.mem_cons.1 hd' with rfl | hd'
       ·exact q
       ·have := pA.1 d' hd'
        unfold lex at *
        omega
      exact .inr ⟨d.1, k, q2.symm e.symm, by rw [q1]⟩
     ·rw [if_neg q]
      by_cases q' : c.1 < d.1 ∨ (c.1 = d.1 ∧ c.2.1 < d.2.1)
      ·obtain ⟨k, q1, q2⟩ := one A B P x (d :: y) c gA gB e hA hB fun d' hd' => by
        rcases List.mem_cons.1 hd' with rfl | hd'
        ·exact q'
        ·have := pB.1 d' hd'
         unfold lex at *
         omega
       exact .inr ⟨c.1, k, q2, by rw [q1]⟩
      ·have k1 : c.1 = d.1 := by omega
       have k2 : c.2.1 = d.2.1 := by omega
       obtain ⟨T, v, h1, h2, h3⟩ := (NF_mem gA).1 (show c ∈ NF A by rw [hA]; simp)
       have hv : c.2.1 = (v : Int) := by rw [h3]
       have ht : c.1 = T := by rw [h3]
       have ef := fill_vars e
       refine .inr ⟨c.1, v, ⟨h1, ?_, fun T' k' hk' hT' => ?_, .inl (by rw [ht]; exact times_of gA h2)⟩, by rw [hv]⟩
       ·rw [← NF_val gA h1, ← NF_val gB (e ▸ h1), ← ef, hA, hB]
        exact hit2 (fillS A) hlA hlB hv k1 k2 hcd
       ·rw [← NF_val gA hk', ← NF_val gB (e ▸ hk'), ← ef, hA, hB]
        refine side (fillS A) hlA (fun d' hd' => ?_) T' k' ?_
        ·rcases List.mem_cons.1 hd' with rfl | hd'
         ·exact q
         ·have := pB.1 d' hd'
          unfold lex at *
          omega
        ·rcases hT' with q | ⟨q1, q2⟩
         ·exact .inl q
         ·exact .inr ⟨q1, by omega⟩
 exact key (NF a) (NF b) [] a b ga gb e rfl rfl
def fewV (v : TVar) : TVar := (v.1.take 10, v.2)
def few (w : TWave) : TWave := (w.1, ((w.2.1.take 40).map fewV, w.2.2.take 120))
theorem take_min {α : Type} (l : List α) (n : Nat) : TM.cut l 0 (tn (mn (ni (len l)) (n : Int))) = l.take n ∧ rg 0 (mn (ni (len l)) (n : Int)) (ni (len l)) = true := by
 simp only [cut_def, mn_def, ni_def, len_def, rg_def, decide_eq_true_eq, List.drop_zero, tn_def]
 by_cases h : (n : Int) < (l.length : Int)
 ·rw [if_pos h]
  exact ⟨by rw [Int.toNat_natCast], by omega⟩
 ·rw [if_neg h]
  exact ⟨by rw [Int.toNat_natCast, List.take_of_length_le (Nat.le_refl _), List.take_of_length_le (by omega)], by omega⟩
theorem few_vars (w : TWave) : iterS (F_r19_Few_l0 w) (0, ([], ())) = some (.inl (((w.2.1.take 40).length : Int), ((w.2.1.take 40).map fewV, ()))) := by
 have l := iterS_upto (f := F_r19_Few_l0 w) (fun i => ((i : Int), (((w.2.1.take i)).map fewV, ()))) (w.2.1.take 40).length (r := .inl (((w.2.1.take 40).length : Int), ((w.2.1.take 40).map fewV, ())))
  (fun i hi => by
   have hi2 : i < 40 ∧ i < w.2.1.length := by rw [List.length_take] at hi; omega
   unfold F_r19_Few_l0
   simp only [tn_nat]
   obtain ⟨t1, t2⟩ := take_min (rd w.2.1 i v0).1 10
   rw [show ((10 : Nat) : Int) = 10 from rfl] at t1 t2
   rw [t1, t2, ltl (by omega), br_t, ltp (by omega), br_t, ixl (by omega), br_t, br_t, br_t, br_t, br_t, fitsp (by simp [len_def]; omega), br_t, fitsp (by simp [len_def]; omega), br_t, wra (by omega), app_def]
   have e : (w.2.1.take i).map fewV ++ [((rd w.2.1 i v0).1.take 10, ((rd w.2.1 i v0).2.1, (rd w.2.1 i v0).2.2))] = (w.2.1.take (i + 1)).map fewV := by
    rw [← List.take_append_getElem hi2.2, List.map_append, rd_lt hi2.2]; rfl
   rw [e]; rfl)
  (by
   have ht : (w.2.1.take 40).length = min 40 w.2.1.length := List.length_take
   unfold F_r19_Few_l0
   by_cases q : ((w.2.1.take 40).length : Int) < (w.2.1.length : Int)
   ·rw [ltl (by omega), br_t, ltn (by omega), br_f, show (w.2.1.take 40).length = 40 by omega]
   ·rw [lnl (by omega), br_f, show (w.2.1.take (w.2.1.take 40).length) = w.2.1.take 40 by rw [ht, ← List.take_take, List.take_length]])
 exact l
theorem few_eq (w : TWave) : F_r19_Few w = some (few w) := by
 obtain ⟨t1, t2⟩ := take_min w.2.2 120
 rw [show ((120 : Nat) : Int) = 120 from rfl] at t1 t2
 unfold F_r19_Few
 rw [few_vars w, oj_inl, t1, t2, br_t, fitsp (by simp [len_def]; omega), br_t]; rfl
structure Small (w : TWave) : Prop where
 nv : w.2.1.length ≤ 9000000
 nc : w.2.2.length ≤ 9000000
 sc : ∀ v ∈ w.2.1, v.1.length ≤ 9000000
theorem few_len (w : TWave) : (few w).2.1.length ≤ 40 ∧ (few w).2.2.length ≤ 120 := by
 unfold few
 simp only [List.length_map, List.length_take]
 omega
end Go.Proofs.YtgpligmjbecbjaaDoor
namespace Go.Proofs.YtgpligmjbecbjaaDoor
abbrev yWave : Ty := .st (.pair .str (.pair (.slice (.st (.pair (.slice .str) (.pair .str (.int .i64))))) (.slice (.st (.pair (.int .i64) (.pair (.int .i64) .str))))))
theorem eq1 {a b : Int} (h : a = b) : eq a b = true := decide_eq_true h
theorem eq0 {a b : Int} (h : a ≠ b) : eq a b = false := decide_eq_false h
theorem ne1 {a b : Int} (h : a ≠ b) : ne a b = true := decide_eq_true h
theorem ne0 {a b : Int} (h : a = b) : ne a b = false := decide_eq_false (by simp [h])
def Rep (x y : TWave) (r : Int × (Int × (Bool × Int))) : Prop := (r = (0, (0, (false, 0))) ∧ ∀ v, v < x.2.1.length → ∀ T, valW x v T = valW y v T) ∨ ∃ t k, Dif x y t k ∧ r = (t, ((k : Int), (true, 0)))
theorem rep_fd {x y : TWave} (gx : Good x) (gy : Good y) (e : x.2.1 = y.2.1) : Rep x y (fd (NF x) (NF y)) := by
 rcases fd_spec gx gy e with ⟨q1, q2⟩ | ⟨t, k, q1, q2⟩
 ·exact .inl ⟨q2, (NF_inj gx gy e).1 q1⟩
 ·exact .inr ⟨t, k, q1, q2⟩
theorem rep_sym {x y : TWave} (gx : Good x) (gy : Good y) (e : x.2.1 = y.2.1) : fd (NF y) (NF x) = fd (NF x) (NF y) := by
 rcases fd_spec gx gy e with ⟨q1, q2⟩ | ⟨t, k, q1, q2⟩
 ·rcases fd_spec gy gx e.symm with ⟨r1, r2⟩ | ⟨t', k', r1, r2⟩
  ·rw [q2, r2]
  ·exact absurd ((NF_inj gy gx e.symm).1 q1.symm k' r1.lt t') r1.ne
 ·rcases fd_spec gy gx e.symm with ⟨r1, r2⟩ | ⟨t', k', r1, r2⟩
  ·exact absurd ((NF_inj gx gy e).1 r1.symm k q1.lt t) q1.ne
  ·obtain ⟨u1, u2⟩ := q1.unique (r1.symm e.symm)
   rw [q2, r2, u1, u2]
theorem differs_row {x y : TWave} (gx : Good x) (gy : Good y) (e : x.2.1 = y.2.1) (wx : WfT .str x.1) (wy : WfT .str y.1) (a0 a1 : TWave) (y2 y4) (y5 : TWave) (h5 : y5.2.2 = x.2.2) (hR : Rep x y y2) (i : Nat) (hi : i < (x.2.2 ++ y.2.2).length) :
  iterS (F_w19_VcdDiffers_l1 a0 a1 x y y2 y4 y5 ((i : Int), ())) (0, ()) = some (.inl ((x.2.1.length : Int), ())) := by
 have hnv := gx.nv
 have l := iterS_upto (f := F_w19_VcdDiffers_l1 a0 a1 x y y2 y4 y5 ((i : Int), ())) (fun k => ((k : Int), ())) x.2.1.length (r := .inl ((x.2.1.length : Int), ()))
  (fun k hk => by
   have hx : ix (i : Int) (ni (len (app y5.2.2 y.2.2))) = true := ixl (by rw [app_def, h5]; omega)
   have hT : (rd (app y5.2.2 y.2.2) (tn (i : Int)) d0).1 = ((x.2.2 ++ y.2.2).getD i d0).1 := by rw [app_def, h5, tn_nat, rd_def]
   have ex : ∀ T, F_vcd_At (x.1, (x.2.1, x.2.2)) (k : Int) T = some (valW x k T, 0) := fun T => by
    rw [show F_vcd_At (x.1, (x.2.1, x.2.2)) (k : Int) T = _ from vat_eq x wx k T, if_pos (chk_zero.2 gx), if_neg (by omega), Int.toNat_natCast]
   have ey : ∀ T, F_vcd_At (y.1, (y.2.1, y.2.2)) (k : Int) T = some (valW y k T, 0) := fun T => by
    rw [show F_vcd_At (y.1, (y.2.1, y.2.2)) (k : Int) T = _ from vat_eq y wy k T, if_pos (chk_zero.2 gy), if_neg (by rw [← e]; omega), Int.toNat_natCast]
   unfold F_w19_VcdDiffers_l1
   simp only
   rw [hT, ltl (by omega), br_t, hx, br_t, ex, ob_some, br_t, ey, ob_some]
   simp only [br_t]
   rw [wra (by omega)]
   generalize ((x.2.2 ++ y.2.2).getD i d0).1 = T
   rw [show ne (0 : Int) 0 = false from rfl, br_f, br_f]
   rcases hR with ⟨r1, r2⟩ | ⟨t, v, r1, r2⟩
   ·rw [r1]
    simp only
    rw [show nt (sq (valW x k T) (valW y k T)) = false by simp [nt_def, sq, r2 k hk T], br_f, br_f]; rfl
   ·rw [r2]
    simp only
    by_cases q : valW x k T = valW y k T
    ·rw [show nt (sq (valW x k T) (valW y k T)) = false by simp [nt_def, sq, q], br_f, br_t]
     by_cases q2 : T = t
     ·rw [eq1 q2, br_t]
      by_cases q3 : k = v
      ·subst q2; subst q3; exact absurd q r1.ne
      ·rw [eq0 (by omega), br_f]; rfl
     ·rw [eq0 q2, br_f]; rfl
    ·have n1 : ¬ (T < t ∨ (T = t ∧ k < v)) := fun h => q (r1.first T k hk h)
     rw [show nt (sq (valW x k T) (valW y k T)) = true by simp [nt_def, sq, q], br_t, show nt true = false from rfl, br_f, ltn (by omega), br_f]
     have hs : sq (valW x k T) (valW y k T) = false := by simp [sq, q]
     by_cases q2 : T = t
     ·rw [eq1 q2, br_t, ltn (by omega), br_f, br_t, br_t]
      by_cases q3 : (k : Int) = v
      ·rw [eq1 q3, br_t, hs, br_f]; rfl
      ·rw [eq0 q3, br_f]; rfl
     ·rw [eq0 q2, br_f, br_t, br_f]; rfl)
  (by
   unfold F_w19_VcdDiffers_l1
   rw [lnl (by omega), br_f])
 exact l
theorem differs_law (a0 a1 : TWave) (h0 : WfT .str a0.1) (h1 : WfT .str a1.1) : F_w19_VcdDiffers a0 a1 = some true := by
 unfold F_w19_VcdDiffers
 have fx := few_eq a0
 rw [show F_r19_Few (a0.1, (a0.2.1, a0.2.2)) = _ from fx, ob_some, show F_r19_Few (a1.1, (a1.2.1, a1.2.2)) = _ from few_eq a1, ob_some]
 have wx : WfT .str (few a0).1 := h0
 have wy : WfT .str (few a1).1 := h1
 have lx := few_len a0
 have ly := few_len a1
 have aw : F_w19_awake = some true := rfl
 rw [aw]
 generalize few a0 = x at wx lx
 generalize few a1 = y at wy ly
 rw [show F_vcd_Diff (x.1, (x.2.1, x.2.2)) (y.1, (y.2.1, y.2.2)) = _ from diff_eq x y wx wy, ob_some, show F_vcd_Diff (y.1, (y.2.1, y.2.2)) (x.1, (x.2.1, x.2.2)) = _ from diff_eq y x wy wx]
 by_cases hx : chk x = 0
 ·by_cases hy : chk y = 0
  ·by_cases e : x.1 = y.1 ∧ x.2.1 = y.2.1
   ·rw [if_pos hx, if_pos hy, if_pos e, if_pos hy, if_pos hx, if_pos ⟨e.1.symm, e.2.symm⟩]
    have gx := chk_zero.1 hx
    have gy := chk_zero.1 hy
    rw [rep_sym gx gy e.2]
    have hR := rep_fd gx gy e.2
    have h3 : (fd (NF x) (NF y)).2.2.2 = 0 := by
     rcases hR with ⟨r, -⟩ | ⟨t, k, -, r⟩ <;> rw [r]
    generalize fd (NF x) (NF y) = r at hR h3
    rw [ne0 h3, br_f, ob_some, ne0 rfl, br_f, ne0 rfl, br_f, show nt (bq r.2.2.1 r.2.2.1) = false by cases r.2.2.1 <;> rfl, br_f, ne0 h3, br_f, ob_some, fitsp (by simp only [len_def]; omega), br_t]
    have l := iterS_upto (f := F_w19_VcdDiffers_l0 a0 a1 x y r r x) (fun i => ((i : Int), ())) (x.2.2 ++ y.2.2).length (r := .inl (((x.2.2 ++ y.2.2).length : Int), ()))
     (fun i hi => by
      have hi2 := hi
      rw [List.length_append] at hi2
      unfold F_w19_VcdDiffers_l0
      simp only
      rw [differs_row gx gy e.2 wx wy a0 a1 r r x rfl hR i hi, oj_inl, ltl (by rw [app_def]; omega), br_t, wra (by omega)]; rfl)
     (by
      unfold F_w19_VcdDiffers_l0
      rw [lnl (by rw [app_def]; omega), br_f])
    rw [show iterS (F_w19_VcdDiffers_l0 a0 a1 x y r r x) (0, ()) = _ from l, oj_inl]; rfl
   ·rw [if_pos hx, if_pos hy, if_neg e]; rfl
  ·rw [if_pos hx, if_neg hy]
   simp only
   rw [ne1 hy, br_t]; rfl
 ·rw [if_neg hx]
  simp only
  rw [ne1 hx, br_t]; rfl
theorem differs_law' (x : Tys [yWave, yWave]) (h : WfTs [yWave, yWave] x) : F_w19_VcdDiffers x.1 x.2 = some true := differs_law x.1 x.2 h.1.1 h.2.1
end Go.Proofs.YtgpligmjbecbjaaDoor
