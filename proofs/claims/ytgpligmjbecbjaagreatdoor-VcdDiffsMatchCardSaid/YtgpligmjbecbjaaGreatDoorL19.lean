/- Waveforms as functions of time: values, times of changes, normal forms, first differences. Plain lists, no program. -/
import Derived.Test.YtgpligmjbecbjaaGreatDoorPl
import Derived.Test.YtgpligmjbecbjaaGreatDoorD19z
set_option linter.unusedSectionVars false
set_option linter.unusedSimpArgs false
set_option linter.unusedVariables false

namespace Go.AM.Wv
abbrev BS : Type := List UInt8
abbrev Chg : Type := Int × (Int × BS)
theorem sorted_eq {α : Type} (lt : α → α → Prop) (has : ∀ a b, lt a b → ¬ lt b a) : ∀ (l l' : List α), l.Pairwise lt → l'.Pairwise lt → (∀ x, x ∈ l ↔ x ∈ l') → l = l' := by
 intro l
 induction l with
 | nil =>
  intro l' _ _ h
  cases l' with
  | nil => rfl
  | cons a t => exact absurd ((h a).2 (List.mem_cons_self ..)) (by simp)
 | cons a t ih =>
  intro l' h1 h2 h
  cases l' with
  | nil => exact absurd ((h a).1 (List.mem_cons_self ..)) (by simp)
  | cons b u =>
   have p1 := List.pairwise_cons.1 h1
   have p2 := List.pairwise_cons.1 h2
   have e : a = b := by
    rcases List.mem_cons.1 ((h a).1 (List.mem_cons_self ..)) with e | e
    ·exact e
    rcases List.mem_cons.1 ((h b).2 (List.mem_cons_self ..)) with e' | e'
    ·exact e'.symm
    exact absurd (p1.1 _ e') (has _ _ (p2.1 _ e))
   subst e
   rw [ih u p1.2 p2.2 fun x => ⟨fun hx => ?_, fun hx => ?_⟩]
   ·rcases List.mem_cons.1 ((h x).1 (List.mem_cons_of_mem _ hx)) with e | e
    ·subst e; exact absurd (p1.1 _ hx) (has _ _ (p1.1 _ hx))
    ·exact e
   ·rcases List.mem_cons.1 ((h x).2 (List.mem_cons_of_mem _ hx)) with e | e
    ·subst e; exact absurd (p2.1 _ hx) (has _ _ (p2.1 _ hx))
    ·exact e
def upd (v : Nat) (s : BS) (c : Chg) : BS := if c.2.1 = (v : Int) then c.2.2 else s
def val (f : Nat → BS) (ch : List Chg) (v : Nat) (T : Int) : BS := ch.foldl (fun s c => if c.2.1 = (v : Int) ∧ c.1 ≤ T then c.2.2 else s) (f v)
def Sorted (ch : List Chg) : Prop := ch.Pairwise fun a b => a.1 ≤ b.1
theorem val_append (f : Nat → BS) (a b : List Chg) (v : Nat) (T : Int) : val f (a ++ b) v T = val (fun _ => val f a v T) b v T := by
 unfold val; rw [List.foldl_append]
theorem val_late (f : Nat → BS) (b : List Chg) (v : Nat) (T : Int) (h : ∀ c ∈ b, c.2.1 = (v : Int) → T < c.1) : val f b v T = f v := by
 unfold val
 induction b generalizing f with
 | nil => rfl
 | cons c r ih =>
  rw [List.foldl_cons, if_neg fun q => by have := h c (List.mem_cons_self ..) q.1; omega]
  exact ih f fun c hc => h c (List.mem_cons_of_mem _ hc)
theorem val_early (f : Nat → BS) (b : List Chg) (v : Nat) (T : Int) (h : ∀ c ∈ b, c.1 ≤ T) : val f b v T = b.foldl (upd v) (f v) := by
 unfold val
 generalize f v = s
 induction b generalizing s with
 | nil => rfl
 | cons c r ih =>
  rw [List.foldl_cons, List.foldl_cons, ih (fun c hc => h c (List.mem_cons_of_mem _ hc))]
  congr 1
  unfold upd
  have := h c (List.mem_cons_self ..)
  by_cases e : c.2.1 = (v : Int)
  ·rw [if_pos ⟨e, this⟩, if_pos e]
  ·rw [if_neg fun q => e q.1, if_neg e]
theorem val_cut (f : Nat → BS) (ch : List Chg) (j : Nat) (v : Nat) (T : Int) (h1 : ∀ c ∈ ch.take j, c.1 ≤ T) (h2 : ∀ c ∈ ch.drop j, T < c.1) : val f ch v T = (ch.take j).foldl (upd v) (f v) := by
 conv => lhs; rw [← List.take_append_drop j ch]
 rw [val_append, val_late _ _ _ _ fun c hc _ => h2 c hc, val_early _ _ _ _ h1]
theorem val_still (f : Nat → BS) (ch : List Chg) (v : Nat) (T : Int) (h : ∀ c ∈ ch, c.1 ≠ T) : val f ch v T = val f ch v (T - 1) := by
 unfold val
 generalize f v = s
 induction ch generalizing s with
 | nil => rfl
 | cons c r ih =>
  rw [List.foldl_cons, List.foldl_cons, ih (fun c hc => h c (List.mem_cons_of_mem _ hc))]
  congr 1
  have := h c (List.mem_cons_self ..)
  by_cases e : c.2.1 = (v : Int) ∧ c.1 ≤ T
  ·rw [if_pos e, if_pos ⟨e.1, by omega⟩]
  ·rw [if_neg e, if_neg fun q => e ⟨q.1, by omega⟩]
def app1 (st : List BS) (c : Chg) : List BS := st.set c.2.1.toNat c.2.2
def Ok (nv : Nat) (ch : List Chg) : Prop := ∀ c ∈ ch, 0 ≤ c.2.1 ∧ c.2.1 < (nv : Int)
theorem app_map (nv : Nat) (f : Nat → BS) (ch : List Chg) (h : Ok nv ch) : ch.foldl app1 ((List.range nv).map f) = (List.range nv).map fun v => ch.foldl (upd v) (f v) := by
 induction ch generalizing f with
 | nil => rfl
 | cons c r ih =>
  have e : app1 ((List.range nv).map f) c = (List.range nv).map fun v => upd v (f v) c := by
   obtain ⟨h1, h2⟩ := h c (List.mem_cons_self ..)
   unfold app1
   apply List.ext_getElem
   ·simp
   ·intro i q1 q2
    simp only [List.length_map, List.length_range] at q2
    rw [List.getElem_set]
    simp only [List.getElem_map, List.getElem_range]
    unfold upd
    by_cases q : c.2.1.toNat = i
    ·rw [if_pos q, if_pos (by omega)]
    ·rw [if_neg q, if_neg (by omega)]
  simp only [List.foldl_cons]
  rw [e, ih _ fun c hc => h c (List.mem_cons_of_mem _ hc)]
def isT (ch : List Chg) (i : Nat) : Option Int := if i = 0 ∨ (ch.getD i (0, 0, [])).1 ≠ (ch.getD (i - 1) (0, 0, [])).1 then some (ch.getD i (0, 0, [])).1 else none
def tms (ch : List Chg) (n : Nat) : List Int := (List.range n).filterMap (isT ch)
theorem tms_succ (ch : List Chg) (n : Nat) : tms ch (n + 1) = tms ch n ++ (isT ch n).toList := by
 unfold tms
 rw [List.range_succ, List.filterMap_append]
 cases h : isT ch n <;> simp [List.filterMap, h]
theorem tms_group (ch : List Chg) (i j : Nat) (hij : i < j) (h0 : i = 0 ∨ (ch.getD i (0, 0, [])).1 ≠ (ch.getD (i - 1) (0, 0, [])).1) (h : ∀ k, i ≤ k → k < j → (ch.getD k (0, 0, [])).1 = (ch.getD i (0, 0, [])).1) :
  tms ch j = tms ch i ++ [(ch.getD i (0, 0, [])).1] := by
 obtain ⟨d, rfl⟩ : ∃ d, j = i + 1 + d := ⟨j - (i + 1), by omega⟩
 induction d with
 | zero => rw [Nat.add_zero, tms_succ]; unfold isT; rw [if_pos h0]; rfl
 | succ d ih =>
  rw [show i + 1 + (d + 1) = (i + 1 + d) + 1 by omega, tms_succ, ih (by omega) fun k h1 h2 => h k h1 (by omega)]
  have : isT ch (i + 1 + d) = none := by
   unfold isT
   rw [if_neg]
   rintro (q | q)
   ·omega
   ·exact q ((h _ (by omega) (by omega)).trans (h _ (by omega) (by omega)).symm)
  rw [this]; simp
theorem sorted_getD {ch : List Chg} (hs : Sorted ch) {i j : Nat} (hij : i ≤ j) (hj : j < ch.length) : (ch.getD i (0, 0, [])).1 ≤ (ch.getD j (0, 0, [])).1 := by
 rw [TM.getD_lt (by omega), TM.getD_lt hj]
 rcases Nat.lt_or_ge i j with h | h
 ·exact List.pairwise_iff_getElem.1 hs i j (by omega) hj h
 ·have : i = j := by omega
  subst this; exact Int.le_refl _
theorem tms_mem {ch : List Chg} (hs : Sorted ch) : ∀ n, n ≤ ch.length → ((tms ch n).Pairwise (· < ·)) ∧ ∀ T, T ∈ tms ch n ↔ ∃ c ∈ ch.take n, c.1 = T := by
 intro n
 induction n with
 | zero => intro _; simp [tms]
 | succ n ih =>
  intro hn
  obtain ⟨h1, h2⟩ := ih (by omega)
  have hl : n < ch.length := by omega
  have et : ch.take (n + 1) = ch.take n ++ [ch[n]] := (List.take_append_getElem hl).symm
  rw [tms_succ]
  unfold isT
  by_cases q : n = 0 ∨ (ch.getD n (0, 0, [])).1 ≠ (ch.getD (n - 1) (0, 0, [])).1
  ·rw [if_pos q]
   refine ⟨List.pairwise_append.2 ⟨h1, by simp, fun a ha b hb => ?_⟩, fun T => ?_⟩
   ·rw [Option.toList_some, List.mem_singleton] at hb; subst hb
    obtain ⟨c, hc, rfl⟩ := (h2 a).1 ha
    obtain ⟨k, hk, rfl⟩ := List.mem_take_iff_getElem.1 hc
    rcases q with q | q
    ·omega
    ·have s1 := sorted_getD hs (i := k) (j := n - 1) (by omega) (by omega)
     have s2 := sorted_getD hs (i := n - 1) (j := n) (by omega) hl
     rw [TM.getD_lt (by omega)] at s1
     omega
   ·rw [et]
    simp only [Option.toList_some, List.mem_append, List.mem_singleton, h2]
    constructor
    ·rintro (⟨c, hc, rfl⟩ | rfl)
     ·exact ⟨c, .inl hc, rfl⟩
     ·exact ⟨ch[n], .inr rfl, by rw [TM.getD_lt hl]⟩
    ·rintro ⟨c, hc | rfl, rfl⟩
     ·exact .inl ⟨c, hc, rfl⟩
     ·exact .inr (by rw [TM.getD_lt hl])
  ·rw [if_neg q]
   simp only [Option.toList_none, List.append_nil]
   refine ⟨h1, fun T => ?_⟩
   have q1 : n ≠ 0 ∧ (ch.getD n (0, 0, [])).1 = (ch.getD (n - 1) (0, 0, [])).1 := by
    constructor
    ·exact fun e => q (.inl e)
    ·exact Decidable.not_not.1 fun e => q (.inr e)
   rw [h2, et]
   simp only [List.mem_append, List.mem_singleton]
   constructor
   ·rintro ⟨c, hc, rfl⟩; exact ⟨c, .inl hc, rfl⟩
   ·rintro ⟨c, hc | rfl, rfl⟩
    ·exact ⟨c, hc, rfl⟩
    ·refine ⟨ch[n - 1]'(by omega), List.mem_take_iff_getElem.2 ⟨n - 1, by omega, rfl⟩, ?_⟩
     have := q1.2
     rw [TM.getD_lt hl, TM.getD_lt (show n - 1 < ch.length by omega)] at this
     exact this.symm
end Go.AM.Wv

open Go Go.AM Go.TM Go.AM.Wv
namespace Go.Proofs.YtgpligmjbecbjaaGreatDoor
theorem ltl {α : Type} {a : Int} {l : List α} (h : a < (l.length : Int)) : lt a (ni (len l)) = true := decide_eq_true h
theorem lnl {α : Type} {a : Int} {l : List α} (h : ¬ a < (l.length : Int)) : lt a (ni (len l)) = false := decide_eq_false h
theorem ixl {α : Type} {a : Int} {l : List α} (h : 0 ≤ a ∧ a < (l.length : Int)) : ix a (ni (len l)) = true := decide_eq_true h
theorem wra {a b : Int} (h : -9223372036854775808 ≤ a + b ∧ a + b ≤ 9223372036854775807) : wr .i64 (ad a b) = a + b := wr64 h.1 h.2
theorem z0 : ((0 : Int), ()) = (((0 : Nat) : Int), ()) := rfl
theorem dec_low {s : Str} {i : Nat} (hi : i < s.length) (h : s[i].toNat < 128) : rune s i = (s[i].toNat : Int) ∧ runw s i = 1 := by
 have hg : (ByteArray.mk s.toArray).get! (i + 0) = s[i] := by
  show (s.toArray)[i + 0]! = _
  rw [Nat.add_zero, getElem!_pos s.toArray i (by simpa using hi)]; simp
 have hd : Utf8.decode ⟨s.toArray⟩ i = (s[i].toNat, 1) := by
  unfold Utf8.decode
  simp only [hg]
  rw [if_pos h]
 unfold rune runw
 rw [hd]
 exact ⟨rfl, rfl⟩
theorem dec_high {s : Str} {i : Nat} (hi : i < s.length) (h : 128 ≤ s[i].toNat) : 128 ≤ rune s i := by
 have hg : (ByteArray.mk s.toArray).get! (i + 0) = s[i] := by
  show (s.toArray)[i + 0]! = _
  rw [Nat.add_zero, getElem!_pos s.toArray i (by simpa using hi)]; simp
 have hd : 128 ≤ (Utf8.decode ⟨s.toArray⟩ i).1 := by
  unfold Utf8.decode
  simp only [hg]
  rw [if_neg (by omega)]
  have hr : 128 ≤ Utf8.runeError := by decide
  split
  ·split
   ·assumption
   ·exact hr
  split
  ·split
   ·rename_i q; simp only [Bool.and_eq_true, decide_eq_true_eq] at q; omega
   ·exact hr
  split
  ·split
   ·rename_i q; simp only [Bool.and_eq_true, decide_eq_true_eq] at q; omega
   ·exact hr
  ·exact hr
 unfold rune
 omega
def chOk (b : UInt8) : Bool := decide (33 ≤ b.toNat ∧ b.toNat ≤ 126)
def wordB (s : Str) : Bool := decide (1 ≤ s.length ∧ s.length ≤ 64) && s.all chOk
theorem named1 (r : Int) : F_vcd_named_1 r = some (decide (r < 33 ∨ 126 < r)) := by
 unfold F_vcd_named_1
 simp only [br_def, lt_def, decide_eq_true_eq]
 by_cases h : r < 33
 ·rw [if_pos h]; simp [h]
 ·rw [if_neg h]; simp [h]
theorem find_all' {α : Type} (l : List α) (p : α → Bool) : l.findSome? (fun x => if p x = true then none else some ()) = if l.all p = true then none else some () := by
 induction l with
 | nil => rfl
 | cons x r ih =>
  rw [List.findSome?_cons, List.all_cons]
  cases p x with
  | true => simp only [if_pos, Bool.true_and]; exact ih
  | false => rfl
theorem named_eq (s : Str) : F_vcd_named s = some (wordB s) := by
 have l := iterS_find (f := F_vcd_named_l0 s) s (fun i => (i, ())) (fun b => if chOk b = true then none else some ()) (.inl (s.length, ())) (fun _ => .inr false)
  (fun i hi => by
   unfold F_vcd_named_l0
   simp only [br_def, nlt_def, len_def, decide_eq_true_eq]
   rw [if_pos hi, named1, ob_some]
   by_cases hb : s[i].toNat < 128
   ·obtain ⟨e1, e2⟩ := dec_low hi hb
    rw [e1, e2]
    by_cases hc : chOk s[i] = true
    ·rw [if_pos hc]
     have hc' : 33 ≤ s[i].toNat ∧ s[i].toNat ≤ 126 := by simpa [chOk] using hc
     rw [if_neg (by simp only [bq_def, beq_iff_eq, decide_eq_true_eq]; omega)]; rfl
    ·rw [if_neg hc]
     have hc' : ¬ (33 ≤ s[i].toNat ∧ s[i].toNat ≤ 126) := by simpa [chOk] using hc
     rw [if_pos (by simp only [bq_def, beq_iff_eq, decide_eq_true_eq]; omega)]
     simp [inR, nt_def, le_def, ni_def]
   ·have e1 := dec_high hi (by omega)
    have hc : ¬ chOk s[i] = true := by simp [chOk]; omega
    rw [if_neg hc, if_pos (by simp only [bq_def, beq_iff_eq, decide_eq_true_eq]; omega)]
    simp [inR, nt_def, le_def, ni_def])
  (by simp [F_vcd_named_l0, br_def, nlt_def])
 unfold F_vcd_named wordB
 simp only [br_def, nt_def, le_def, ni_def, len_def, decide_eq_true_eq]
 cases s with
 | nil => simp [sq]
 | cons b r =>
  rw [if_pos (by simp [sq])]
  by_cases h : ((b :: r).length : Int) ≤ 64
  ·rw [if_pos h, l, find_all']
   by_cases hc : (b :: r).all chOk = true
   ·rw [if_pos hc, Option.elim, oj_inl]
    have e : decide (1 ≤ (b :: r).length ∧ (b :: r).length ≤ 64) = true := decide_eq_true (by simp only [List.length_cons] at h ⊢; omega)
    rw [hc, Bool.and_true, e]; rfl
   ·rw [if_neg hc, Option.elim, oj_inr]
    simp only [Bool.not_eq_true] at hc
    rw [hc]; simp
  ·rw [if_neg h]
   have : ¬ (1 ≤ (b :: r).length ∧ (b :: r).length ≤ 64) := by omega
   rw [decide_eq_false this]; rfl
theorem check1 (s : Str) : F_vcd_checkVar_1 s = some (!wordB s) := by unfold F_vcd_checkVar_1; rw [named_eq, ob_some]
theorem eq_all {α : Type} [DecidableEq α] (a b : List α) (d : α) (h : a.length = b.length) : (List.range a.length).all (fun i => decide (a.getD i d = b.getD i d)) = decide (a = b) := by
 by_cases e : a = b
 ·subst e; simp
 ·rw [decide_eq_false e]
  cases hq : (List.range a.length).all (fun i => decide (a.getD i d = b.getD i d)) with
  | false => rfl
  | true =>
   exfalso
   apply e
   apply List.ext_getElem h
   intro i h1 h2
   have := List.all_eq_true.1 hq i (List.mem_range.2 h1)
   simp only [decide_eq_true_eq] at this
   rwa [getD_lt h1, getD_lt h2] at this
theorem equal_eq (a b : LStr) (h : a.length ≤ 9000000000000 ∨ b.length ≤ 9000000000000) : F_slices_Equal_string_string a b = some (decide (a = b)) := by
 unfold F_slices_Equal_string_string
 simp only [br_def, ne_def, ni_def, len_def, decide_eq_true_eq]
 by_cases e : a.length = b.length
 ·rw [if_neg (by omega)]
  have l := iterS_findR (f := F_slices_Equal_string_string_l0 a b) a.length (fun i => ((i : Int), ())) (fun i => if decide (a.getD i [] = b.getD i []) = true then none else some ()) (.inl ((a.length : Int), ())) (fun _ => .inr false)
   (fun i hi => by
    simp (disch := omega) only [F_slices_Equal_string_string_l0, br_def, lt_def, ni_def, len_def, ix_def, tn_nat, rd_def, decide_eq_true_eq, ob_some, ad_def, wr64, nt_def, sq]
    rw [if_pos (by omega), if_pos (by omega), if_pos (by omega)]
    by_cases q : a.getD i [] = b.getD i []
    ·rw [if_neg (by rw [decide_eq_true q]; decide), if_pos q]; rfl
    ·rw [if_pos (by rw [decide_eq_false q]; decide), if_neg q]; rfl)
   (by simp [F_slices_Equal_string_string_l0, br_def, lt_def])
  rw [z0, l, find_all', eq_all _ _ _ e]
  by_cases q : a = b
  ·rw [if_pos (by simp [q]), Option.elim, oj_inl]; simp [q]
  ·rw [if_neg (by simp [q]), Option.elim, oj_inr]; simp [q]
 ·rw [if_pos (by omega), decide_eq_false fun q => e (by rw [q])]
def sameB (a b : TVar) : Bool := decide (a.2.1 = b.2.1 ∧ a.1 = b.1)
theorem same_eq (a b : TVar) (h : a.1.length ≤ 9000000000000 ∨ b.1.length ≤ 9000000000000) : F_vcd_same a b = some (sameB a b) := by
 unfold F_vcd_same sameB
 rw [equal_eq _ _ h]
 simp only [br_def, sq, decide_eq_true_eq]
 by_cases q : a.2.1 = b.2.1
 ·rw [if_pos q, ob_some]; simp [q]
 ·rw [if_neg q]; simp [q]
def vErr (v : TVar) (before : List TVar) : Int :=
 if v.2.2 < 1 then 12 else if 128 < v.2.2 then 12 else if 8 < (v.1.length : Int) then 5 else if v.1.all wordB = true then
  if wordB v.2.1 = true then if before.any (sameB · v) = true then 10 else 0 else 9 else 9
theorem find_any {α : Type} (l : List α) (p : α → Bool) : l.findSome? (fun x => if p x = true then some () else none) = if l.any p = true then some () else none := by
 induction l with
 | nil => rfl
 | cons x r ih =>
  rw [List.findSome?_cons, List.any_cons]
  cases p x with
  | true => rfl
  | false => simp only [Bool.false_or]; exact ih
theorem checkVar_eq (v : TVar) (before : List TVar) (h : before.length ≤ 9000000000000) : F_vcd_checkVar v before = some (vErr v before) := by
 unfold F_vcd_checkVar vErr
 simp only [br_def, lt_def, ni_def, len_def, decide_eq_true_eq]
 by_cases h1 : v.2.2 < 1
 ·rw [if_pos h1, if_pos h1]
 rw [if_neg h1, if_neg h1]
 by_cases h2 : 128 < v.2.2
 ·rw [if_pos h2, if_pos h2]
 rw [if_neg h2, if_neg h2]
 by_cases h3 : 8 < (v.1.length : Int)
 ·rw [if_pos h3, if_pos h3]
 rw [if_neg h3, if_neg h3]
 have l := iterS_find (f := F_vcd_checkVar_l0 v before) v.1 (fun i => ((i : Int), ())) (fun s => if wordB s = true then none else some ()) (.inl ((v.1.length : Int), ())) (fun _ => .inr 9)
  (fun i hi => by
   simp (disch := omega) only [F_vcd_checkVar_l0, br_def, lt_def, ni_def, len_def, ix_def, tn_nat, rd_lt hi, decide_eq_true_eq, check1, ob_some, ad_def, wr64, nt_def, le_def]
   rw [if_pos (by omega), if_pos (by omega)]
   by_cases q : wordB v.1[i] = true
   ·rw [if_neg (by simp [q]), if_pos q]; rfl
   ·rw [if_pos (by simpa using q), if_neg q, if_pos (by omega)]; rfl)
  (by simp [F_vcd_checkVar_l0, br_def, lt_def])
 rw [z0, l, find_all']
 by_cases h4 : v.1.all wordB = true
 ·rw [if_pos h4, if_pos h4, Option.elim, oj_inl, named_eq, ob_some]
  by_cases h5 : wordB v.2.1 = true
  ·rw [if_neg (by simp [nt_def, h5]), if_pos h5]
   have l2 := iterS_find (f := F_vcd_checkVar_l2 v before ((v.1.length : Int), ()) (wordB v.2.1)) before (fun i => ((i : Int), ())) (fun s => if sameB s v = true then some () else none) (.inl ((before.length : Int), ())) (fun _ => .inr 10)
    (fun i hi => by
     have e : F_vcd_same (before[i].1, (before[i].2.1, before[i].2.2)) (v.1, (v.2.1, v.2.2)) = some (sameB before[i] v) := same_eq before[i] v (.inr (by omega))
     simp (disch := omega) only [F_vcd_checkVar_l2, br_def, lt_def, ni_def, len_def, ix_def, tn_nat, rd_lt hi, decide_eq_true_eq, e, ob_some, ad_def, wr64, nt_def, le_def]
     rw [if_pos (by omega), if_pos (by omega)]
     by_cases q : sameB before[i] v = true
     ·rw [if_pos q, if_pos q, if_pos (by omega)]; rfl
     ·rw [if_neg q, if_neg q]; rfl)
    (by simp [F_vcd_checkVar_l2, br_def, lt_def])
   rw [l2, find_any]
   by_cases h6 : before.any (sameB · v) = true
   ·rw [if_pos h6, if_pos h6, Option.elim, oj_inr]
   ·rw [if_neg h6, if_neg h6, Option.elim, oj_inl]
  ·rw [if_pos (by simpa [nt_def] using h5), if_neg h5]
 ·rw [if_neg h4, if_neg h4, Option.elim, oj_inr]
def U6 : List Str := [[109, 115], [117, 115], [110, 115], [112, 115], [102, 115], [115]]
def N3 : List Str := [[49], [49, 48], [49, 48, 48]]
def unitB (s : Str) : Bool := decide (∃ u ∈ U6, ∃ n ∈ N3, s = n ++ u)
def sufB (s u : Str) : Bool := decide (u.length ≤ s.length ∧ s.drop (s.length - u.length) = u)
def n3B (t : Str) : Bool := decide (t = [49] ∨ t = [49, 48] ∨ t = [49, 48, 48])
theorem suffix_eq (s u : Str) (hs : s.length ≤ 140737488351232) (hu : u.length ≤ 100) : F_strings_CutSuffix s u = some (if sufB s u = true then (s.take (s.length - u.length), true) else (s, false)) := by
 have h1 : F_stringslite_HasSuffix s u = some (sufB s u) := by
  unfold F_stringslite_HasSuffix sufB
  simp only [br_def, le_def, ni_def, len_def, decide_eq_true_eq, sb_def]
  by_cases q : u.length ≤ s.length
  ·rw [if_pos (by omega), wr64 (by omega) (by omega), if_pos (by omega)]
   have e1 : tn ((s.length : Int) - (u.length : Int)) = s.length - u.length := by rw [tn_def]; omega
   rw [e1, tn_nat, nsub_def, cut_def, List.take_of_length_le (by simp)]
   simp only [sq]
   congr 1
   simp [q]
  ·rw [if_neg (by omega)]; simp [q]
 have h2 : F_stringslite_CutSuffix s u = some (if sufB s u = true then (s.take (s.length - u.length), true) else (s, false)) := by
  unfold F_stringslite_CutSuffix
  rw [h1, ob_some]
  simp only [br_def, nt_def, ni_def, len_def, sb_def]
  by_cases q : sufB s u = true
  ·have q' : u.length ≤ s.length := by unfold sufB at q; simp only [decide_eq_true_eq] at q; exact q.1
   rw [if_neg (by simp [q]), wr64 (by omega) (by omega), rg_def, if_pos (by simp only [decide_eq_true_eq]; omega), if_pos q]
   have e1 : tn ((s.length : Int) - (u.length : Int)) = s.length - u.length := by rw [tn_def]; omega
   rw [e1, cut_def]; simp
  ·rw [if_pos (by simpa using q), if_neg q]
 unfold F_strings_CutSuffix
 rw [h2]; rfl
theorem unit_round (s u : Str) (hs : s.length ≤ 140737488351232) (hu : u.length ≤ 100) (nx : Int × Unit) : (ob (F_strings_CutSuffix s u) fun y0 => (br y0.2 (br (sq y0.1 ([49] : Str)) (inR (some (.inr true))) (br (sq y0.1 ([49, 48] : Str)) (inR (some (.inr true))) (inR (some (.inr (sq y0.1 ([49, 48, 48] : Str))))))) (some (.inl nx)))) =
  (some ((if sufB s u = true then some (n3B (s.take (s.length - u.length))) else none).elim (.inl nx) fun b => .inr (.inr b)) : Option ((Int × Unit) ⊕ ((Int × Unit) ⊕ Bool))) := by
 rw [suffix_eq s u hs hu, ob_some]
 by_cases q : sufB s u = true
 ·rw [if_pos q, if_pos q]
  simp only [br_def, if_true, n3B, sq, decide_eq_true_eq, Option.elim]
  by_cases a1 : s.take (s.length - u.length) = [49]
  ·simp [a1, inR]
  ·rw [if_neg a1]
   by_cases a2 : s.take (s.length - u.length) = [49, 48]
   ·simp [a2, inR]
   ·rw [if_neg a2]
    simp [a1, a2, inR]
 ·rw [if_neg q, if_neg q]; rfl
theorem unit_eq (s : Str) (hs : s.length ≤ 140737488351232) : F_vcd_unit s = some (unitB s) := by
 have l := iterS_find (f := F_vcd_unit_l0 s) U6 (fun i => ((i : Int), ())) (fun u => if sufB s u = true then some (n3B (s.take (s.length - u.length))) else none) (.inl ((6 : Int), ())) (fun b => .inr b)
  (fun i hi => by
   have hU : (([([109, 115] : Str), ([117, 115] : Str), ([110, 115] : Str), ([112, 115] : Str), ([102, 115] : Str), ([115] : Str)] : (List Str))) = U6 := rfl
   have hu : U6[i].length ≤ 100 := by
    have : ∀ u ∈ U6, u.length ≤ 100 := by decide
    exact this _ (List.getElem_mem hi)
   have hi6 : i < 6 := hi
   have hl6 : U6.length = 6 := rfl
   unfold F_vcd_unit_l0
   rw [hU]
   rw [br_def, if_pos (by simp only [lt_def, ni_def, len_def, decide_eq_true_eq]; omega), br_def, if_pos (by simp only [ix_def, ni_def, len_def, decide_eq_true_eq]; omega), tn_nat, rd_lt hi, wr64 (by simp only [ad_def]; omega) (by simp only [ad_def]; omega)]
   exact unit_round s U6[i] hs hu _)
  (by rfl)
 unfold F_vcd_unit
 rw [z0, l]
 have key : (U6.findSome? fun u => if sufB s u = true then some (n3B (s.take (s.length - u.length))) else none).getD false = unitB s := by
  rw [Bool.eq_iff_iff]
  constructor
  ·intro h
   cases hf : (U6.findSome? fun u => if sufB s u = true then some (n3B (s.take (s.length - u.length))) else none) with
   | none => rw [hf] at h; cases h
   | some b =>
    rw [hf] at h
    have hb : b = true := h
    subst hb
    obtain ⟨u, hu, he⟩ := List.exists_of_findSome?_eq_some hf
    split at he
    ·rename_i q
     have he := Option.some.inj he
     unfold sufB at q
     unfold n3B at he
     simp only [decide_eq_true_eq] at q he
     have e : s = s.take (s.length - u.length) ++ u := by conv => lhs; rw [← List.take_append_drop (s.length - u.length) s, q.2]
     unfold unitB
     simp only [decide_eq_true_eq]
     refine ⟨u, hu, s.take (s.length - u.length), ?_, e⟩
     unfold N3
     rcases he with h | h | h <;> rw [h] <;> simp
    ·cases he
  ·intro h
   unfold unitB at h
   simp only [decide_eq_true_eq] at h
   obtain ⟨u, hu, n, hn, rfl⟩ := h
   have all : ∀ u ∈ U6, ∀ n ∈ N3, (U6.findSome? fun v => if sufB (n ++ u) v = true then some (n3B ((n ++ u).take ((n ++ u).length - v.length))) else none).getD false = true := by decide
   exact all u hu n hn
 rw [← key]
 cases (U6.findSome? fun u => if sufB s u = true then some (n3B (s.take (s.length - u.length))) else none) with
 | none => rfl
 | some b => rfl
def digB (b : UInt8) : Bool := ([48, 49, 120, 122] : Str).contains b
theorem drop_nil {p : UInt8 → Bool} : ∀ l : Str, l.dropWhile p = [] ↔ ∀ b ∈ l, p b = true := by
 intro l
 induction l with
 | nil => simp
 | cons a r ih =>
  rw [List.dropWhile_cons]
  by_cases h : p a = true
  ·rw [if_pos h, ih]; simp [h]
  ·rw [if_neg h]; simp [h]
theorem trim_nil (s : Str) : (Lib.trimS s [48, 49, 120, 122] = []) ↔ s.all digB = true := by
 unfold Lib.trimS Lib.trimLeftS Lib.trimRightS
 rw [drop_nil, List.all_eq_true]
 constructor
 ·intro h b hb
  have hb' : b ∈ s.reverse := List.mem_reverse.2 hb
  rw [← List.takeWhile_append_dropWhile (p := (([48, 49, 120, 122] : Str).contains ·)) (l := s.reverse)] at hb'
  rcases List.mem_append.1 hb' with q | q
  ·exact List.all_eq_true.1 (List.all_takeWhile (p := (([48, 49, 120, 122] : Str).contains ·)) (l := s.reverse)) b q
  ·exact h b (List.mem_reverse.2 q)
 ·intro h b hb
  have := List.dropWhile_subset (p := (([48, 49, 120, 122] : Str).contains ·)) (l := s.reverse) (List.mem_reverse.1 hb)
  exact h b (List.mem_reverse.1 this)
abbrev d0 : TChg := (0, 0, [])
abbrev v0 : TVar := ([], [], 0)
def cErr (w : TWave) (i : Nat) : Int :=
 if (w.2.2.getD i d0).1 < 0 then 1 else if 1000000000000 < (w.2.2.getD i d0).1 then 1 else if (w.2.2.getD i d0).2.1 < 0 then 1 else if (w.2.1.length : Int) ≤ (w.2.2.getD i d0).2.1 then 1 else
 if ((w.2.2.getD i d0).2.2.length : Int) ≠ (w.2.1.getD (w.2.2.getD i d0).2.1.toNat v0).2.2 then 12 else if (w.2.2.getD i d0).2.2.all digB = true then
  if 0 < i ∧ (w.2.2.getD i d0).1 < (w.2.2.getD (i - 1) d0).1 then 22 else 0 else 3
def vErrs (w : TWave) (i : Nat) : Option Int := if vErr (w.2.1.getD i v0) (w.2.1.take i) = 0 then none else some (vErr (w.2.1.getD i v0) (w.2.1.take i))
def cErrs (w : TWave) (i : Nat) : Option Int := if cErr w i = 0 then none else some (cErr w i)
def chk (w : TWave) : Int :=
 if unitB w.1 = true then if 256 < (w.2.1.length : Int) then 5 else if 4096 < (w.2.2.length : Int) then 5 else
  ((List.range w.2.1.length).findSome? (vErrs w)).elim (((List.range w.2.2.length).findSome? (cErrs w)).elim 0 id) id
 else 3
theorem vErr_zero {v : TVar} {b : List TVar} (h : vErr v b = 0) : 1 ≤ v.2.2 ∧ v.2.2 ≤ 128 ∧ v.1.length ≤ 8 ∧ v.1.all wordB = true ∧ wordB v.2.1 = true ∧ b.any (sameB · v) ≠ true := by
 unfold vErr at h
 split at h
 ·cases h
 split at h
 ·cases h
 split at h
 ·cases h
 split at h
 ·split at h
  ·split at h
   ·cases h
   ·refine ⟨by omega, by omega, by omega, by assumption, by assumption, by assumption⟩
  ·cases h
 ·cases h
theorem cErr_zero {w : TWave} {i : Nat} (h : cErr w i = 0) : 0 ≤ (w.2.2.getD i d0).1 ∧ (w.2.2.getD i d0).1 ≤ 1000000000000 ∧ 0 ≤ (w.2.2.getD i d0).2.1 ∧ (w.2.2.getD i d0).2.1 < (w.2.1.length : Int) ∧
  ((w.2.2.getD i d0).2.2.length : Int) = (w.2.1.getD (w.2.2.getD i d0).2.1.toNat v0).2.2 ∧ (w.2.2.getD i d0).2.2.all digB = true ∧ (0 < i → (w.2.2.getD (i - 1) d0).1 ≤ (w.2.2.getD i d0).1) := by
 unfold cErr at h
 split at h
 ·cases h
 split at h
 ·cases h
 split at h
 ·cases h
 split at h
 ·cases h
 split at h
 ·cases h
 split at h
 ·split at h
  ·cases h
  ·refine ⟨by omega, by omega, by omega, by omega, by omega, by assumption, by omega⟩
 ·cases h
theorem check_eq (w : TWave) (h : WfT .str w.1) : F_vcd_Check w = some (chk w) := by
 unfold F_vcd_Check chk
 rw [unit_eq _ h, ob_some]
 simp only [br_def, nt_def, lt_def, ni_def, len_def, decide_eq_true_eq]
 by_cases h1 : unitB w.1 = true
 ·rw [if_neg (by simp [h1]), if_pos h1]
  by_cases h2 : 256 < (w.2.1.length : Int)
  ·rw [if_pos h2, if_pos h2]
  rw [if_neg h2, if_neg h2]
  by_cases h3 : 4096 < (w.2.2.length : Int)
  ·rw [if_pos h3, if_pos h3]
  rw [if_neg h3, if_neg h3]
  have l := iterS_findR (f := F_vcd_Check_l0 w (unitB w.1)) w.2.1.length (fun i => ((i : Int), ())) (vErrs w) (.inl ((w.2.1.length : Int), ())) (fun r => .inr r)
   (fun i hi => by
    have e : F_vcd_checkVar ((w.2.1.getD i ([], [], 0)).1, ((w.2.1.getD i ([], [], 0)).2.1, (w.2.1.getD i ([], [], 0)).2.2)) (w.2.1.take i) = some (vErr (w.2.1.getD i v0) (w.2.1.take i)) := checkVar_eq _ _ (by simp; omega)
    have ec : cut w.2.1 0 i = w.2.1.take i := by rw [cut_def, List.drop_zero]
    simp (disch := omega) only [F_vcd_Check_l0, br_def, lt_def, ni_def, len_def, ix_def, tn_nat, rd_def, decide_eq_true_eq, ec, e, ob_some, ad_def, wr64, ne_def, rg_def]
    rw [if_pos (by omega), if_pos (by omega), if_pos (by omega)]
    unfold vErrs
    by_cases q : vErr (w.2.1.getD i v0) (w.2.1.take i) = 0
    ·rw [if_neg (by simpa using q), if_pos q]; rfl
    ·rw [if_pos q, if_neg q]; rfl)
   (by simp [F_vcd_Check_l0, br_def, lt_def])
  have l' : iterS (F_vcd_Check_l0 w (unitB w.1)) ((0 : Int), ()) = _ := l
  rw [l']
  cases hf : (List.range w.2.1.length).findSome? (vErrs w) with
  | some r => rw [Option.elim, oj_inr]; rfl
  | none =>
   rw [Option.elim, oj_inl]
   have hw : ∀ i, i < w.2.1.length → vErr (w.2.1.getD i v0) (w.2.1.take i) = 0 := fun i hi => by
    have := List.findSome?_eq_none_iff.1 hf i (List.mem_range.2 hi)
    unfold vErrs at this
    split at this
    ·assumption
    ·cases this
   have l1 := iterS_findR (f := F_vcd_Check_l1 w (unitB w.1) ((w.2.1.length : Int), ())) w.2.2.length (fun i => ((i : Int), ((if i = 0 then 0 else (w.2.2.getD (i - 1) d0).1), ()))) (cErrs w) (.inl ((w.2.2.length : Int), ((if w.2.2.length = 0 then 0 else (w.2.2.getD (w.2.2.length - 1) d0).1), ()))) (fun r => .inr r)
    (fun i hi => by
     unfold F_vcd_Check_l1
     simp only [tn_nat]
     rw [wr64 (n := ad (i : Int) 1) (by simp only [ad_def]; omega) (by simp only [ad_def]; omega)]
     unfold cErrs cErr
     have hc' : rd w.2.2 i ((0 : Int), ((0 : Int), ([] : Str))) = w.2.2.getD i d0 := rfl
     rw [hc']
     generalize hc : w.2.2.getD i d0 = c
     simp only [br_def, lt_def, ni_def, len_def, ix_def, decide_eq_true_eq, ne_def, le_def]
     rw [if_pos (by omega), if_pos (by omega)]
     by_cases q1 : c.1 < 0
     ·rw [if_pos q1, if_pos q1]; rfl
     rw [if_neg q1, if_neg q1]
     by_cases q2 : 1000000000000 < c.1
     ·rw [if_pos q2, if_pos q2]; rfl
     rw [if_neg q2, if_neg q2]
     by_cases q3 : c.2.1 < 0
     ·rw [if_pos q3, if_pos q3]; rfl
     rw [if_neg q3, if_neg q3]
     by_cases q4 : (w.2.1.length : Int) ≤ c.2.1
     ·rw [if_pos q4, if_pos q4]; rfl
     rw [if_neg q4, if_neg q4, if_pos (by omega)]
     rw [show rd w.2.1 (tn c.2.1) (([] : LStr), (([] : Str), (0 : Int))) = w.2.1.getD c.2.1.toNat v0 from rfl]
     by_cases q5 : (c.2.2.length : Int) ≠ (w.2.1.getD c.2.1.toNat v0).2.2
     ·rw [if_pos q5, if_pos q5]; rfl
     rw [if_neg q5, if_neg q5]
     have hv := vErr_zero (hw c.2.1.toNat (by omega))
     have et : F_strings_Trim c.2.2 ([48, 49, 120, 122] : Str) = some (Lib.trimS c.2.2 [48, 49, 120, 122]) := by
      unfold F_strings_Trim
      rw [if_pos ⟨rfl, by omega⟩]
     rw [et, ob_some]
     by_cases q6 : c.2.2.all digB = true
     ·rw [if_neg (by simp [nt_def, sq, (trim_nil _).2 q6]), if_pos q6]
      by_cases q7 : 0 < i ∧ c.1 < (w.2.2.getD (i - 1) d0).1
      ·rw [if_pos (by rw [if_neg (by omega)]; exact q7.2), if_pos q7]; rfl
      ·have q8 : ¬ c.1 < (if i = 0 then 0 else (w.2.2.getD (i - 1) d0).1) := by
        by_cases qi : i = 0
        ·rw [if_pos qi]; omega
        ·rw [if_neg qi]; omega
       rw [if_neg q8, if_neg q7]
       rw [if_neg (show ¬ i + 1 = 0 by omega), show i + 1 - 1 = i from rfl, hc]; rfl
     ·have q9 : ¬ Lib.trimS c.2.2 [48, 49, 120, 122] = [] := fun q => q6 ((trim_nil _).1 q)
      rw [if_pos (by simp [nt_def, sq, q9]), if_neg q6]; rfl)
    (by simp [F_vcd_Check_l1, br_def, lt_def])
   have l1' : iterS (F_vcd_Check_l1 w (unitB w.1) ((w.2.1.length : Int), ())) ((0 : Int), ((0 : Int), ())) = _ := l1
   rw [l1']
   cases (List.range w.2.2.length).findSome? (cErrs w) with
   | some r => rw [Option.elim, oj_inr]; rfl
   | none => rw [Option.elim, oj_inl]; rfl
 ·rw [if_pos (by simpa using h1), if_neg h1]
structure Good (w : TWave) : Prop where
 nv : w.2.1.length ≤ 256
 nc : w.2.2.length ≤ 4096
 unit : unitB w.1 = true
 var : ∀ i, i < w.2.1.length → vErr (w.2.1.getD i v0) (w.2.1.take i) = 0
 chg : ∀ i, i < w.2.2.length → cErr w i = 0
theorem chk_zero {w : TWave} : chk w = 0 ↔ Good w := by
 constructor
 ·intro h
  unfold chk at h
  split at h
  ·split at h
   ·cases h
   split at h
   ·cases h
   rename_i q1 q2 q3
   cases hf : (List.range w.2.1.length).findSome? (vErrs w) with
   | some r =>
    rw [hf] at h
    obtain ⟨i, -, hi⟩ := List.exists_of_findSome?_eq_some hf
    unfold vErrs at hi
    split at hi
    ·cases hi
    ·rename_i q
     have h' : r = 0 := h
     rw [h'] at hi
     exact absurd (Option.some.inj hi) q
   | none =>
    rw [hf] at h
    cases hg : (List.range w.2.2.length).findSome? (cErrs w) with
    | some r =>
     rw [hg] at h
     obtain ⟨i, -, hi⟩ := List.exists_of_findSome?_eq_some hg
     unfold cErrs at hi
     split at hi
     ·cases hi
     ·rename_i q
      have h' : r = 0 := h
      rw [h'] at hi
      exact absurd (Option.some.inj hi) q
    | none =>
     refine ⟨by omega, by omega, q1, fun i hi => ?_, fun i hi => ?_⟩
     ·have := List.findSome?_eq_none_iff.1 hf i (List.mem_range.2 hi)
      unfold vErrs at this
      split at this
      ·assumption
      ·cases this
     ·have := List.findSome?_eq_none_iff.1 hg i (List.mem_range.2 hi)
      unfold cErrs at this
      split at this
      ·assumption
      ·cases this
  ·cases h
 ·intro h
  unfold chk
  have hf : (List.range w.2.1.length).findSome? (vErrs w) = none := List.findSome?_eq_none_iff.2 fun i hi => by unfold vErrs; rw [if_pos (h.var i (List.mem_range.1 hi))]
  have hg : (List.range w.2.2.length).findSome? (cErrs w) = none := List.findSome?_eq_none_iff.2 fun i hi => by unfold cErrs; rw [if_pos (h.chg i (List.mem_range.1 hi))]
  have := h.nv
  have := h.nc
  rw [if_pos h.unit, if_neg (by omega), if_neg (by omega), hf, hg]; rfl
def fillS (w : TWave) (v : Nat) : Str := Lib.repeatL [120] (w.2.1.getD v v0).2.2.toNat
abbrev tAt (w : TWave) (i : Nat) : Int := (w.2.2.getD i d0).1
def valW (w : TWave) (v : Nat) (T : Int) : Str := val (fillS w) w.2.2 v T
def rowV (w : TWave) (T : Int) : LStr := (List.range w.2.1.length).map fun v => valW w v T
def rowAt (w : TWave) (j : Nat) : LStr := (List.range w.2.1.length).map fun v => (w.2.2.take j).foldl (upd v) (fillS w v)
theorem rowV_len (w : TWave) (T : Int) : (rowV w T).length = w.2.1.length := by simp [rowV]
theorem rowAt_len (w : TWave) (j : Nat) : (rowAt w j).length = w.2.1.length := by simp [rowAt]
theorem rowV_get {w : TWave} {T : Int} {v : Nat} (h : v < w.2.1.length) (d : Str) : (rowV w T).getD v d = valW w v T := by
 rw [getD_lt (by rw [rowV_len]; exact h)]; simp [rowV]
theorem Good.width {w : TWave} (h : Good w) {i : Nat} (hi : i < w.2.1.length) : 1 ≤ (w.2.1.getD i v0).2.2 ∧ (w.2.1.getD i v0).2.2 ≤ 128 := ⟨(vErr_zero (h.var i hi)).1, (vErr_zero (h.var i hi)).2.1⟩
theorem Good.mono {w : TWave} (h : Good w) : ∀ (d i : Nat), i + d < w.2.2.length → tAt w i ≤ tAt w (i + d) := by
 intro d
 induction d with
 | zero => intro i _; exact Int.le_refl _
 | succ d ih =>
  intro i hi
  have h1 := ih i (by omega)
  have h2 := (cErr_zero (h.chg (i + (d + 1)) hi)).2.2.2.2.2.2 (by omega)
  rw [show i + (d + 1) - 1 = i + d by omega] at h2
  exact Int.le_trans h1 h2
theorem Good.mono' {w : TWave} (h : Good w) {i j : Nat} (hij : i ≤ j) (hj : j < w.2.2.length) : tAt w i ≤ tAt w j := by
 have := h.mono (j - i) i (by omega)
 rwa [show i + (j - i) = j by omega] at this
theorem Good.sorted {w : TWave} (h : Good w) : Sorted w.2.2 := by
 refine List.pairwise_iff_getElem.2 fun i j hi hj hij => ?_
 have := h.mono' (Nat.le_of_lt hij) hj
 unfold tAt at this
 rwa [getD_lt hi, getD_lt hj] at this
theorem Good.ok {w : TWave} (h : Good w) : Ok w.2.1.length w.2.2 := by
 intro c hc
 obtain ⟨i, hi, rfl⟩ := List.getElem_of_mem hc
 have := cErr_zero (h.chg i hi)
 rw [getD_lt hi] at this
 exact ⟨this.2.2.1, this.2.2.2.1⟩
theorem Good.time {w : TWave} (h : Good w) {i : Nat} (hi : i < w.2.2.length) : 0 ≤ tAt w i ∧ tAt w i ≤ 1000000000000 := ⟨(cErr_zero (h.chg i hi)).1, (cErr_zero (h.chg i hi)).2.1⟩
theorem gend (w : TWave) {i : Nat} (hi : i < w.2.2.length) : ∃ j, i < j ∧ j ≤ w.2.2.length ∧ (∀ k, i ≤ k → k < j → tAt w k = tAt w i) ∧ (j < w.2.2.length → tAt w j ≠ tAt w i) := by
 have key : ∀ d m, i < m → m ≤ w.2.2.length → w.2.2.length - m ≤ d → (∀ k, i ≤ k → k < m → tAt w k = tAt w i) → ∃ j, i < j ∧ j ≤ w.2.2.length ∧ (∀ k, i ≤ k → k < j → tAt w k = tAt w i) ∧ (j < w.2.2.length → tAt w j ≠ tAt w i) := by
  intro d
  induction d with
  | zero => intro m h1 h2 h3 h4; exact ⟨m, h1, h2, h4, fun q => by omega⟩
  | succ d ih =>
   intro m h1 h2 h3 h4
   by_cases q : m < w.2.2.length ∧ tAt w m = tAt w i
   ·refine ih (m + 1) (by omega) (by omega) (by omega) fun k a b => ?_
    by_cases e : k = m
    ·rw [e]; exact q.2
    ·exact h4 k a (by omega)
   ·exact ⟨m, h1, h2, h4, fun a b => q ⟨a, b⟩⟩
 exact key _ (i + 1) (by omega) (by omega) (Nat.le_refl _) fun k a b => by rw [show k = i by omega]
def Bd (w : TWave) (i : Nat) : Prop := i = 0 ∨ tAt w i ≠ tAt w (i - 1)
theorem rowAt_before {w : TWave} (h : Good w) {i : Nat} (hi : i < w.2.2.length) (hb : Bd w i) : rowAt w i = rowV w (tAt w i - 1) := by
 unfold rowAt rowV valW
 refine List.map_congr_left fun v _ => ?_
 rw [val_cut _ _ i v (tAt w i - 1)]
 ·intro c hc
  obtain ⟨k, hk, rfl⟩ := List.mem_take_iff_getElem.1 hc
  rcases hb with rfl | hb
  ·omega
  ·have h1 := h.mono' (i := k) (j := i - 1) (by omega) (by omega)
   have h2 := h.mono' (i := i - 1) (j := i) (by omega) hi
   unfold tAt at *
   rw [getD_lt (by omega)] at h1
   omega
 ·intro c hc
  obtain ⟨k, hk, rfl⟩ := List.mem_drop_iff_getElem.1 hc
  have h1 := h.mono' (i := i) (j := i + k) (by omega) (by omega)
  unfold tAt at *
  rw [getD_lt (i := i + k) (by omega)] at h1
  omega
theorem rowAt_after {w : TWave} (h : Good w) {i j : Nat} (hij : i < j) (hj : j ≤ w.2.2.length) (ht : ∀ k, i ≤ k → k < j → tAt w k = tAt w i) (hn : j < w.2.2.length → tAt w j ≠ tAt w i) : rowAt w j = rowV w (tAt w i) := by
 unfold rowAt rowV valW
 refine List.map_congr_left fun v _ => ?_
 rw [val_cut _ _ j v (tAt w i)]
 ·intro c hc
  obtain ⟨k, hk, rfl⟩ := List.mem_take_iff_getElem.1 hc
  have h1 := h.mono' (i := k) (j := j - 1) (by omega) (by omega)
  rw [ht (j - 1) (by omega) (by omega)] at h1
  unfold tAt at *
  rwa [getD_lt (by omega)] at h1
 ·intro c hc
  obtain ⟨k, hk, rfl⟩ := List.mem_drop_iff_getElem.1 hc
  have h1 := h.mono' (i := j) (j := j + k) (by omega) (by omega)
  have h2 := h.mono' (i := i) (j := j) (by omega) (by omega)
  have h3 := hn (by omega)
  unfold tAt at *
  rw [getD_lt (i := j + k) (by omega)] at h1
  omega
theorem rowAt_succ {w : TWave} (h : Good w) {j : Nat} (hj : j < w.2.2.length) : (rowAt w j).set (w.2.2.getD j d0).2.1.toNat (w.2.2.getD j d0).2.2 = rowAt w (j + 1) := by
 have e := app_map w.2.1.length (fun v => (w.2.2.take j).foldl (upd v) (fillS w v)) [w.2.2[j]] fun c hc => by
  rw [List.mem_singleton.1 hc]; exact h.ok _ (List.getElem_mem hj)
 simp only [List.foldl_cons, List.foldl_nil] at e
 rw [getD_lt hj]
 unfold rowAt
 rw [show (List.map (fun v => List.foldl (upd v) (fillS w v) (List.take j w.2.2)) (List.range w.2.1.length)).set w.2.2[j].2.1.toNat w.2.2[j].2.2 = _ from e]
 refine List.map_congr_left fun v _ => ?_
 rw [← List.take_append_getElem hj, List.foldl_append]; rfl
def inner {R : Type} (w : TWave) (i : Int) (s : Int × (LStr × Unit)) : Option ((Int × (LStr × Unit)) ⊕ ((Int × (LStr × Unit)) ⊕ R)) :=
 (br (lt s.1 (ni (len w.2.2))) (br (ix s.1 (ni (len w.2.2))) (br (eq (rd w.2.2 (tn s.1) (0, (0, []))).1 (rd w.2.2 (tn i) (0, (0, []))).1) (br (ix s.1 (ni (len w.2.2))) (br (ix s.1 (ni (len w.2.2))) (br (ix (rd w.2.2 (tn s.1) (0, (0, []))).2.1 (ni (len s.2.1))) (some (.inl ((wr .i64 (ad s.1 1)), ((put s.2.1 (tn (rd w.2.2 (tn s.1) (0, (0, []))).2.1) (rd w.2.2 (tn s.1) (0, (0, []))).2.2), ())))) none) none) none) (some (.inr (.inl (s.1, (s.2.1, ())))))) none) (some (.inr (.inl (s.1, (s.2.1, ()))))))
theorem inner_eq {R : Type} {w : TWave} (h : Good w) {i j : Nat} (hij : i < j) (hj : j ≤ w.2.2.length) (ht : ∀ k, i ≤ k → k < j → tAt w k = tAt w i) (hn : j < w.2.2.length → tAt w j ≠ tAt w i) :
  iterS (inner (R := R) w (i : Int)) ((i : Int), (rowAt w i, ())) = some (.inl ((j : Int), (rowAt w j, ()))) := by
 have hnc := h.nc
 have l := iterS_upto (f := inner (R := R) w (i : Int)) (fun k => (((i + k : Nat) : Int), (rowAt w (i + k), ()))) (j - i) (r := .inl ((j : Int), (rowAt w j, ())))
  (fun k hk => by
   have hv := cErr_zero (h.chg (i + k) (by omega))
   have e1 := ht (i + k) (by omega) (by omega)
   unfold inner
   simp only [tn_nat]
   have hr : ∀ m : Nat, rd w.2.2 m d0 = w.2.2.getD m d0 := fun m => rfl
   rw [hr, hr, br_def, if_pos (by simp only [lt_def, ni_def, len_def, decide_eq_true_eq]; omega), br_def, if_pos (by simp only [ix_def, ni_def, len_def, decide_eq_true_eq]; omega), br_def,
    if_pos (by simp only [eq_def, decide_eq_true_eq]; exact e1), br_def, if_pos (by simp only [ix_def, ni_def, len_def, decide_eq_true_eq]; omega), br_def, if_pos (by simp only [ix_def, ni_def, len_def, decide_eq_true_eq]; omega),
    br_def, if_pos (by simp only [ix_def, ni_def, len_def, decide_eq_true_eq, rowAt_len]; omega), wr64 (by simp only [ad_def]; omega) (by simp only [ad_def]; omega), put_def, tn_def, rowAt_succ h (by omega)]
   rfl)
  (by
   rw [show i + (j - i) = j by omega]
   unfold inner
   simp only [tn_nat]
   have hr : ∀ m : Nat, rd w.2.2 m d0 = w.2.2.getD m d0 := fun m => rfl
   rw [hr, hr, br_def]
   by_cases q : j < w.2.2.length
   ·rw [if_pos (by simp only [lt_def, ni_def, len_def, decide_eq_true_eq]; omega), br_def, if_pos (by simp only [ix_def, ni_def, len_def, decide_eq_true_eq]; omega), br_def,
     if_neg (by simp only [eq_def, decide_eq_true_eq]; exact hn q)]
   ·rw [if_neg (by simp only [lt_def, ni_def, len_def, decide_eq_true_eq]; omega)])
 rw [Nat.add_zero] at l
 exact l
theorem steps_rule {σ R X : Type} {w : TWave} (h : Good w) {f : σ → Option (σ ⊕ R)} (mk : Int → LStr → X → σ) (g : Int → X → X) (fin : X → R) (I : Nat → X → Prop)
  (hstep : ∀ i j x, i < j → j ≤ w.2.2.length → Bd w i → (∀ k, i ≤ k → k < j → tAt w k = tAt w i) → (j < w.2.2.length → tAt w j ≠ tAt w i) → I i x →
   f (mk i (rowAt w i) x) = some (.inl (mk j (rowAt w j) (g (tAt w i) x))) ∧ I j (g (tAt w i) x))
  (hend : ∀ x, I w.2.2.length x → f (mk w.2.2.length (rowAt w w.2.2.length) x) = some (.inr (fin x))) (x0 : X) (h0 : I 0 x0) :
  iterS f (mk (0 : Nat) (rowAt w 0) x0) = some (fin ((tms w.2.2 w.2.2.length).foldl (fun x T => g T x) x0)) ∧ I w.2.2.length ((tms w.2.2 w.2.2.length).foldl (fun x T => g T x) x0) := by
 have key : ∀ d i x, w.2.2.length - i ≤ d → i ≤ w.2.2.length → (i < w.2.2.length → Bd w i) → x = (tms w.2.2 i).foldl (fun x T => g T x) x0 → I i x →
   iterS f (mk i (rowAt w i) x) = some (fin ((tms w.2.2 w.2.2.length).foldl (fun x T => g T x) x0)) ∧ I w.2.2.length ((tms w.2.2 w.2.2.length).foldl (fun x T => g T x) x0) := by
  intro d
  induction d with
  | zero =>
   intro i x hd hi hb hx hI
   have e : i = w.2.2.length := by omega
   subst e
   rw [iterS_inr (hend x hI), hx]
   exact ⟨rfl, hx ▸ hI⟩
  | succ d ih =>
   intro i x hd hi hb hx hI
   by_cases q : i < w.2.2.length
   ·obtain ⟨j, j1, j2, j3, j4⟩ := gend w q
    obtain ⟨s1, s2⟩ := hstep i j x j1 j2 (hb q) j3 j4 hI
    rw [iterS_inl s1]
    refine ih j _ (by omega) j2 (fun q2 => .inr ?_) ?_ s2
    ·rw [j3 (j - 1) (by omega) (by omega)]; exact j4 q2
    ·rw [tms_group w.2.2 i j j1 (hb q) j3, List.foldl_append, ← hx]; rfl
   ·have e : i = w.2.2.length := by omega
    subst e
    rw [iterS_inr (hend x hI), hx]
    exact ⟨rfl, hx ▸ hI⟩
 exact key _ 0 x0 (Nat.le_refl _) (Nat.zero_le _) (fun _ => .inl rfl) rfl h0
theorem init_eq {w : TWave} (h : Good w) : F_vcd_initial w = some (rowAt w 0) := by
 have hnv := h.nv
 have l := iterS_upto (f := F_vcd_initial_l0 w) (fun i => ((i : Int), ((((List.range w.2.1.length).take i).map (fillS w) ++ List.replicate ((List.range w.2.1.length).length - i) ([] : Str)), ()))) w.2.1.length (r := .inl ((w.2.1.length : Int), (rowAt w 0, ())))
  (fun i hi => by
   have hw := h.width hi
   unfold F_vcd_initial_l0
   simp only [tn_nat]
   have hr : F_strings_Repeat ([120] : Str) (rd w.2.1 i v0).2.2 = some (fillS w i) := by
    unfold F_strings_Repeat
    rw [if_pos]
    ·rfl
    ·exact ⟨rfl, by show 0 ≤ (w.2.1.getD i v0).2.2; omega, by show (w.2.1.getD i v0).2.2 ≤ 1000; omega⟩
   rw [hr, ob_some, br_def, if_pos (by simp only [lt_def, ni_def, len_def, decide_eq_true_eq]; omega), br_def, if_pos (by simp only [ix_def, ni_def, len_def, decide_eq_true_eq]; omega), br_def,
    if_pos (by simp only [ix_def, ni_def, len_def, decide_eq_true_eq, List.length_append, List.length_map, List.length_take, List.length_replicate, List.length_range]; omega), wr64 (by simp only [ad_def]; omega) (by simp only [ad_def]; omega), put_def]
   have e := set_map (fillS w) (List.range w.2.1.length) ([] : Str) i (by simpa using hi)
   rw [List.getElem_range] at e
   rw [e]; rfl)
  (by
   unfold F_vcd_initial_l0
   rw [br_def, if_neg (by simp only [lt_def, ni_def, len_def, decide_eq_true_eq]; omega)]
   have e : ((List.range w.2.1.length).take w.2.1.length).map (fillS w) ++ List.replicate ((List.range w.2.1.length).length - w.2.1.length) ([] : Str) = rowAt w 0 := by
    rw [List.take_of_length_le (by simp), List.length_range, Nat.sub_self]
    simp [rowAt]
   rw [e])
 unfold F_vcd_initial
 simp only [br_def, rg_def, ni_def, len_def, decide_eq_true_eq, le_def, ml_def]
 rw [if_pos (by omega), if_pos (by omega), if_pos (by omega)]
 have l' : iterS (F_vcd_initial_l0 w) ((0 : Int), ((rept (tn (w.2.1.length : Int)) ([] : Str)), ())) = some (.inl ((w.2.1.length : Int), (rowAt w 0, ()))) := by
  have : (rept (tn (w.2.1.length : Int)) ([] : Str)) = ((List.range w.2.1.length).take 0).map (fillS w) ++ List.replicate ((List.range w.2.1.length).length - 0) ([] : Str) := by
   rw [tn_nat, rept_def]; simp
  rw [this]; exact l
 rw [l', oj_inl]
theorem clone_eq (l : LStr) (h : l.length ≤ 100000) : F_slices_Clone_string_string l = some l := by
 unfold F_slices_Clone_string_string; rw [if_pos h]
theorem ltp {a b : Int} (h : a < b) : lt a b = true := decide_eq_true h
theorem ltn {a b : Int} (h : ¬ a < b) : lt a b = false := decide_eq_false h
theorem ixp {a b : Int} (h : 0 ≤ a ∧ a < b) : ix a b = true := decide_eq_true h
theorem fitsp {a b c : Nat} (h : a + b ≤ c) : fits a b c = true := decide_eq_true h
theorem br_t {R : Type} (x y : Option R) : br true x y = x := rfl
theorem br_f {R : Type} (x y : Option R) : br false x y = y := rfl
def dif (w : TWave) (T : Int) (v : Nat) : Option TChg := if valW w v T = valW w v (T - 1) then none else some (T, ((v : Int), valW w v T))
def diffs (w : TWave) (T : Int) : List TChg := (List.range w.2.1.length).filterMap (dif w T)
def NF (w : TWave) : List TChg := (tms w.2.2 w.2.2.length).foldl (fun x T => x ++ diffs w T) []
theorem fold_fm {α β : Type} (f : α → Option β) : ∀ (l : List α) (o : List β), l.foldl (fun o v => o ++ (f v).toList) o = o ++ l.filterMap f := by
 intro l
 induction l with
 | nil => intro o; simp
 | cons a r ih =>
  intro o
  rw [List.foldl_cons, ih, List.filterMap_cons]
  cases f a <;> simp
theorem normal_vars {w : TWave} (h : Good w) (y0 : Int) : iterS (F_vcd_Normal_l0 w y0) (0, ([], ())) = some (.inl ((w.2.1.length : Int), (w.2.1, ()))) := by
 have hnv := h.nv
 have l := iterS_upto (f := F_vcd_Normal_l0 w y0) (fun i => ((i : Int), (w.2.1.take i, ()))) w.2.1.length (r := .inl ((w.2.1.length : Int), (w.2.1, ())))
  (fun i hi => by
   have hs := (vErr_zero (h.var i hi)).2.2.1
   unfold F_vcd_Normal_l0
   simp only [tn_nat]
   have hc : F_slices_Clone_string_string (rd w.2.1 i v0).1 = some (w.2.1.getD i v0).1 := clone_eq _ (by show (w.2.1.getD i v0).1.length ≤ 100000; omega)
   rw [hc, ob_some, ltl (by omega), br_t, ixl (by omega), br_t, fitsp (by simp [len_def]; omega), br_t, wra (by omega), app_def]
   have e : w.2.1.take i ++ [((w.2.1.getD i v0).1, ((rd w.2.1 i v0).2.1, (rd w.2.1 i v0).2.2))] = w.2.1.take (i + 1) := by
    rw [← List.take_append_getElem hi]
    congr 2
    show w.2.1.getD i v0 = _
    exact getD_lt hi _
   rw [e]; rfl)
  (by
   unfold F_vcd_Normal_l0
   rw [lnl (by omega), br_f, List.take_length])
 exact l
theorem normal_dif {w : TWave} (h : Good w) {T : Int} (y0 : Int) (y2) (y3) (i : Nat) (x : List TChg) (j : Int) (st : LStr) (hT : tAt w i = T) (hx : x.length ≤ 2000000) :
  iterS (F_vcd_Normal_l3 w y0 y2 y3 ((i : Int), (st, (x, ()))) (rowV w (T - 1)) (j, (rowV w T, ()))) (0, (x, ())) = some (.inl ((w.2.1.length : Int), (x ++ diffs w T, ()))) := by
 have hnv := h.nv
 have l := iterS_fold (f := F_vcd_Normal_l3 w y0 y2 y3 ((i : Int), (st, (x, ()))) (rowV w (T - 1)) (j, (rowV w T, ()))) (List.range w.2.1.length) (fun i b => ((i : Int), (b, ()))) (fun b v => b ++ (dif w T v).toList)
  (fun b => .inl ((w.2.1.length : Int), (b, ()))) (fun i b => b.length ≤ 2000000 + i)
  (fun v b hv hb => by
   simp only [List.length_range] at hv
   rw [List.getElem_range]
   have hr : (rd w.2.2 i d0).1 = T := hT
   have g1 : rd (rowV w T) v ([] : Str) = valW w v T := rowV_get hv _
   have g2 : rd (rowV w (T - 1)) v ([] : Str) = valW w v (T - 1) := rowV_get hv _
   refine ⟨?_, ?_⟩
   ·unfold F_vcd_Normal_l3
    simp only [tn_nat]
    rw [hr, g1, g2, ltp (by simp only [ni_def, len_def, rowV_len]; omega), br_t, ixp (by simp only [ni_def, len_def, rowV_len]; omega), br_t, ixp (by simp only [ni_def, len_def, rowV_len]; omega), br_t,
     wra (by omega)]
    unfold dif
    by_cases q : valW w v T = valW w v (T - 1)
    ·rw [if_pos q, show nt (sq (valW w v T) (valW w v (T - 1))) = false by simp [nt_def, sq, q], br_f]
     simp [ad_def]
    ·rw [if_neg q, show nt (sq (valW w v T) (valW w v (T - 1))) = true by simp [nt_def, sq, q], br_t, br_t, fitsp (by simp [len_def]; omega), br_t]
     simp [ad_def, app_def]
   ·show (b ++ (dif w T v).toList).length ≤ _
    unfold dif
    split <;> simp <;> omega)
  (fun b hb => by
   unfold F_vcd_Normal_l3
   rw [ltn (by simp only [ni_def, len_def, rowV_len, List.length_range]; omega), br_f, List.length_range])
  (b := x) (by simpa using hx)
 rw [fold_fm] at l
 exact l
theorem normal_eq (w : TWave) (hw : WfT .str w.1) : F_vcd_Normal w = some (if chk w = 0 then ((w.1, (w.2.1, NF w)), 0) else (([], ([], [])), chk w)) := by
 unfold F_vcd_Normal
 rw [show F_vcd_Check (w.1, (w.2.1, w.2.2)) = some (chk w) from check_eq w hw, ob_some]
 by_cases hc : chk w = 0
 ·have h : Good w := chk_zero.1 hc
  have hnv := h.nv
  have hnc := h.nc
  rw [if_pos hc, show ne (chk w) 0 = false by simp [ne_def, hc], br_f, normal_vars h, oj_inl, show F_vcd_initial (w.1, (w.2.1, w.2.2)) = _ from init_eq h, ob_some]
  have st := steps_rule (X := List TChg) h (f := F_vcd_Normal_l1 w (chk w) ((w.2.1.length : Int), (w.2.1, ())) (rowAt w 0)) (fun i s x => (i, (s, (x, ())))) (fun T x => x ++ diffs w T)
   (fun x => .inl ((w.2.2.length : Int), (rowAt w w.2.2.length, (x, ())))) (fun i x => x.length ≤ i * 256)
   (fun i j x j1 j2 hb j3 j4 hI => by
    have hdl : (diffs w (tAt w i)).length ≤ 256 := Nat.le_trans (List.length_filterMap_le ..) (by simpa using hnv)
    refine ⟨?_, ?_⟩
    ·unfold F_vcd_Normal_l1
     simp only
     rw [ltl (by omega), br_t, ixl (by omega), br_t, clone_eq _ (by rw [rowAt_len]; omega), ob_some]
     rw [show iterS (F_vcd_Normal_l2 w (chk w) ((w.2.1.length : Int), (w.2.1, ())) (rowAt w 0) ((i : Int), (rowAt w i, (x, ()))) (rowAt w i)) ((i : Int), (rowAt w i, ())) = _ from inner_eq h j1 j2 j3 j4, oj_inl]
     have e1 := rowAt_before h (show i < w.2.2.length by omega) hb
     have e2 := rowAt_after h j1 j2 j3 j4
     have nd := normal_dif h (T := tAt w i) (chk w) ((w.2.1.length : Int), (w.2.1, ())) (rowAt w 0) i x (j : Int) (rowAt w i) rfl (by have : i * 256 ≤ 4096 * 256 := Nat.mul_le_mul (by omega) (Nat.le_refl _); omega)
     rw [← e1, ← e2] at nd
     rw [nd, oj_inl]
    ·show (x ++ diffs w (tAt w i)).length ≤ j * 256
     rw [List.length_append]
     have : (i + 1) * 256 ≤ j * 256 := Nat.mul_le_mul (by omega) (Nat.le_refl _)
     omega)
   (fun x hI => by
    unfold F_vcd_Normal_l1
    rw [lnl (by omega), br_f])
   [] (by simp)
  rw [show iterS (F_vcd_Normal_l1 w (chk w) ((w.2.1.length : Int), (w.2.1, ())) (rowAt w 0)) (0, (rowAt w 0, ([], ()))) = _ from st.1, oj_inl]; rfl
 ·rw [if_neg hc, show ne (chk w) 0 = true by simp [ne_def, hc], br_t]
def smp (w : TWave) (c : Nat) (want : Str) (T : Int) : Bool := decide (valW w c T = want ∧ valW w c (T - 1) ≠ want)
def smpT (w : TWave) (c : Nat) (want : Str) : List Int := (tms w.2.2 w.2.2.length).filter (smp w c want)
theorem fold_smp (p : Int → Bool) (g : Int → LStr) : ∀ (l : List Int) (x : List Int × List LStr), l.foldl (fun x T => if p T = true then (x.1 ++ [T], x.2 ++ [g T]) else x) x = (x.1 ++ l.filter p, x.2 ++ (l.filter p).map g) := by
 intro l
 induction l with
 | nil => intro x; simp
 | cons a r ih =>
  intro x
  rw [List.foldl_cons, ih, List.filter_cons]
  by_cases q : p a = true
  ·rw [if_pos q, if_pos q]; simp
  ·rw [if_neg q, if_neg q]
def wantS (f : Bool) : Str := if f = true then [48] else [49]
theorem sample_round {σ' : Type} {w : TWave} (h : Good w) {k i j : Nat} (hk : k < w.2.1.length) (want : Str) (j1 : i < j) (j2 : j ≤ w.2.2.length) (hb : Bd w i) (j3 : ∀ m, i ≤ m → m < j → tAt w m = tAt w i) (j4 : j < w.2.2.length → tAt w j ≠ tAt w i)
  (x : List Int × List LStr) (hI : x.1.length ≤ i ∧ x.2.length ≤ i) :
  (br (ix (k : Int) (ni (len (rowAt w j)))) (br (sq (rd (rowAt w j) (tn (k : Int)) []) want) (br (ix (k : Int) (ni (len (rowAt w i)))) (br (nt (sq (rd (rowAt w i) (tn (k : Int)) []) want)) (br (fits (len x.1) (len ([(rd w.2.2 (tn (i : Int)) d0).1] : LI)) 17592186044416)
   (ob (F_slices_Clone_string_string (rowAt w i)) fun y4 => (br (fits (len x.2) (len ([y4] : (List LStr))) 5864062014805) (some (.inl ((j : Int), (rowAt w j, ((app x.1 ([(rd w.2.2 (tn (i : Int)) d0).1] : LI)), ((app x.2 ([y4] : (List LStr))), ())))))) none)) none)
   (some (.inl ((j : Int), (rowAt w j, (x.1, (x.2, ()))))))) none) (some (.inl ((j : Int), (rowAt w j, (x.1, (x.2, ()))))))) none : Option ((Int × (LStr × (LI × (List LStr × Unit)))) ⊕ σ')) =
  some (.inl ((j : Int), (rowAt w j, ((if smp w k want (tAt w i) = true then (x.1 ++ [tAt w i], x.2 ++ [rowV w (tAt w i - 1)]) else x).1, ((if smp w k want (tAt w i) = true then (x.1 ++ [tAt w i], x.2 ++ [rowV w (tAt w i - 1)]) else x).2, ()))))) := by
 have hnv := h.nv
 have hnc := h.nc
 have e1 := rowAt_before h (show i < w.2.2.length by omega) hb
 have e2 := rowAt_after h j1 j2 j3 j4
 have hr : (rd w.2.2 (tn (i : Int)) d0).1 = tAt w i := rfl
 have g1 : rd (rowAt w j) (tn (k : Int)) ([] : Str) = valW w k (tAt w i) := by rw [e2, tn_nat]; exact rowV_get hk _
 have g2 : rd (rowAt w i) (tn (k : Int)) ([] : Str) = valW w k (tAt w i - 1) := by rw [e1, tn_nat]; exact rowV_get hk _
 rw [hr, g1, g2, ixp (by simp only [ni_def, len_def, rowAt_len]; omega), br_t, ixp (by simp only [ni_def, len_def, rowAt_len]; omega), br_t]
 unfold smp
 by_cases q1 : valW w k (tAt w i) = want
 ·rw [show sq (valW w k (tAt w i)) want = true from decide_eq_true q1, br_t]
  by_cases q2 : valW w k (tAt w i - 1) = want
  ·rw [show nt (sq (valW w k (tAt w i - 1)) want) = false by simp [nt_def, sq, q2], br_f, if_neg (by simp [q2])]
  ·rw [show nt (sq (valW w k (tAt w i - 1)) want) = true by simp [nt_def, sq, q2], br_t, fitsp (by simp [len_def]; omega), br_t, clone_eq _ (by rw [rowAt_len]; omega), ob_some, fitsp (by simp [len_def]; omega), br_t, if_pos (by simp [q1, q2])]
   simp only [app_def]
   rw [← e1]
 ·rw [show sq (valW w k (tAt w i)) want = false from decide_eq_false q1, br_f, if_neg (by simp [q1])]
theorem sample_eq (w : TWave) (hw : WfT .str w.1) (c : Int) (f : Bool) : F_vcd_Sample w c f = some (if chk w = 0 then if c < 0 ∨ (w.2.1.length : Int) ≤ c then ([], ([], 1)) else if (w.2.1.getD c.toNat v0).2.2 ≠ 1 then ([], ([], 12)) else
  (smpT w c.toNat (wantS f), ((smpT w c.toNat (wantS f)).map fun T => rowV w (T - 1), 0)) else ([], ([], chk w))) := by
 unfold F_vcd_Sample
 rw [show F_vcd_Check (w.1, (w.2.1, w.2.2)) = some (chk w) from check_eq w hw, ob_some]
 by_cases hc : chk w = 0
 ·have h : Good w := chk_zero.1 hc
  have hnv := h.nv
  have hnc := h.nc
  rw [if_pos hc, show ne (chk w) 0 = false by simp [ne_def, hc], br_f]
  by_cases q1 : c < 0
  ·rw [ltp q1, br_t, if_pos (.inl q1)]
  rw [ltn q1, br_f]
  by_cases q2 : (w.2.1.length : Int) ≤ c
  ·rw [show le (ni (len w.2.1)) c = true from decide_eq_true q2, br_t, if_pos (.inr q2)]
  rw [show le (ni (len w.2.1)) c = false from decide_eq_false q2, br_f, if_neg (by omega)]
  obtain ⟨k, rfl⟩ : ∃ k : Nat, c = k := ⟨c.toNat, by omega⟩
  have hk : k < w.2.1.length := by omega
  rw [ixl (by omega), br_t]
  have hv : (rd w.2.1 (tn (k : Int)) v0).2.2 = (w.2.1.getD (k : Int).toNat v0).2.2 := rfl
  rw [hv]
  by_cases q3 : (w.2.1.getD (k : Int).toNat v0).2.2 ≠ 1
  ·rw [show ne (w.2.1.getD (k : Int).toNat v0).2.2 1 = true from decide_eq_true q3, br_t, if_pos q3]
  rw [show ne (w.2.1.getD (k : Int).toNat v0).2.2 1 = false from decide_eq_false q3, br_f, if_neg q3]
  cases f with
  | true =>
   rw [br_t, show F_vcd_initial (w.1, (w.2.1, w.2.2)) = _ from init_eq h, ob_some]
   have st := steps_rule (X := List Int × List LStr) h (f := F_vcd_Sample_l0 w (k : Int) true (chk w) (rowAt w 0)) (fun i s x => (i, (s, (x.1, (x.2, ()))))) (fun T x => if smp w k (wantS true) T = true then (x.1 ++ [T], x.2 ++ [rowV w (T - 1)]) else x)
    (fun x => .inl ((w.2.2.length : Int), (rowAt w w.2.2.length, (x.1, (x.2, ()))))) (fun i x => x.1.length ≤ i ∧ x.2.length ≤ i)
    (fun i j x j1 j2 hb j3 j4 hI => by
     refine ⟨?_, ?_⟩
     ·unfold F_vcd_Sample_l0
      simp only
      rw [ltl (by omega), br_t, ixl (by omega), br_t, clone_eq (rowAt w i) (by rw [rowAt_len]; omega), ob_some]
      rw [show iterS (F_vcd_Sample_l1 w (k : Int) true (chk w) (rowAt w 0) ((i : Int), (rowAt w i, (x.1, (x.2, ())))) (rowAt w i)) ((i : Int), (rowAt w i, ())) = _ from inner_eq h j1 j2 j3 j4, oj_inl]
      have sr := sample_round (σ' := (Int × (LStr × (LI × (List LStr × Unit)))) ⊕ (LI × (List LStr × Int))) h hk (wantS true) j1 j2 hb j3 j4 x hI
      exact sr
     ·show ((if smp w k (wantS true) (tAt w i) = true then (x.1 ++ [tAt w i], x.2 ++ [rowV w (tAt w i - 1)]) else x)).1.length ≤ j ∧ _
      split
      ·simp; omega
      ·exact ⟨by omega, by omega⟩)
    (fun x hI => by
     unfold F_vcd_Sample_l0
     rw [lnl (by omega), br_f])
    ([], []) ⟨by simp, by simp⟩
   rw [show iterS (F_vcd_Sample_l0 w (k : Int) true (chk w) (rowAt w 0)) (0, (rowAt w 0, ([], ([], ())))) = _ from st.1, oj_inl, fold_smp]
   simp only [List.nil_append]; rfl
  | false =>
   rw [br_f, show F_vcd_initial (w.1, (w.2.1, w.2.2)) = _ from init_eq h, ob_some]
   have st := steps_rule (X := List Int × List LStr) h (f := F_vcd_Sample_l2 w (k : Int) false (chk w) (rowAt w 0)) (fun i s x => (i, (s, (x.1, (x.2, ()))))) (fun T x => if smp w k (wantS false) T = true then (x.1 ++ [T], x.2 ++ [rowV w (T - 1)]) else x)
    (fun x => .inl ((w.2.2.length : Int), (rowAt w w.2.2.length, (x.1, (x.2, ()))))) (fun i x => x.1.length ≤ i ∧ x.2.length ≤ i)
    (fun i j x j1 j2 hb j3 j4 hI => by
     refine ⟨?_, ?_⟩
     ·unfold F_vcd_Sample_l2
      simp only
      rw [ltl (by omega), br_t, ixl (by omega), br_t, clone_eq (rowAt w i) (by rw [rowAt_len]; omega), ob_some]
      rw [show iterS (F_vcd_Sample_l3 w (k : Int) false (chk w) (rowAt w 0) ((i : Int), (rowAt w i, (x.1, (x.2, ())))) (rowAt w i)) ((i : Int), (rowAt w i, ())) = _ from inner_eq h j1 j2 j3 j4, oj_inl]
      have sr := sample_round (σ' := (Int × (LStr × (LI × (List LStr × Unit)))) ⊕ (LI × (List LStr × Int))) h hk (wantS false) j1 j2 hb j3 j4 x hI
      exact sr
     ·show ((if smp w k (wantS false) (tAt w i) = true then (x.1 ++ [tAt w i], x.2 ++ [rowV w (tAt w i - 1)]) else x)).1.length ≤ j ∧ _
      split
      ·simp; omega
      ·exact ⟨by omega, by omega⟩)
    (fun x hI => by
     unfold F_vcd_Sample_l2
     rw [lnl (by omega), br_f])
    ([], []) ⟨by simp, by simp⟩
   rw [show iterS (F_vcd_Sample_l2 w (k : Int) false (chk w) (rowAt w 0)) (0, (rowAt w 0, ([], ([], ())))) = _ from st.1, oj_inl, fold_smp]
   simp only [List.nil_append]; rfl
 ·rw [if_neg hc, show ne (chk w) 0 = true by simp [ne_def, hc], br_t]
theorem flat_take {α : Type} (a : List (List α)) (i : Nat) (hi : i < a.length) : (a.take i).flatten ++ a[i] = (a.take (i + 1)).flatten := by
 rw [← List.take_append_getElem hi, List.flatten_append, List.flatten_singleton]
theorem flat_le {α : Type} (a : List (List α)) (i : Nat) : (a.take i).flatten.length ≤ a.flatten.length := by
 conv => rhs; rw [← List.take_append_drop i a, List.flatten_append, List.length_append]
 omega
theorem F_slices_Concat_Change_Change_eq (a : List (List TChg)) (h : a.length ≤ 4000000000000) (h2 : a.flatten.length ≤ 4000000000000) : F_slices_Concat_Change_Change a = some a.flatten := by
 have l0 := iterS_upto (f := F_slices_Concat_Change_Change_l0 a) (fun i => ((i : Int), ((a.take i).flatten.length : Int), ())) a.length (r := .inl ((a.length : Int), (a.flatten.length : Int), ()))
  (fun i hi => by
   have e := flat_take a i hi
   have e2 := flat_le a (i + 1)
   have e3 := congrArg List.length e
   rw [List.length_append] at e3
   simp only [F_slices_Concat_Change_Change_l0, br_def, lt_def, ni_def, len_def, ix_def, tn_nat, rd_lt hi, decide_eq_true_eq, ad_def]
   rw [if_pos (by omega), if_pos (by omega), wr64 (by omega) (by omega), if_neg (by omega), wr64 (by omega) (by omega), ← e3]; rfl)
  (by simp [F_slices_Concat_Change_Change_l0])
 have l1 : ∀ y0, iterS (F_slices_Concat_Change_Change_l1 a y0) (0, ([], ())) = some (.inl ((a.length : Int), a.flatten, ())) := fun y0 => by
  have := iterS_upto (f := F_slices_Concat_Change_Change_l1 a y0) (fun i => ((i : Int), (a.take i).flatten, ())) a.length (r := .inl ((a.length : Int), a.flatten, ()))
   (fun i hi => by
    have e := flat_take a i hi
    have e2 := flat_le a (i + 1)
    have e3 := congrArg List.length e
    rw [List.length_append] at e3
    simp only [F_slices_Concat_Change_Change_l1, br_def, lt_def, ni_def, len_def, ix_def, tn_nat, rd_lt hi, decide_eq_true_eq, ad_def, fits_def, app_def]
    rw [if_pos (by omega), if_pos (by omega), if_pos (by omega), wr64 (by omega) (by omega), e]; rfl)
   (by simp [F_slices_Concat_Change_Change_l1])
  simpa using this
 have l2 : ∀ y0, iterS (F_slices_Concat_Change_Change_l2 a y0) (0, ([], ())) = some (.inl ((a.length : Int), a.flatten, ())) := l1
 unfold F_slices_Concat_Change_Change
 rw [show ((0 : Int), ((0 : Int), ())) = (((0 : Nat) : Int), ((a.take 0).flatten.length : Int), ()) by simp, l0, oj_inl]
 simp only [br_def, lt_def, sb_def, ni_def, len_def, rept_def, cut_def, rg_def, fits_def, decide_eq_true_eq]
 rw [if_neg (by omega), show wr .i64 (0 - ((0 : Nat) : Int)) = 0 from wr64 (by decide) (by decide), wr64 (by omega) (by omega)]
 by_cases h0 : a.flatten.length = 0
 ·rw [if_neg (by omega), l2]
 ·have e : tn ((a.flatten.length : Int) - 0) = a.flatten.length := by
   show Int.toNat _ = _
   omega
  rw [if_pos (by omega), if_pos (by omega), e, if_pos (by omega), if_pos (by simp)]
  rw [show tn (((0 : Nat) : Int)) = 0 from rfl, List.take_zero, l1]
def fd : List TChg → List TChg → Int × (Int × (Bool × Int))
 | c :: x, d :: y => if c = d then fd x y else if d.1 < c.1 ∨ (d.1 = c.1 ∧ d.2.1 < c.2.1) then (d.1, (d.2.1, (true, 0))) else (c.1, (c.2.1, (true, 0)))
 | [], [] => (0, (0, (false, 0)))
 | c :: _, [] => (c.1, (c.2.1, (true, 0)))
 | [], d :: _ => (d.1, (d.2.1, (true, 0)))
def cp : List TChg → List TChg → Nat
 | c :: x, d :: y => if c = d then cp x y + 1 else 0
 | _, _ => 0
theorem cp_spec : ∀ (x y : List TChg), cp x y ≤ x.length ∧ cp x y ≤ y.length ∧ (∀ i, i < cp x y → x.getD i d0 = y.getD i d0) ∧ (cp x y < x.length → cp x y < y.length → x.getD (cp x y) d0 ≠ y.getD (cp x y) d0) ∧ fd x y = fd (x.drop (cp x y)) (y.drop (cp x y)) := by
 intro x
 induction x with
 | nil => intro y; cases y <;> simp [cp]
 | cons c x ih =>
  intro y
  cases y with
  | nil => simp [cp]
  | cons d y =>
   unfold cp
   by_cases e : c = d
   ·rw [if_pos e]
    subst e
    obtain ⟨h1, h2, h3, h4, h5⟩ := ih y
    refine ⟨by simp; omega, by simp; omega, fun i hi => ?_, fun a b => ?_, ?_⟩
    ·cases i with
     | zero => rfl
     | succ i => simpa using h3 i (by omega)
    ·simp at a b
     simpa using h4 a b
    ·rw [fd, if_pos rfl, h5]; rfl
   ·rw [if_neg e]
    exact ⟨Nat.zero_le _, Nat.zero_le _, fun i hi => absurd hi (Nat.not_lt_zero _), fun _ _ => by simpa using e, rfl⟩
theorem chg_eq (c d : TChg) : ba (eq c.1 d.1) (ba (eq c.2.1 d.2.1) (sq c.2.2 d.2.2)) = decide (c = d) := by
 obtain ⟨a, b, s⟩ := c
 obtain ⟨a', b', s'⟩ := d
 simp only [ba_def, eq_def, sq, Prod.mk.injEq]
 by_cases h1 : a = a' <;> by_cases h2 : b = b' <;> by_cases h3 : s = s' <;> simp [h1, h2, h3]
theorem cut1 {α : Type} (x : List α) (p : Nat) (hp : p ≤ x.length) (hl : x.length ≤ 4000000000000) : rg (p : Int) (mn (wr .i64 (ad (p : Int) 1)) (ni (len x))) (ni (len x)) = true ∧
  TM.cut x (tn (p : Int)) (nsub (tn (mn (wr .i64 (ad (p : Int) 1)) (ni (len x)))) (tn (p : Int))) = (x.drop p).take 1 := by
 rw [wr64 (by simp only [ad_def]; omega) (by simp only [ad_def]; omega), mn_def, ad_def]
 simp only [ni_def, len_def]
 by_cases q : (x.length : Int) < (p : Int) + 1
 ·have e : p = x.length := by omega
  rw [if_pos q]
  refine ⟨by rw [rg_def]; simp only [decide_eq_true_eq]; omega, ?_⟩
  rw [tn_nat, tn_nat, cut_def, nsub_def, e]; simp
 ·rw [if_neg q]
  refine ⟨by rw [rg_def]; simp only [decide_eq_true_eq]; omega, ?_⟩
  rw [show tn ((p : Int) + 1) = p + 1 by rw [tn_def]; omega, tn_nat, cut_def, nsub_def, show p + 1 - p = 1 by omega]
theorem fd_heads (X Y z : List TChg) (hz : z = X.take 1 ++ Y.take 1) (h : ∀ c x d y, X = c :: x → Y = d :: y → c ≠ d) : (br (eq (ni (len z)) 0) (some ((0 : Int), ((0 : Int), (false, (0 : Int))))) (br (ix 0 (ni (len z))) (br (ix (wr .i64 (sb (ni (len z)) 1)) (ni (len z)))
  (br (lt (rd z (tn (wr .i64 (sb (ni (len z)) 1))) d0).1 (rd z (tn 0) (0, (0, []))).1) (some ((rd z (tn (wr .i64 (sb (ni (len z)) 1))) d0).1, ((rd z (tn (wr .i64 (sb (ni (len z)) 1))) d0).2.1, (true, 0))))
   (br (eq (rd z (tn (wr .i64 (sb (ni (len z)) 1))) d0).1 (rd z (tn 0) (0, (0, []))).1) (br (lt (rd z (tn (wr .i64 (sb (ni (len z)) 1))) d0).2.1 (rd z (tn 0) (0, (0, []))).2.1)
    (some ((rd z (tn (wr .i64 (sb (ni (len z)) 1))) d0).1, ((rd z (tn (wr .i64 (sb (ni (len z)) 1))) d0).2.1, (true, 0)))) (some ((rd z (tn 0) (0, (0, []))).1, ((rd z (tn 0) (0, (0, []))).2.1, (true, 0)))))
    (some ((rd z (tn 0) (0, (0, []))).1, ((rd z (tn 0) (0, (0, []))).2.1, (true, 0)))))) none) none)) = some (fd X Y) := by
 subst hz
 have z1 : wr .i64 (sb (1 : Int) 1) = 0 := wr64 (by decide) (by decide)
 have z2 : wr .i64 (sb (2 : Int) 1) = 1 := wr64 (by decide) (by decide)
 cases X with
 | nil =>
  cases Y with
  | nil => rfl
  | cons d y =>
   show br (eq 1 0) _ (br (ix 0 1) (br (ix (wr .i64 (sb (1 : Int) 1)) 1) (br (lt (rd [d] (tn (wr .i64 (sb (1 : Int) 1))) (0, (0, []))).1 d.1) (some ((rd [d] (tn (wr .i64 (sb (1 : Int) 1))) (0, (0, []))).1, _)) _) none) none) = _
   rw [z1, show ix 0 1 = true from rfl, show eq 1 0 = false from rfl, br_f, br_t, br_t, show tn 0 = 0 from rfl]
   rw [show lt (rd [d] 0 d0).1 d.1 = false from decide_eq_false (by show ¬ d.1 < d.1; omega), br_f]
   show br (eq (rd [d] (tn (wr .i64 (sb (1 : Int) 1))) (0, (0, []))).1 d.1) (br (lt (rd [d] (tn (wr .i64 (sb (1 : Int) 1))) (0, (0, []))).2.1 d.2.1) _ (some (d.1, (d.2.1, (true, 0))))) (some (d.1, (d.2.1, (true, 0)))) = _
   rw [z1, show tn 0 = 0 from rfl, show lt (rd [d] 0 d0).2.1 d.2.1 = false from decide_eq_false (by show ¬ d.2.1 < d.2.1; omega), br_f]
   cases eq (rd [d] 0 d0).1 d.1 <;> rfl
 | cons c x =>
  cases Y with
  | nil =>
   show br (eq 1 0) _ (br (ix 0 1) (br (ix (wr .i64 (sb (1 : Int) 1)) 1) (br (lt (rd [c] (tn (wr .i64 (sb (1 : Int) 1))) (0, (0, []))).1 c.1) (some ((rd [c] (tn (wr .i64 (sb (1 : Int) 1))) (0, (0, []))).1, _)) _) none) none) = _
   rw [z1, show ix 0 1 = true from rfl, show eq 1 0 = false from rfl, br_f, br_t, br_t, show tn 0 = 0 from rfl]
   rw [show lt (rd [c] 0 d0).1 c.1 = false from decide_eq_false (by show ¬ c.1 < c.1; omega), br_f]
   show br (eq (rd [c] (tn (wr .i64 (sb (1 : Int) 1))) (0, (0, []))).1 c.1) (br (lt (rd [c] (tn (wr .i64 (sb (1 : Int) 1))) (0, (0, []))).2.1 c.2.1) _ (some (c.1, (c.2.1, (true, 0))))) (some (c.1, (c.2.1, (true, 0)))) = _
   rw [z1, show tn 0 = 0 from rfl, show lt (rd [c] 0 d0).2.1 c.2.1 = false from decide_eq_false (by show ¬ c.2.1 < c.2.1; omega), br_f]
   cases eq (rd [c] 0 d0).1 c.1 <;> rfl
  | cons d y =>
   have hne := h c x d y rfl rfl
   have hl : (wr .i64 (sb (ni (len ((c :: x).take 1 ++ (d :: y).take 1))) 1)) = 1 := z2
   have hn : ni (len ((c :: x).take 1 ++ (d :: y).take 1)) = 2 := rfl
   have r1 : rd ((c :: x).take 1 ++ (d :: y).take 1) (tn 1) d0 = d := rfl
   have r0 : rd ((c :: x).take 1 ++ (d :: y).take 1) (tn 0) d0 = c := rfl
   rw [hl, hn, r1, r0, show ix 0 2 = true from rfl, show ix 1 2 = true from rfl, show eq 2 0 = false from rfl, br_f, br_t, br_t, fd, if_neg hne]
   by_cases q1 : d.1 < c.1
   ·rw [ltp q1, br_t, if_pos (.inl q1)]
   ·rw [ltn q1, br_f]
    by_cases q2 : d.1 = c.1
    ·rw [show eq d.1 c.1 = true from decide_eq_true q2, br_t]
     by_cases q3 : d.2.1 < c.2.1
     ·rw [ltp q3, br_t, if_pos (.inr ⟨q2, q3⟩)]
     ·rw [ltn q3, br_f, if_neg (by omega)]
    ·rw [show eq d.1 c.1 = false from decide_eq_false q2, br_f, if_neg (by omega)]
theorem diff1 (a b : TVar) (h : a.1.length ≤ 9000000000000 ∨ b.1.length ≤ 9000000000000) : F_vcd_Diff_1 a b = some (decide (a = b)) := by
 unfold F_vcd_Diff_1
 rw [show F_vcd_same (a.1, (a.2.1, a.2.2)) (b.1, (b.2.1, b.2.2)) = some (sameB a b) from same_eq a b h, ob_some]
 obtain ⟨s, n, k⟩ := a
 obtain ⟨s', n', k'⟩ := b
 unfold sameB
 simp only [br_def, eq_def, decide_eq_true_eq, Prod.mk.injEq]
 by_cases h1 : n = n' <;> by_cases h2 : s = s' <;> simp [h1, h2]
theorem nf_len {w : TWave} (h : Good w) : (NF w).length ≤ 2000000 := by
 have hnv := h.nv
 have hnc := h.nc
 have hd : ∀ T, (diffs w T).length ≤ 256 := fun T => Nat.le_trans (List.length_filterMap_le ..) (by simpa using hnv)
 have hl : ∀ (l : List Int) (x : List TChg), (l.foldl (fun x T => x ++ diffs w T) x).length ≤ x.length + l.length * 256 := by
  intro l
  induction l with
  | nil => intro x; simp
  | cons T l ih =>
   intro x
   have h1 := ih (x ++ diffs w T)
   have h2 := hd T
   rw [List.length_append] at h1
   simp only [List.foldl_cons, List.length_cons]
   omega
 have h1 := hl (tms w.2.2 w.2.2.length) []
 have h2 : (tms w.2.2 w.2.2.length).length ≤ 4096 := Nat.le_trans (List.length_filterMap_le ..) (by simpa using hnc)
 unfold NF
 simp only [List.length_nil] at h1
 omega
theorem diff_eq (a b : TWave) (ha : WfT .str a.1) (hb : WfT .str b.1) : F_vcd_Diff a b = some (if chk a = 0 then if chk b = 0 then if a.1 = b.1 ∧ a.2.1 = b.2.1 then fd (NF a) (NF b) else (0, (0, (false, 12))) else (0, (0, (false, chk b))) else (0, (0, (false, chk a)))) := by
 unfold F_vcd_Diff
 rw [show F_vcd_Normal (a.1, (a.2.1, a.2.2)) = _ from normal_eq a ha, ob_some]
 by_cases hc : chk a = 0
 ·rw [if_pos hc, if_pos hc, show ne (((a.1, (a.2.1, NF a)), (0 : Int)) : TWave × Int).2 0 = false from rfl, br_f, show F_vcd_Normal (b.1, (b.2.1, b.2.2)) = _ from normal_eq b hb, ob_some]
  by_cases hd : chk b = 0
  ·rw [if_pos hd, if_pos hd, show ne (((b.1, (b.2.1, NF b)), (0 : Int)) : TWave × Int).2 0 = false from rfl, br_f]
   have ga := chk_zero.1 hc
   have gb := chk_zero.1 hd
   have na := ga.nv
   have nb := gb.nv
   simp only
   by_cases e1 : a.1 = b.1
   ·rw [show nt (sq a.1 b.1) = false by simp [nt_def, sq, e1], br_f]
    by_cases e2 : a.2.1.length = b.2.1.length
    ·rw [show ne (ni (len a.2.1)) (ni (len b.2.1)) = false from decide_eq_false (by simp only [ni_def, len_def, ne_eq]; omega), br_f]
     have l := iterS_findR (f := F_vcd_Diff_l0 a b ((a.1, (a.2.1, NF a)), 0) ((b.1, (b.2.1, NF b)), 0)) a.2.1.length (fun i => ((i : Int), ())) (fun i => if decide (a.2.1.getD i v0 = b.2.1.getD i v0) = true then none else some ()) (.inl ((a.2.1.length : Int), ())) (fun _ => .inr (0, (0, (false, 12))))
      (fun i hi => by
       have hs := (vErr_zero (ga.var i hi)).2.2.1
       unfold F_vcd_Diff_l0
       simp only [tn_nat]
       rw [show F_vcd_Diff_1 ((rd a.2.1 i v0).1, ((rd a.2.1 i v0).2.1, (rd a.2.1 i v0).2.2)) ((rd b.2.1 i v0).1, ((rd b.2.1 i v0).2.1, (rd b.2.1 i v0).2.2)) = _ from
        diff1 (a.2.1.getD i v0) (b.2.1.getD i v0) (.inl (by omega)), ob_some, ltl (by omega), br_t, ixl (by omega), br_t, ixl (by omega), br_t, wra (by omega)]
       by_cases q : a.2.1.getD i v0 = b.2.1.getD i v0
       ·rw [decide_eq_true q, if_pos rfl]; rfl
       ·rw [decide_eq_false q, if_neg (by simp)]; rfl)
      (by
       unfold F_vcd_Diff_l0
       rw [ltn (by simp only [ni_def, len_def]; omega), br_f])
     rw [show iterS (F_vcd_Diff_l0 a b ((a.1, (a.2.1, NF a)), 0) ((b.1, (b.2.1, NF b)), 0)) (0, ()) = _ from l, find_all', eq_all _ _ _ e2]
     by_cases e3 : a.2.1 = b.2.1
     ·rw [if_pos (by simpa using e3), if_pos ⟨e1, e3⟩, Option.elim, oj_inl]
      obtain ⟨p1, p2, p3, p4, p5⟩ := cp_spec (NF a) (NF b)
      have la := nf_len ga
      have lb := nf_len gb
      have l1 := iterS_upto (f := F_vcd_Diff_l1 a b ((a.1, (a.2.1, NF a)), 0) ((b.1, (b.2.1, NF b)), 0) ((a.2.1.length : Int), ())) (fun i => ((i : Int), ())) (cp (NF a) (NF b)) (r := .inl (((cp (NF a) (NF b) : Nat) : Int), ()))
       (fun i hi => by
        unfold F_vcd_Diff_l1
        simp only [tn_nat]
        rw [chg_eq, show rd (NF a) i d0 = (NF a).getD i d0 from rfl, show rd (NF b) i d0 = (NF b).getD i d0 from rfl, ltl (by omega), br_t, ltl (by omega), br_t, ixl (by omega), br_t, ixl (by omega), br_t, wra (by omega), decide_eq_true (p3 i hi), br_t]; rfl)
       (by
        unfold F_vcd_Diff_l1
        simp only [tn_nat]
        by_cases q1 : cp (NF a) (NF b) < (NF a).length
        ·rw [ltl (by omega), br_t]
         by_cases q2 : cp (NF a) (NF b) < (NF b).length
         ·rw [chg_eq, show rd (NF a) (cp (NF a) (NF b)) d0 = (NF a).getD (cp (NF a) (NF b)) d0 from rfl, show rd (NF b) (cp (NF a) (NF b)) d0 = (NF b).getD (cp (NF a) (NF b)) d0 from rfl, ltl (by omega), br_t, ixl (by omega), br_t, ixl (by omega), br_t, decide_eq_false (p4 q1 q2), br_f]
         ·rw [lnl (by omega), br_f]
        ·rw [lnl (by omega), br_f])
      rw [show iterS (F_vcd_Diff_l1 a b ((a.1, (a.2.1, NF a)), 0) ((b.1, (b.2.1, NF b)), 0) ((a.2.1.length : Int), ())) (0, ()) = _ from l1, oj_inl]
      simp only
      obtain ⟨c1, c2⟩ := cut1 (NF a) (cp (NF a) (NF b)) p1 (by omega)
      obtain ⟨c3, c4⟩ := cut1 (NF b) (cp (NF a) (NF b)) p2 (by omega)
      rw [c1, br_t, c3, br_t, c2, c4, F_slices_Concat_Change_Change_eq _ (by simp) (by simp; omega), ob_some, p5]
      have ef : ([((NF a).drop (cp (NF a) (NF b))).take 1, ((NF b).drop (cp (NF a) (NF b))).take 1] : List (List TChg)).flatten = ((NF a).drop (cp (NF a) (NF b))).take 1 ++ ((NF b).drop (cp (NF a) (NF b))).take 1 := by simp
      rw [ef]
      refine fd_heads _ _ _ rfl fun c x d y hx hy => ?_
      have k1 : cp (NF a) (NF b) < (NF a).length := by have := congrArg List.length hx; simp at this; omega
      have k2 : cp (NF a) (NF b) < (NF b).length := by have := congrArg List.length hy; simp at this; omega
      have := p4 k1 k2
      rw [List.drop_eq_getElem_cons k1] at hx
      rw [List.drop_eq_getElem_cons k2] at hy
      rw [getD_lt k1, getD_lt k2] at this
      rwa [(List.cons.inj hx).1, (List.cons.inj hy).1] at this
     ·rw [if_neg (by simpa using e3), if_neg (fun q => e3 q.2), Option.elim, oj_inr]
    ·rw [show ne (ni (len a.2.1)) (ni (len b.2.1)) = true from decide_eq_true (by simp only [ni_def, len_def, ne_eq]; omega), br_t, if_neg fun q => e2 (by rw [q.2])]
   ·rw [show nt (sq a.1 b.1) = true by simp [nt_def, sq, e1], br_t, if_neg fun q => e1 q.1]
  ·rw [if_neg hd, if_neg hd, show ne ((([], ([], [])), chk b) : TWave × Int).2 0 = true from decide_eq_true hd, br_t]
 ·rw [if_neg hc, if_neg hc, show ne ((([], ([], [])), chk a) : TWave × Int).2 0 = true from decide_eq_true hc, br_t]
end Go.Proofs.YtgpligmjbecbjaaGreatDoor

namespace Go.AM.Wv
def lex (c d : Chg) : Prop := c.1 < d.1 ∨ (c.1 = d.1 ∧ c.2.1 < d.2.1)
theorem lex_as (a b : Chg) : lex a b → ¬ lex b a := by unfold lex; omega
def Lex (l : List Chg) : Prop := l.Pairwise lex
theorem Lex.sorted {l : List Chg} (h : Lex l) : Sorted l := h.imp fun q => by unfold lex at q; omega
theorem val_stillv (f : Nat → BS) (ch : List Chg) (v : Nat) (T : Int) (h : ∀ c ∈ ch, c.2.1 = (v : Int) → c.1 ≠ T) : val f ch v T = val f ch v (T - 1) := by
 unfold val
 generalize f v = s
 induction ch generalizing s with
 | nil => rfl
 | cons c r ih =>
  rw [List.foldl_cons, List.foldl_cons, ih (fun c hc => h c (List.mem_cons_of_mem _ hc))]
  congr 1
  have := h c (List.mem_cons_self ..)
  by_cases e : c.2.1 = (v : Int) ∧ c.1 ≤ T
  ·have := this e.1
   rw [if_pos e, if_pos ⟨e.1, by omega⟩]
  ·rw [if_neg e, if_neg fun q => e ⟨q.1, by omega⟩]
theorem val_keep (b : List Chg) (v : Nat) (T : Int) (s : BS) (h : ∀ c ∈ b, c.2.1 = (v : Int) → c.1 ≤ T → c.2.2 = s) : val (fun _ => s) b v T = s := by
 unfold val
 induction b with
 | nil => rfl
 | cons c r ih =>
  rw [List.foldl_cons]
  by_cases e : c.2.1 = (v : Int) ∧ c.1 ≤ T
  ·rw [if_pos e, h c (List.mem_cons_self ..) e.1 e.2]
   exact ih fun c hc => h c (List.mem_cons_of_mem _ hc)
  ·rw [if_neg e]
   exact ih fun c hc => h c (List.mem_cons_of_mem _ hc)
theorem val_hit (f : Nat → BS) {l r : List Chg} {c : Chg} {v : Nat} (hs : Lex (l ++ c :: r)) (hv : c.2.1 = (v : Int)) : val f (l ++ c :: r) v c.1 = c.2.2 := by
 have h2 := (List.pairwise_append.1 hs).2.1
 have h3 := List.pairwise_cons.1 h2
 rw [show l ++ c :: r = (l ++ [c]) ++ r by simp, val_append]
 have e : val f (l ++ [c]) v c.1 = c.2.2 := by
  unfold val
  rw [List.foldl_append, List.foldl_cons, if_pos ⟨hv, Int.le_refl _⟩]; rfl
 rw [e]
 refine val_keep r v c.1 c.2.2 fun d hd hdv hdt => ?_
 have := h3.1 d hd
 unfold lex at this
 omega
def Real (f : Nat → BS) (X : List Chg) : Prop := ∀ c ∈ X, ∀ v : Nat, c.2.1 = (v : Int) → c.2.2 ≠ val f X v (c.1 - 1)
theorem val_pre (f : Nat → BS) (P x : List Chg) (k : Nat) (T : Int) (h : ∀ c ∈ x, c.2.1 = (k : Int) → T < c.1) : val f (P ++ x) k T = val f P k T := by
 rw [val_append]; exact val_late (fun _ => val f P k T) x k T h
theorem side (f : Nat → BS) {P x Y' : List Chg} {c : Chg} (hX : Lex (P ++ c :: x)) (hY : ∀ d ∈ Y', ¬ lex d c) (T : Int) (k : Nat) (hk : T < c.1 ∨ (T = c.1 ∧ (k : Int) < c.2.1)) : val f (P ++ c :: x) k T = val f (P ++ Y') k T := by
 have h2 := (List.pairwise_append.1 hX).2.1
 have h3 := List.pairwise_cons.1 h2
 rw [val_pre, val_pre]
 ·intro d hd hv
  have := hY d hd
  unfold lex at this
  omega
 ·intro d hd hv
  rcases List.mem_cons.1 hd with rfl | hd
  ·omega
  ·have := h3.1 d hd
   unfold lex at this
   omega
theorem hit (f : Nat → BS) {P x Y' : List Chg} {c : Chg} {v : Nat} (hX : Lex (P ++ c :: x)) (hr : Real f (P ++ c :: x)) (hv : c.2.1 = (v : Int)) (hY : ∀ d ∈ Y', lex c d) : val f (P ++ c :: x) v c.1 ≠ val f (P ++ Y') v c.1 := by
 have h1 := List.pairwise_append.1 hX
 have h3 := List.pairwise_cons.1 h1.2.1
 rw [val_hit f hX hv]
 have e := hr c (by simp) v hv
 have e1 : val f (P ++ c :: x) v (c.1 - 1) = val f P v (c.1 - 1) := val_pre _ _ _ _ _ fun d hd hdv => by
  rcases List.mem_cons.1 hd with rfl | hd
  ·omega
  ·have := h3.1 d hd
   unfold lex at this
   omega
 have e2 : val f (P ++ Y') v c.1 = val f P v c.1 := val_pre _ _ _ _ _ fun d hd hdv => by
  have := hY d hd
  unfold lex at this
  omega
 have e3 : val f P v c.1 = val f P v (c.1 - 1) := val_stillv _ _ _ _ fun d hd hdv q => by
  have := h1.2.2 d hd c (by simp)
  unfold lex at this
  omega
 rw [e2, e3, ← e1]
 exact e
theorem hit2 (f : Nat → BS) {P x y : List Chg} {c d : Chg} {v : Nat} (hX : Lex (P ++ c :: x)) (hY : Lex (P ++ d :: y)) (hv : c.2.1 = (v : Int)) (h1 : c.1 = d.1) (h2 : c.2.1 = d.2.1) (h3 : c ≠ d) : val f (P ++ c :: x) v c.1 ≠ val f (P ++ d :: y) v c.1 := by
 rw [val_hit f hX hv, h1, val_hit f hY (h2 ▸ hv)]
 intro e
 exact h3 (by obtain ⟨a, b, s⟩ := c; obtain ⟨a', b', s'⟩ := d; simp_all)
end Go.AM.Wv

open Go Go.AM Go.TM Go.AM.Wv
namespace Go.Proofs.YtgpligmjbecbjaaGreatDoor
abbrev times (w : TWave) : List Int := tms w.2.2 w.2.2.length
theorem times_mem {w : TWave} (h : Good w) (T : Int) : T ∈ times w ↔ ∃ c ∈ w.2.2, c.1 = T := by
 rw [(tms_mem h.sorted _ (Nat.le_refl _)).2, List.take_length]
theorem times_sorted {w : TWave} (h : Good w) : (times w).Pairwise (· < ·) := (tms_mem h.sorted _ (Nat.le_refl _)).1
theorem times_of {w : TWave} (h : Good w) {v : Nat} {T : Int} (hne : valW w v T ≠ valW w v (T - 1)) : T ∈ times w := by
 rw [times_mem h]
 exact Decidable.byContradiction fun q => hne (val_still _ _ _ _ fun c hc e => q ⟨c, hc, e⟩)
theorem NF_flat (w : TWave) : NF w = (times w).flatMap (diffs w) := by
 unfold NF
 have : ∀ (l : List Int) (x : List TChg), l.foldl (fun x T => x ++ diffs w T) x = x ++ l.flatMap (diffs w) := by
  intro l
  induction l with
  | nil => intro x; simp
  | cons T l ih => intro x; rw [List.foldl_cons, ih, List.flatMap_cons, List.append_assoc]
 rw [this]; rfl
theorem diffs_mem {w : TWave} {T : Int} {c : TChg} : c ∈ diffs w T ↔ ∃ v, v < w.2.1.length ∧ valW w v T ≠ valW w v (T - 1) ∧ c = (T, ((v : Int), valW w v T)) := by
 unfold diffs
 rw [List.mem_filterMap]
 constructor
 ·rintro ⟨v, hv, he⟩
  unfold dif at he
  split at he
  ·cases he
  ·exact ⟨v, List.mem_range.1 hv, by assumption, (Option.some.inj he).symm⟩
 ·rintro ⟨v, hv, hne, rfl⟩
  exact ⟨v, List.mem_range.2 hv, by unfold dif; rw [if_neg hne]⟩
theorem NF_mem {w : TWave} (h : Good w) {c : TChg} : c ∈ NF w ↔ ∃ (T : Int) (v : Nat), v < w.2.1.length ∧ valW w v T ≠ valW w v (T - 1) ∧ c = (T, ((v : Int), valW w v T)) := by
 rw [NF_flat, List.mem_flatMap]
 constructor
 ·rintro ⟨T, hT, hc⟩
  obtain ⟨v, h1, h2, h3⟩ := diffs_mem.1 hc
  exact ⟨T, v, h1, h2, h3⟩
 ·rintro ⟨T, v, h1, h2, h3⟩
  exact ⟨T, times_of h h2, diffs_mem.2 ⟨v, h1, h2, h3⟩⟩
theorem diffs_lex (w : TWave) (T : Int) : (diffs w T).Pairwise lex := by
 unfold diffs
 rw [List.pairwise_filterMap]
 refine List.Pairwise.imp (R := (· < ·)) ?_ List.pairwise_lt_range
 intro a b hab c hc d hd
 unfold dif at hc hd
 split at hc
 ·cases hc
 split at hd
 ·cases hd
 cases hc
 cases hd
 exact .inr ⟨rfl, by show (a : Int) < b; omega⟩
theorem NF_lex {w : TWave} (h : Good w) : Lex (NF w) := by
 unfold Lex
 rw [NF_flat, List.pairwise_flatMap]
 refine ⟨fun T _ => diffs_lex w T, (times_sorted h).imp fun {T U} hTU c hc d hd => ?_⟩
 obtain ⟨v, -, -, rfl⟩ := diffs_mem.1 hc
 obtain ⟨u, -, -, rfl⟩ := diffs_mem.1 hd
 exact .inl hTU
theorem valW_neg {w : TWave} (h : Good w) {v : Nat} {T : Int} (hT : T < 0) : valW w v T = fillS w v := val_late _ _ _ _ fun c hc _ => by
 obtain ⟨i, hi, rfl⟩ := List.getElem_of_mem hc
 have := (h.time hi).1
 unfold tAt at this
 rw [getD_lt hi] at this
 omega
theorem NF_val {w : TWave} (h : Good w) {v : Nat} (hv : v < w.2.1.length) : ∀ T : Int, val (fillS w) (NF w) v T = valW w v T := by
 have neg : ∀ T : Int, T < 0 → val (fillS w) (NF w) v T = valW w v T := fun T hT => by
  rw [valW_neg h hT]
  refine val_late _ _ _ _ fun c hc _ => ?_
  obtain ⟨T', v', h1, h2, rfl⟩ := (NF_mem h).1 hc
  obtain ⟨d, hd, e⟩ := (times_mem h T').1 (times_of h h2)
  obtain ⟨i, hi, rfl⟩ := List.getElem_of_mem hd
  have := (h.time hi).1
  unfold tAt at this
  rw [getD_lt hi] at this
  show T < T'
  omega
 have key : ∀ n : Nat, val (fillS w) (NF w) v ((n : Int) - 1) = valW w v ((n : Int) - 1) := by
  intro n
  induction n with
  | zero => exact neg _ (by omega)
  | succ n ih =>
   rw [show ((n + 1 : Nat) : Int) - 1 = (n : Int) by omega]
   by_cases q : valW w v (n : Int) = valW w v ((n : Int) - 1)
   ·rw [q, ← ih]
    refine val_stillv _ _ _ _ fun c hc hcv e => ?_
    obtain ⟨T', v', h1, h2, rfl⟩ := (NF_mem h).1 hc
    have e1 : v' = v := by have : (v' : Int) = v := hcv; omega
    have e2 : T' = (n : Int) := e
    subst e1; subst e2
    exact h2 q
   ·have hc : (((n : Int), ((v : Int), valW w v (n : Int))) : TChg) ∈ NF w := (NF_mem h).2 ⟨_, v, hv, q, rfl⟩
    obtain ⟨l, r, e⟩ := List.append_of_mem hc
    have hl := NF_lex h
    rw [e] at hl ⊢
    exact val_hit (fillS w) hl rfl
 intro T
 by_cases q : T < 0
 ·exact neg T q
 ·have := key (T + 1).toNat
  rwa [show (((T + 1).toNat : Nat) : Int) - 1 = T by omega] at this
theorem fill_vars {a b : TWave} (e : a.2.1 = b.2.1) : fillS a = fillS b := by funext v; unfold fillS; rw [e]
theorem NF_inj {a b : TWave} (ga : Good a) (gb : Good b) (e : a.2.1 = b.2.1) : NF a = NF b ↔ ∀ v, v < a.2.1.length → ∀ T, valW a v T = valW b v T := by
 constructor
 ·intro h v hv T
  rw [← NF_val ga hv, ← NF_val gb (e ▸ hv), h, fill_vars e]
 ·intro h
  refine sorted_eq lex lex_as _ _ (NF_lex ga) (NF_lex gb) fun c => ?_
  rw [NF_mem ga, NF_mem gb]
  constructor
  ·rintro ⟨T, v, h1, h2, h3⟩
   exact ⟨T, v, e ▸ h1, by rwa [← h v h1, ← h v h1], by rw [h3, h v h1]⟩
  ·rintro ⟨T, v, h1, h2, h3⟩
   have h1' : v < a.2.1.length := by rw [e]; exact h1
   exact ⟨T, v, h1', by rwa [h v h1', h v h1'], by rw [h3, h v h1']⟩
theorem NF_real {w : TWave} (h : Good w) : Real (fillS w) (NF w) := fun c hc v hv => by
 obtain ⟨T', v', h1, h2, rfl⟩ := (NF_mem h).1 hc
 have e1 : v' = v := by have : (v' : Int) = v := hv; omega
 subst e1
 rw [NF_val h h1]
 exact h2
structure Dif (a b : TWave) (t : Int) (k : Nat) : Prop where
 lt : k < a.2.1.length
 ne : valW a k t ≠ valW b k t
 first : ∀ (T : Int) (k' : Nat), k' < a.2.1.length → T < t ∨ (T = t ∧ k' < k) → valW a k' T = valW b k' T
 time : t ∈ times a ∨ t ∈ times b
theorem Dif.symm {a b : TWave} (e : a.2.1 = b.2.1) {t : Int} {k : Nat} (h : Dif a b t k) : Dif b a t k :=
 ⟨e ▸ h.lt, fun q => h.ne q.symm, fun T k' hk' hT => (h.first T k' (e ▸ hk') hT).symm, h.time.symm⟩
theorem fd_spec {a b : TWave} (ga : Good a) (gb : Good b) (e : a.2.1 = b.2.1) : (NF a = NF b ∧ fd (NF a) (NF b) = (0, (0, (false, 0)))) ∨ ∃ t k, Dif a b t k ∧ fd (NF a) (NF b) = (t, ((k : Int), (true, 0))) := by
 have key : ∀ (X Y P : List TChg) (A B : TWave), Good A → Good B → A.2.1 = B.2.1 → NF A = P ++ X → NF B = P ++ Y → (X = Y ∧ fd X Y = (0, (0, (false, 0)))) ∨ ∃ t k, Dif A B t k ∧ fd X Y = (t, ((k : Int), (true, 0))) := by
  have one : ∀ (A B : TWave) (P x Y' : List TChg) (c : TChg), Good A → Good B → A.2.1 = B.2.1 → NF A = P ++ c :: x → NF B = P ++ Y' → (∀ d ∈ Y', lex c d) → ∃ k : Nat, c.2.1 = (k : Int) ∧ Dif A B c.1 k := by
   intro A B P x Y' c gA gB e hA hB hY
   obtain ⟨T, v, h1, h2, h3⟩ := (NF_mem gA).1 (show c ∈ NF A by rw [hA]; simp)
   subst h3
   have hlA := NF_lex gA
   have hlB := NF_lex gB
   have hrA := NF_real gA
   rw [hA] at hlA hrA
   have ef := fill_vars e
   refine ⟨v, rfl, h1, ?_, fun T' k' hk' hT' => ?_, .inl (times_of gA h2)⟩
   ·rw [← NF_val gA h1, ← NF_val gB (e ▸ h1), ← ef, hA, hB]
    exact hit (fillS A) hlA hrA rfl hY
   ·rw [← NF_val gA hk', ← NF_val gB (e ▸ hk'), ← ef, hA, hB]
    refine side (fillS A) hlA (fun d hd => lex_as _ _ (hY d hd)) T' k' ?_
    rcases hT' with q | ⟨q1, q2⟩
    ·exact .inl q
    ·exact .inr ⟨q1, by show (k' : Int) < v; omega⟩
  intro X
  induction X with
  | nil =>
   intro Y P A B gA gB e hA hB
   cases Y with
   | nil => exact .inl ⟨rfl, rfl⟩
   | cons d y =>
    obtain ⟨k, q1, q2⟩ := one B A P y [] d gB gA e.symm hB hA (fun d hd => by cases hd)
    exact .inr ⟨d.1, k, q2.symm e.symm, by rw [fd, q1]⟩
  | cons c x ih =>
   intro Y P A B gA gB e hA hB
   cases Y with
   | nil =>
    obtain ⟨k, q1, q2⟩ := one A B P x [] c gA gB e hA hB (fun d hd => by cases hd)
    exact .inr ⟨c.1, k, q2, by rw [fd, q1]⟩
   | cons d y =>
    rw [fd]
    by_cases hcd : c = d
    ·rw [if_pos hcd]
     subst hcd
     rcases ih y (P ++ [c]) A B gA gB e (by rw [hA]; simp) (by rw [hB]; simp) with ⟨q1, q2⟩ | ⟨t, k, q1, q2⟩
     ·exact .inl ⟨by rw [q1], q2⟩
     ·exact .inr ⟨t, k, q1, q2⟩
    ·rw [if_neg hcd]
     have hlA := NF_lex gA
     have hlB := NF_lex gB
     rw [hA] at hlA
     rw [hB] at hlB
     have pA := List.pairwise_cons.1 (List.pairwise_append.1 hlA).2.1
     have pB := List.pairwise_cons.1 (List.pairwise_append.1 hlB).2.1
     by_cases q : d.1 < c.1 ∨ (d.1 = c.1 ∧ d.2.1 < c.2.1)
     ·rw [if_pos q]
      obtain ⟨k, q1, q2⟩ := one B A P y (c :: x) d gB gA e.symm hB hA fun d' hd' => by
       rcases List.mem_cons.1 hd' with rfl | hd'
       ·exact q
       ·have := pA.1 d' hd'
        unfold lex at *
        omega
      exact .inr ⟨d.1, k, q2.symm e.symm, by rw [q1]⟩
     ·rw [if_neg q]
      by_cases q' : c.1 < d.1 ∨ (c.1 = d.1 ∧ c.2.1 < d.2.1)
      ·obtain ⟨k, q1, q2⟩ := one A B P x (d :: y) c gA gB e hA hB fun d' hd' => by
        rcases List.mem_cons.1 hd' with rfl | hd'
        ·exact q'
        ·have := pB.1 d' hd'
         unfold lex at *
         omega
       exact .inr ⟨c.1, k, q2, by rw [q1]⟩
      ·have k1 : c.1 = d.1 := by omega
       have k2 : c.2.1 = d.2.1 := by omega
       obtain ⟨T, v, h1, h2, h3⟩ := (NF_mem gA).1 (show c ∈ NF A by rw [hA]; simp)
       have hv : c.2.1 = (v : Int) := by rw [h3]
       have ht : c.1 = T := by rw [h3]
       have ef := fill_vars e
       refine .inr ⟨c.1, v, ⟨h1, ?_, fun T' k' hk' hT' => ?_, .inl (by rw [ht]; exact times_of gA h2)⟩, by rw [hv]⟩
       ·rw [← NF_val gA h1, ← NF_val gB (e ▸ h1), ← ef, hA, hB]
        exact hit2 (fillS A) hlA hlB hv k1 k2 hcd
       ·rw [← NF_val gA hk', ← NF_val gB (e ▸ hk'), ← ef, hA, hB]
        refine side (fillS A) hlA (fun d' hd' => ?_) T' k' ?_
        ·rcases List.mem_cons.1 hd' with rfl | hd'
         ·exact q
         ·have := pB.1 d' hd'
          unfold lex at *
          omega
        ·rcases hT' with q | ⟨q1, q2⟩
         ·exact .inl q
         ·exact .inr ⟨q1, by omega⟩
 exact key (NF a) (NF b) [] a b ga gb e rfl rfl
def fewV (v : TVar) : TVar := (v.1.take 10, v.2)
def few (w : TWave) : TWave := (w.1, ((w.2.1.take 40).map fewV, w.2.2.take 120))
theorem take_min {α : Type} (l : List α) (n : Nat) : TM.cut l 0 (tn (mn (ni (len l)) (n : Int))) = l.take n ∧ rg 0 (mn (ni (len l)) (n : Int)) (ni (len l)) = true := by
 simp only [cut_def, mn_def, ni_def, len_def, rg_def, decide_eq_true_eq, List.drop_zero, tn_def]
 by_cases h : (n : Int) < (l.length : Int)
 ·rw [if_pos h]
  exact ⟨by rw [Int.toNat_natCast], by omega⟩
 ·rw [if_neg h]
  exact ⟨by rw [Int.toNat_natCast, List.take_of_length_le (Nat.le_refl _), List.take_of_length_le (by omega)], by omega⟩
theorem few_vars (w : TWave) : iterS (F_r19_Few_l0 w) (0, ([], ())) = some (.inl (((w.2.1.take 40).length : Int), ((w.2.1.take 40).map fewV, ()))) := by
 have l := iterS_upto (f := F_r19_Few_l0 w) (fun i => ((i : Int), (((w.2.1.take i)).map fewV, ()))) (w.2.1.take 40).length (r := .inl (((w.2.1.take 40).length : Int), ((w.2.1.take 40).map fewV, ())))
  (fun i hi => by
   have hi2 : i < 40 ∧ i < w.2.1.length := by rw [List.length_take] at hi; omega
   unfold F_r19_Few_l0
   simp only [tn_nat]
   obtain ⟨t1, t2⟩ := take_min (rd w.2.1 i v0).1 10
   rw [show ((10 : Nat) : Int) = 10 from rfl] at t1 t2
   rw [t1, t2, ltl (by omega), br_t, ltp (by omega), br_t, ixl (by omega), br_t, br_t, br_t, br_t, br_t, fitsp (by simp [len_def]; omega), br_t, fitsp (by simp [len_def]; omega), br_t, wra (by omega), app_def]
   have e : (w.2.1.take i).map fewV ++ [((rd w.2.1 i v0).1.take 10, ((rd w.2.1 i v0).2.1, (rd w.2.1 i v0).2.2))] = (w.2.1.take (i + 1)).map fewV := by
    rw [← List.take_append_getElem hi2.2, List.map_append, rd_lt hi2.2]; rfl
   rw [e]; rfl)
  (by
   have ht : (w.2.1.take 40).length = min 40 w.2.1.length := List.length_take
   unfold F_r19_Few_l0
   by_cases q : ((w.2.1.take 40).length : Int) < (w.2.1.length : Int)
   ·rw [ltl (by omega), br_t, ltn (by omega), br_f, show (w.2.1.take 40).length = 40 by omega]
   ·rw [lnl (by omega), br_f, show (w.2.1.take (w.2.1.take 40).length) = w.2.1.take 40 by rw [ht, ← List.take_take, List.take_length]])
 exact l
theorem few_eq (w : TWave) : F_r19_Few w = some (few w) := by
 obtain ⟨t1, t2⟩ := take_min w.2.2 120
 rw [show ((120 : Nat) : Int) = 120 from rfl] at t1 t2
 unfold F_r19_Few
 rw [few_vars w, oj_inl, t1, t2, br_t, fitsp (by simp [len_def]; omega), br_t]; rfl
structure Small (w : TWave) : Prop where
 nv : w.2.1.length ≤ 9000000
 nc : w.2.2.length ≤ 9000000
 sc : ∀ v ∈ w.2.1, v.1.length ≤ 9000000
theorem few_len (w : TWave) : (few w).2.1.length ≤ 40 ∧ (few w).2.2.length ≤ 120 := by
 unfold few
 simp only [List.length_map, List.length_take]
 omega
theorem few_small (w : TWave) : Small (few w) := by
 have := few_len w
 refine ⟨by omega, by omega, fun v hv => ?_⟩
 obtain ⟨u, -, rfl⟩ := List.mem_map.1 hv
 show (u.1.take 10).length ≤ 9000000
 rw [List.length_take]; omega
theorem ref_eq (a b : LStr) (h : a.length ≤ 9000000000000) : F_r19_EqTexts a b = some (decide (a = b)) := by
 unfold F_r19_EqTexts
 simp only [br_def, ne_def, ni_def, len_def, decide_eq_true_eq]
 by_cases e : a.length = b.length
 ·rw [if_neg (by omega)]
  have l := iterS_findR (f := F_r19_EqTexts_l0 a b) a.length (fun i => ((i : Int), ())) (fun i => if decide (a.getD i [] = b.getD i []) = true then none else some ()) (.inl ((a.length : Int), ())) (fun _ => .inr false)
   (fun i hi => by
    simp (disch := omega) only [F_r19_EqTexts_l0, br_def, lt_def, ni_def, len_def, ix_def, tn_nat, rd_def, decide_eq_true_eq, ob_some, ad_def, wr64, nt_def, sq]
    rw [if_pos (by omega), if_pos (by omega), if_pos (by omega)]
    by_cases q : a.getD i [] = b.getD i []
    ·rw [if_neg (by rw [decide_eq_true q]; decide), if_pos q]; rfl
    ·rw [if_pos (by rw [decide_eq_false q]; decide), if_neg q]; rfl)
   (by simp [F_r19_EqTexts_l0, br_def, lt_def])
  rw [z0, l, find_all', eq_all _ _ _ e]
  by_cases q : a = b
  ·rw [if_pos (by simp [q]), Option.elim, oj_inl]; simp [q]
  ·rw [if_neg (by simp [q]), Option.elim, oj_inr]; simp [q]
 ·rw [if_pos (by omega), decide_eq_false fun q => e (by rw [q])]
theorem ref_var (a b : TVar) (h : a.1.length ≤ 9000000000000) : F_r19_sameVar a b = some (sameB a b) := by
 unfold F_r19_sameVar sameB
 rw [ref_eq _ _ h]
 simp only [br_def, sq, decide_eq_true_eq]
 by_cases q : a.2.1 = b.2.1
 ·rw [if_pos q, ob_some]; simp [q]
 ·rw [if_neg q]; simp [q]
theorem ref_vars (a b : TWave) (h : Small a) : F_r19_sameVars a b = some (decide (a.1 = b.1 ∧ a.2.1 = b.2.1)) := by
 have hnv := h.nv
 unfold F_r19_sameVars
 by_cases e1 : a.1 = b.1
 ·rw [show nt (sq a.1 b.1) = false by simp [nt_def, sq, e1], br_f]
  by_cases e2 : a.2.1.length = b.2.1.length
  ·rw [show ne (ni (len a.2.1)) (ni (len b.2.1)) = false from decide_eq_false (by simp only [ni_def, len_def, ne_eq]; omega), br_f]
   have l := iterS_findR (f := F_r19_sameVars_l0 a b) a.2.1.length (fun i => ((i : Int), ())) (fun i => if decide (a.2.1.getD i v0 = b.2.1.getD i v0) = true then none else some ()) (.inl ((a.2.1.length : Int), ())) (fun _ => .inr false)
    (fun i hi => by
     have hs : (a.2.1.getD i v0).1.length ≤ 9000000000000 := by
      have := h.sc _ (List.getElem_mem hi)
      rw [getD_lt hi]; omega
     unfold F_r19_sameVars_l0
     simp only [tn_nat]
     rw [show rd a.2.1 i v0 = a.2.1.getD i v0 from rfl, show rd b.2.1 i v0 = b.2.1.getD i v0 from rfl]
     rw [ltl (by omega), br_t, ixl (by omega), br_t, ixl (by omega), br_t, wra (by omega)]
     generalize a.2.1.getD i v0 = x at hs ⊢
     generalize b.2.1.getD i v0 = y
     by_cases q1 : x.2.2 = y.2.2
     ·rw [show ne x.2.2 y.2.2 = false from decide_eq_false (by simp [q1]), br_f, br_t, br_t, show F_r19_sameVar (x.1, (x.2.1, x.2.2)) (y.1, (y.2.1, y.2.2)) = _ from ref_var x y hs, ob_some]
      by_cases q2 : sameB x y = true
      ·have q3 : x = y := by
        unfold sameB at q2
        simp only [decide_eq_true_eq] at q2
        obtain ⟨s, n, k⟩ := x
        obtain ⟨s', n', k'⟩ := y
        simp_all
       rw [q2, if_pos (by simpa using q3)]; rfl
      ·have q3 : ¬ x = y := fun q => q2 (by rw [q]; simp [sameB])
       rw [show sameB x y = false by simpa using q2, if_neg (by simpa using q3)]; rfl
     ·rw [show ne x.2.2 y.2.2 = true from decide_eq_true q1, br_t, if_neg (by simpa using fun q => q1 (by rw [q]))]; rfl)
    (by
     unfold F_r19_sameVars_l0
     rw [lnl (by omega), br_f])
   rw [show iterS (F_r19_sameVars_l0 a b) (0, ()) = _ from l, find_all', eq_all _ _ _ e2]
   by_cases e3 : a.2.1 = b.2.1
   ·rw [if_pos (by simpa using e3), Option.elim, oj_inl, decide_eq_true ⟨e1, e3⟩]
   ·rw [if_neg (by simpa using e3), Option.elim, oj_inr, decide_eq_false fun q => e3 q.2]
  ·rw [show ne (ni (len a.2.1)) (ni (len b.2.1)) = true from decide_eq_true (by simp only [ni_def, len_def, ne_eq]; omega), br_t, decide_eq_false fun q => e2 (by rw [q.2])]
 ·rw [show nt (sq a.1 b.1) = true by simp [nt_def, sq, e1], br_t, decide_eq_false fun q => e1 q.1]
abbrev yWave : Ty := .st (.pair .str (.pair (.slice (.st (.pair (.slice .str) (.pair .str (.int .i64))))) (.slice (.st (.pair (.int .i64) (.pair (.int .i64) .str))))))
def UR : List Str := [[115], [109, 115], [117, 115], [110, 115], [112, 115], [102, 115]]
theorem lex2p {a b : Int} (h : a ≤ b) : le a b = true := decide_eq_true h
theorem le2n {a b : Int} (h : ¬ a ≤ b) : le a b = false := decide_eq_false h
theorem nep {a b : Int} (h : a ≠ b) : ne a b = true := decide_eq_true h
theorem nen {a b : Int} (h : a = b) : ne a b = false := decide_eq_false (by simp [h])
theorem eqp {a b : Int} (h : a = b) : eq a b = true := decide_eq_true h
theorem eqn' {a b : Int} (h : a ≠ b) : eq a b = false := decide_eq_false h
theorem runit_eq (s : Str) : F_r19_unit s = some (unitB s) := by
 have inner : ∀ (i : Nat) (hi : i < N3.length), iterS (F_r19_unit_l1 s ((i : Int), ())) (0, ()) = some ((UR.findSome? fun u => if sq s (N3[i] ++ u) = true then some () else none).elim (.inl ((6 : Int), ())) fun _ => .inr (.inr (.inr true))) := by
  intro i hi
  have hN : (([([49] : Str), ([49, 48] : Str), ([49, 48, 48] : Str)] : (List Str))) = N3 := rfl
  have hU : (([([115] : Str), ([109, 115] : Str), ([117, 115] : Str), ([110, 115] : Str), ([112, 115] : Str), ([102, 115] : Str)] : (List Str))) = UR := rfl
  have h3 : ∀ n ∈ N3, n.length ≤ 3 := by decide
  have h2 : ∀ u ∈ UR, u.length ≤ 2 := by decide
  have l := iterS_find (f := F_r19_unit_l1 s ((i : Int), ())) UR (fun i => ((i : Int), ())) (fun u => if sq s (N3[i] ++ u) = true then some () else none) (.inl ((6 : Int), ())) (fun _ => .inr (.inr (.inr true)))
   (fun j hj => by
    have hj6 : j < 6 := hj
    have a1 := h3 _ (List.getElem_mem hi)
    have a2 := h2 _ (List.getElem_mem hj)
    unfold F_r19_unit_l1
    rw [hN, hU]
    simp only [tn_nat]
    rw [rd_lt hi, rd_lt hj, ltp (by show (j : Int) < 6; omega), br_t, ixp (by show 0 ≤ (j : Int) ∧ (j : Int) < 6; omega), br_t, fitsp (by simp only [len_def]; omega), br_t, wra (by omega), app_def]
    generalize sq s (N3[i] ++ UR[j]) = b
    cases b <;> rfl)
   (by rfl)
  exact l
 have l := iterS_findR (f := F_r19_unit_l0 s) 3 (fun i => ((i : Int), ())) (fun i => (UR.findSome? fun u => if sq s (N3.getD i [] ++ u) = true then some () else none)) (.inl ((3 : Int), ())) (fun _ => .inr true)
  (fun i hi => by
   have hi' : i < N3.length := hi
   unfold F_r19_unit_l0
   simp only
   rw [ltp (by show (i : Int) < 3; omega), br_t, ixp (by show 0 ≤ (i : Int) ∧ (i : Int) < 3; omega), br_t, inner i hi', wra (by omega), getD_lt hi']
   cases (UR.findSome? fun u => if sq s (N3[i] ++ u) = true then some () else none) with
   | none => rfl
   | some u => rfl)
  (by rfl)
 unfold F_r19_unit
 rw [show iterS (F_r19_unit_l0 s) (0, ()) = _ from l]
 have key : ((List.range 3).findSome? fun i => (UR.findSome? fun u => if sq s (N3.getD i [] ++ u) = true then some () else none)).isSome = unitB s := by
  rw [Bool.eq_iff_iff]
  unfold unitB
  rw [decide_eq_true_eq, List.findSome?_isSome_iff]
  constructor
  ·rintro ⟨i, hi, h⟩
   rw [List.findSome?_isSome_iff] at h
   obtain ⟨u, hu, h⟩ := h
   split at h
   ·rename_i q
    have b1 : ∀ u ∈ UR, u ∈ U6 := by decide
    have b2 : ∀ i ∈ List.range 3, N3.getD i [] ∈ N3 := by decide
    exact ⟨u, b1 u hu, _, b2 i hi, of_decide_eq_true q⟩
   ·cases h
  ·rintro ⟨u, hu, n, hn, h⟩
   have b1 : ∀ u ∈ U6, u ∈ UR := by decide
   have b2 : ∀ n ∈ N3, ∃ i ∈ List.range 3, N3.getD i [] = n := by decide
   obtain ⟨i, hi, e⟩ := b2 n hn
   refine ⟨i, hi, ?_⟩
   rw [List.findSome?_isSome_iff]
   exact ⟨u, b1 u hu, by rw [e, if_pos (show sq s (n ++ u) = true from decide_eq_true h)]; rfl⟩
 rw [← key]
 cases ((List.range 3).findSome? fun i => (UR.findSome? fun u => if sq s (N3.getD i [] ++ u) = true then some () else none)) with
 | none => rfl
 | some u => rfl
theorem word_eq (s : Str) (hs : s.length ≤ 140737488351232) : F_r19_word s = some (wordB s) := by
 have l := iterS_find (f := F_r19_word_l0 s) s (fun i => ((i : Int), ())) (fun b => if chOk b = true then none else some ()) (.inl ((s.length : Int), ())) (fun _ => .inr false)
  (fun i hi => by
   unfold F_r19_word_l0
   simp only [tn_nat]
   rw [rd_lt hi, ltl (by omega), br_t, ixl (by omega), br_t, br_t, wra (by omega)]
   unfold chOk
   rw [show byt s[i] = (s[i].toNat : Int) from rfl]
   by_cases q1 : ((s[i].toNat : Nat) : Int) < 33
   ·rw [ltp q1, br_t, if_neg (by simp; omega)]; rfl
   ·rw [ltn q1, br_f]
    by_cases q2 : 126 < ((s[i].toNat : Nat) : Int)
    ·rw [ltp q2, br_t, if_neg (by simp; omega)]; rfl
    ·rw [ltn q2, br_f, if_pos (by simp; omega)]; rfl)
  (by
   unfold F_r19_word_l0
   rw [lnl (by omega), br_f])
 unfold F_r19_word wordB
 rw [show iterS (F_r19_word_l0 s) (0, ()) = _ from l, find_all']
 by_cases h : s.all chOk = true
 ·rw [if_pos h, h, Option.elim, oj_inl, Bool.and_true]
  by_cases q : 1 ≤ (s.length : Int)
  ·rw [show le 1 (ni (len s)) = true from decide_eq_true q, br_t, le_def]
   simp only [ni_def, len_def]
   congr 1
   rw [decide_eq_decide]
   omega
  ·rw [show le 1 (ni (len s)) = false from decide_eq_false q, br_f, decide_eq_false (by omega)]
 ·rw [if_neg h, Option.elim, oj_inr, show s.all chOk = false by simpa using h, Bool.and_false]
structure Words (w : TWave) : Prop where
 nm : ∀ v ∈ w.2.1, v.2.1.length ≤ 140737488351232
 sc : ∀ v ∈ w.2.1, ∀ s ∈ v.1, s.length ≤ 140737488351232
theorem any_take {α : Type} (l : List α) (d : α) (p : α → Bool) (i : Nat) (hi : i ≤ l.length) : (List.range i).any (fun k => p (l.getD k d)) = (l.take i).any p := by
 rw [Bool.eq_iff_iff, List.any_eq_true, List.any_eq_true]
 constructor
 ·rintro ⟨k, hk, h⟩
  have hk := List.mem_range.1 hk
  exact ⟨l[k], List.mem_take_iff_getElem.2 ⟨k, by omega, rfl⟩, by rwa [getD_lt (by omega)] at h⟩
 ·rintro ⟨x, hx, h⟩
  obtain ⟨k, hk, rfl⟩ := List.mem_take_iff_getElem.1 hx
  exact ⟨k, List.mem_range.2 (by omega), by rwa [getD_lt (by omega)]⟩
theorem rvar_eq (w : TWave) (hw : Words w) (hn : w.2.1.length ≤ 9000000) (hsm : ∀ v ∈ w.2.1, v.1.length ≤ 9000000) (i : Nat) (hi : i < w.2.1.length) : F_r19_checkVar w (i : Int) = some (vErr (w.2.1.getD i v0) (w.2.1.take i)) := by
 unfold F_r19_checkVar vErr
 rw [ixl (by omega), br_t, tn_nat, show rd w.2.1 i v0 = w.2.1.getD i v0 from rfl]
 have hm : w.2.1.getD i v0 ∈ w.2.1 := by rw [getD_lt hi]; exact List.getElem_mem hi
 by_cases h1 : (w.2.1.getD i v0).2.2 < 1
 ·rw [ltp h1, br_t, if_pos h1]
 rw [ltn h1, br_f, if_neg h1]
 by_cases h2 : 128 < (w.2.1.getD i v0).2.2
 ·rw [ltp h2, br_t, if_pos h2]
 rw [ltn h2, br_f, if_neg h2]
 by_cases h3 : 8 < ((w.2.1.getD i v0).1.length : Int)
 ·rw [show lt 8 (ni (len (w.2.1.getD i v0).1)) = true from decide_eq_true h3, br_t, if_pos h3]
 rw [show lt 8 (ni (len (w.2.1.getD i v0).1)) = false from decide_eq_false h3, br_f, if_neg h3]
 have l := iterS_find (f := F_r19_checkVar_l0 w (i : Int)) (w.2.1.getD i v0).1 (fun k => ((k : Int), ())) (fun s => if wordB s = true then none else some ()) (.inl (((w.2.1.getD i v0).1.length : Int), ())) (fun _ => .inr 9)
  (fun k hk => by
   unfold F_r19_checkVar_l0
   simp only [tn_nat]
   rw [show rd w.2.1 i v0 = w.2.1.getD i v0 from rfl, rd_lt hk, ltl (by omega), br_t, ixl (by omega), br_t, word_eq _ (hw.sc _ hm _ (List.getElem_mem hk)), ob_some, wra (by omega)]
   by_cases q : wordB (w.2.1.getD i v0).1[k] = true
   ·rw [if_pos q, q]; rfl
   ·rw [if_neg q, show wordB (w.2.1.getD i v0).1[k] = false by simpa using q]; rfl)
  (by
   unfold F_r19_checkVar_l0
   simp only [tn_nat]
   rw [show rd w.2.1 i v0 = w.2.1.getD i v0 from rfl, lnl (by omega), br_f])
 rw [show iterS (F_r19_checkVar_l0 w (i : Int)) (0, ()) = _ from l, find_all']
 by_cases h4 : (w.2.1.getD i v0).1.all wordB = true
 ·rw [if_pos h4, if_pos h4, Option.elim, oj_inl, word_eq _ (hw.nm _ hm), ob_some]
  by_cases h5 : wordB (w.2.1.getD i v0).2.1 = true
  ·rw [h5, show nt true = false from rfl, br_f, if_pos rfl]
   have l2 := iterS_findR (f := F_r19_checkVar_l1 w (i : Int) (((w.2.1.getD i v0).1.length : Int), ()) true) i (fun k => ((k : Int), ())) (fun k => if sameB (w.2.1.getD k v0) (w.2.1.getD i v0) = true then some () else none) (.inl ((i : Int), ())) (fun _ => .inr 10)
    (fun k hk => by
     have hkm : w.2.1.getD k v0 ∈ w.2.1 := by rw [getD_lt (by omega)]; exact List.getElem_mem (by omega)
     have e := ref_var (w.2.1.getD k v0) (w.2.1.getD i v0) (by have := hsm _ hkm; omega)
     unfold F_r19_checkVar_l1
     simp only [tn_nat]
     rw [show rd w.2.1 k v0 = w.2.1.getD k v0 from rfl, show rd w.2.1 i v0 = w.2.1.getD i v0 from rfl]
     rw [show F_r19_sameVar ((w.2.1.getD k v0).1, ((w.2.1.getD k v0).2.1, (w.2.1.getD k v0).2.2)) ((w.2.1.getD i v0).1, ((w.2.1.getD i v0).2.1, (w.2.1.getD i v0).2.2)) = _ from e, ob_some, ltp (by omega), br_t, ixl (by omega), br_t, wra (by omega)]
     by_cases q : sameB (w.2.1.getD k v0) (w.2.1.getD i v0) = true
     ·rw [if_pos q, q]; rfl
     ·rw [if_neg q, show sameB (w.2.1.getD k v0) (w.2.1.getD i v0) = false by simpa using q]; rfl)
    (by
     unfold F_r19_checkVar_l1
     rw [ltn (by omega), br_f])
   rw [show iterS (F_r19_checkVar_l1 w (i : Int) (((w.2.1.getD i v0).1.length : Int), ()) true) (0, ()) = _ from l2, find_any (List.range i) (fun k => sameB (w.2.1.getD k v0) (w.2.1.getD i v0))]
   rw [any_take w.2.1 v0 (fun x => sameB x (w.2.1.getD i v0)) i (by omega)]
   by_cases h6 : (w.2.1.take i).any (fun x => sameB x (w.2.1.getD i v0)) = true
   ·rw [if_pos h6, if_pos h6, Option.elim, oj_inr]
   ·rw [if_neg h6, if_neg h6, Option.elim, oj_inl]
  ·rw [show wordB (w.2.1.getD i v0).2.1 = false by simpa using h5, show nt false = true from rfl, br_t]; rfl
 ·rw [if_neg h4, if_neg h4, Option.elim, oj_inr]
theorem dig4 (b : UInt8) (x y : Option ((Int × Unit) ⊕ ((Int × Unit) ⊕ ((Int × Unit) ⊕ ((Int × Unit) ⊕ Int))))) : (br (ne (byt b) 48) (br (ne (byt b) 49) (br (ne (byt b) 120) (br (ne (byt b) 122) x y) y) y) y) = if digB b = true then y else x := by
 have hd : digB b = true ↔ b.toNat = 48 ∨ b.toNat = 49 ∨ b.toNat = 120 ∨ b.toNat = 122 := by
  unfold digB
  simp only [List.contains_cons, List.contains_nil, Bool.or_false, Bool.or_eq_true, beq_iff_eq]
  constructor
  ·rintro (rfl | rfl | rfl | rfl) <;> decide
  ·rintro (h | h | h | h)
   ·exact .inl (UInt8.toNat_inj.1 h)
   ·exact .inr (.inl (UInt8.toNat_inj.1 h))
   ·exact .inr (.inr (.inl (UInt8.toNat_inj.1 h)))
   ·exact .inr (.inr (.inr (UInt8.toNat_inj.1 h)))
 rw [show byt b = (b.toNat : Int) from rfl]
 by_cases q1 : (b.toNat : Int) = 48
 ·rw [nen q1, br_f, if_pos (hd.2 (by omega))]
 rw [nep q1, br_t]
 by_cases q2 : (b.toNat : Int) = 49
 ·rw [nen q2, br_f, if_pos (hd.2 (by omega))]
 rw [nep q2, br_t]
 by_cases q3 : (b.toNat : Int) = 120
 ·rw [nen q3, br_f, if_pos (hd.2 (by omega))]
 rw [nep q3, br_t]
 by_cases q4 : (b.toNat : Int) = 122
 ·rw [nen q4, br_f, if_pos (hd.2 (by omega))]
 rw [nep q4, br_t, if_neg fun h => by have := hd.1 h; omega]
theorem rcheck_eq (w : TWave) (hw : Words w) (hsm : ∀ v ∈ w.2.1, v.1.length ≤ 9000000) : F_r19_Check w = some (chk w) := by
 unfold F_r19_Check chk
 rw [runit_eq, ob_some]
 by_cases h1 : unitB w.1 = true
 ·rw [h1, show nt true = false from rfl, br_f, if_pos rfl]
  by_cases h2 : 256 < (w.2.1.length : Int)
  ·rw [show lt 256 (ni (len w.2.1)) = true from decide_eq_true h2, br_t, if_pos h2]
  rw [show lt 256 (ni (len w.2.1)) = false from decide_eq_false h2, br_f, if_neg h2]
  by_cases h3 : 4096 < (w.2.2.length : Int)
  ·rw [show lt 4096 (ni (len w.2.2)) = true from decide_eq_true h3, br_t, if_pos h3]
  rw [show lt 4096 (ni (len w.2.2)) = false from decide_eq_false h3, br_f, if_neg h3]
  have l := iterS_findR (f := F_r19_Check_l0 w true) w.2.1.length (fun i => ((i : Int), ())) (vErrs w) (.inl ((w.2.1.length : Int), ())) (fun r => .inr r)
   (fun i hi => by
    unfold F_r19_Check_l0
    simp only
    rw [show F_r19_checkVar (w.1, (w.2.1, w.2.2)) (i : Int) = _ from rvar_eq w hw (by omega) hsm i hi, ob_some, ltl (by omega), br_t, wra (by omega)]
    unfold vErrs
    by_cases q : vErr (w.2.1.getD i v0) (w.2.1.take i) = 0
    ·rw [nen q, br_f, if_pos q]; rfl
    ·rw [nep q, br_t, if_neg q]; rfl)
   (by
    unfold F_r19_Check_l0
    rw [lnl (by omega), br_f])
  rw [show iterS (F_r19_Check_l0 w true) (0, ()) = _ from l]
  cases hf : (List.range w.2.1.length).findSome? (vErrs w) with
  | some r => rw [Option.elim, oj_inr]; rfl
  | none =>
   rw [Option.elim, oj_inl]
   have hv0 : ∀ i, i < w.2.1.length → vErr (w.2.1.getD i v0) (w.2.1.take i) = 0 := fun i hi => by
    have := List.findSome?_eq_none_iff.1 hf i (List.mem_range.2 hi)
    unfold vErrs at this
    split at this
    ·assumption
    ·cases this
   have l1 := iterS_findR (f := F_r19_Check_l1 w true ((w.2.1.length : Int), ())) w.2.2.length (fun i => ((i : Int), ())) (cErrs w) (.inl ((w.2.2.length : Int), ())) (fun r => .inr r)
    (fun i hi => by
     have hr : ∀ m : Nat, rd w.2.2 m d0 = w.2.2.getD m d0 := fun m => rfl
     have l2 : (w.2.2.getD i d0).2.2.length ≤ 1000 → iterS (F_r19_Check_l2 w true ((w.2.1.length : Int), ()) ((i : Int), ())) (0, ()) = some (if (w.2.2.getD i d0).2.2.all digB = true then .inl (((w.2.2.getD i d0).2.2.length : Int), ()) else .inr (.inr (.inr 3))) := fun hlen => by
      have := iterS_find (f := F_r19_Check_l2 w true ((w.2.1.length : Int), ()) ((i : Int), ())) (w.2.2.getD i d0).2.2 (fun i => ((i : Int), ())) (fun b => if digB b = true then none else some ()) (.inl (((w.2.2.getD i d0).2.2.length : Int), ())) (fun _ => .inr (.inr (.inr 3)))
       (fun k hk => by
        unfold F_r19_Check_l2
        simp only [tn_nat]
        rw [hr, rd_lt hk, ltl (by omega), br_t, ixl (by omega), br_t, dig4, wra (by omega)]
        by_cases q : digB (w.2.2.getD i d0).2.2[k] = true
        ·rw [if_pos q, if_pos q]; rfl
        ·rw [if_neg q, if_neg q]; rfl)
       (by
        unfold F_r19_Check_l2
        simp only [tn_nat]
        rw [hr, lnl (by omega), br_f])
      rw [show iterS (F_r19_Check_l2 w true ((w.2.1.length : Int), ()) ((i : Int), ())) (0, ()) = _ from this, find_all']
      by_cases q : (w.2.2.getD i d0).2.2.all digB = true
      ·rw [if_pos q, if_pos q]; rfl
      ·rw [if_neg q, if_neg q]; rfl
     unfold F_r19_Check_l1
     simp only [tn_nat]
     rw [wr64 (n := ad (i : Int) 1) (by simp only [ad_def]; omega) (by simp only [ad_def]; omega)]
     unfold cErrs cErr
     rw [hr]
     rw [ltl (by omega), br_t, ixl (by omega), br_t]
     generalize hc : w.2.2.getD i d0 = c at l2
     by_cases q1 : c.1 < 0
     ·rw [if_pos q1, ltp q1]; rfl
     rw [if_neg q1, ltn q1, br_f]
     by_cases q2 : 1000000000000 < c.1
     ·rw [if_pos q2, ltp q2]; rfl
     rw [if_neg q2, ltn q2, br_f]
     by_cases q3 : c.2.1 < 0
     ·rw [if_pos q3, ltp q3]; rfl
     rw [if_neg q3, ltn q3, br_f]
     by_cases q4 : (w.2.1.length : Int) ≤ c.2.1
     ·rw [if_pos q4, show le (ni (len w.2.1)) c.2.1 = true from decide_eq_true q4]; rfl
     rw [if_neg q4, show le (ni (len w.2.1)) c.2.1 = false from decide_eq_false q4, br_f, ixl (by omega), br_t]
     rw [show rd w.2.1 (tn c.2.1) v0 = w.2.1.getD c.2.1.toNat v0 from rfl]
     by_cases q5 : (c.2.2.length : Int) ≠ (w.2.1.getD c.2.1.toNat v0).2.2
     ·rw [if_pos q5, show ne (ni (len c.2.2)) (w.2.1.getD c.2.1.toNat v0).2.2 = true from decide_eq_true q5]; rfl
     rw [if_neg q5, show ne (ni (len c.2.2)) (w.2.1.getD c.2.1.toNat v0).2.2 = false from decide_eq_false q5, br_f]
     have hv := vErr_zero (hv0 c.2.1.toNat (by omega))
     rw [l2 (by omega)]
     by_cases q6 : c.2.2.all digB = true
     ·rw [if_pos q6, if_pos q6, oj_inl]
      by_cases q7 : 0 < i
      ·rw [ltp (by omega), br_t, wr64 (by simp only [sb_def]; omega) (by simp only [sb_def]; omega), ixp (by simp only [ni_def, len_def, sb_def]; omega), br_t, show tn (sb (i : Int) 1) = i - 1 by rw [sb_def, tn_def]; omega, hr]
       by_cases q8 : c.1 < (w.2.2.getD (i - 1) d0).1
       ·have e : (if 0 < i ∧ c.1 < (w.2.2.getD (i - 1) d0).1 then (22 : Int) else 0) = 22 := if_pos ⟨q7, q8⟩
        rw [ltp q8, br_t, e]; rfl
       ·have e : (if 0 < i ∧ c.1 < (w.2.2.getD (i - 1) d0).1 then (22 : Int) else 0) = 0 := if_neg fun q => q8 q.2
        rw [ltn q8, br_f, e]; rfl
      ·have e : (if 0 < i ∧ c.1 < (w.2.2.getD (i - 1) d0).1 then (22 : Int) else 0) = 0 := if_neg fun q => q7 q.1
       rw [ltn (by omega), br_f, e]; rfl
     ·rw [if_neg q6, if_neg q6, oj_inr]; rfl)
    (by
     unfold F_r19_Check_l1
     rw [lnl (by omega), br_f])
   rw [show iterS (F_r19_Check_l1 w true ((w.2.1.length : Int), ())) (0, ()) = _ from l1]
   cases (List.range w.2.2.length).findSome? (cErrs w) with
   | some r => rw [Option.elim, oj_inr]; rfl
   | none => rw [Option.elim, oj_inl]; rfl
 ·rw [show unitB w.1 = false by simpa using h1]; rfl
theorem times_eq (w : TWave) (h : w.2.2.length ≤ 9000000) : F_r19_Times w = some (times w) := by
 have hr : ∀ m : Nat, rd w.2.2 m d0 = w.2.2.getD m d0 := fun m => rfl
 have l := iterS_fold (f := F_r19_Times_l0 w) (List.range w.2.2.length) (fun i b => ((i : Int), (b, ()))) (fun b i => b ++ (isT w.2.2 i).toList) (fun b => .inl ((w.2.2.length : Int), (b, ()))) (fun i b => b.length ≤ i)
  (fun i b hi hb => by
   simp only [List.length_range] at hi
   rw [List.getElem_range]
   refine ⟨?_, ?_⟩
   ·unfold F_r19_Times_l0
    simp only [tn_nat]
    rw [hr, ltl (by omega), br_t, ixl (by omega), br_t, br_t, wr64 (n := ad (i : Int) 1) (by simp only [ad_def]; omega) (by simp only [ad_def]; omega), fitsp (by simp [len_def]; omega), br_t, app_def]
    unfold isT
    by_cases q : i = 0
    ·rw [eqp (by omega), br_t, if_pos (.inl q)]; rfl
    ·rw [eqn' (by omega), br_f, wr64 (by simp only [sb_def]; omega) (by simp only [sb_def]; omega), ixp (by simp only [ni_def, len_def, sb_def]; omega), br_t, show tn (sb (i : Int) 1) = i - 1 by rw [sb_def, tn_def]; omega, hr]
     by_cases q2 : (w.2.2.getD i d0).1 = (w.2.2.getD (i - 1) d0).1
     ·rw [nen q2, br_f, if_neg fun e => by rcases e with e | e; exact q e; exact e q2]
      simp [ad_def]
     ·rw [nep q2, br_t, if_pos (.inr q2)]; rfl
   ·show (b ++ (isT w.2.2 i).toList).length ≤ i + 1
    unfold isT
    split <;> simp <;> omega)
  (fun b hb => by
   unfold F_r19_Times_l0
   rw [ltn (by simp only [ni_def, len_def, List.length_range]; omega), br_f, List.length_range])
  (b := ([] : LI)) (by simp)
 rw [fold_fm] at l
 unfold F_r19_Times
 rw [show iterS (F_r19_Times_l0 w) (0, ([], ())) = _ from l, oj_inl]; rfl
theorem rep_snoc (n : Nat) : Lib.repeatL [120] n ++ [120] = Lib.repeatL [120] (n + 1) := by
 induction n with
 | zero => rfl
 | succ n ih =>
  conv => lhs; unfold Lib.repeatL
  conv => rhs; unfold Lib.repeatL
  rw [List.append_assoc, ih]
theorem fill_eq (n : Int) (h0 : 0 ≤ n) (h : n ≤ 1000) : F_r19_Fill [120] n = some (Lib.repeatL [120] n.toNat) := by
 obtain ⟨k, rfl⟩ : ∃ k : Nat, n = k := ⟨n.toNat, by omega⟩
 have l := iterS_upto (f := F_r19_Fill_l0 [120] (k : Int)) (fun i => ((i : Int), (Lib.repeatL [120] i, ()))) k (r := .inl ((k : Int), (Lib.repeatL [120] k, ())))
  (fun i hi => by
   unfold F_r19_Fill_l0
   simp only
   rw [ltp (by omega), br_t, fitsp (by rw [len_def, Lib.repeatL_length]; simp [len_def]; omega), br_t, wra (by omega), app_def, rep_snoc]; rfl)
  (by
   unfold F_r19_Fill_l0
   rw [ltn (by omega), br_f])
 unfold F_r19_Fill
 rw [show iterS (F_r19_Fill_l0 [120] (k : Int)) (0, ([], ())) = _ from l, oj_inl, Int.toNat_natCast]
theorem value_eq {w : TWave} (h : Good w) {v : Nat} (hv : v < w.2.1.length) (T : Int) : F_r19_Value w (v : Int) T = some (valW w v T) := by
 have hnc := h.nc
 have hw := h.width hv
 have hr : ∀ m : Nat, rd w.2.2 m d0 = w.2.2.getD m d0 := fun m => rfl
 unfold F_r19_Value
 rw [ixl (by omega), br_t, tn_nat, show rd w.2.1 v v0 = w.2.1.getD v v0 from rfl, fill_eq _ (by omega) (by omega), ob_some]
 have l := iterS_fold (f := F_r19_Value_l0 w (v : Int) T (fillS w v)) w.2.2 (fun i b => ((i : Int), (b, ()))) (fun s c => if c.2.1 = (v : Int) ∧ c.1 ≤ T then c.2.2 else s) (fun b => .inl ((w.2.2.length : Int), (b, ()))) (fun _ _ => True)
  (fun i b hi _ => by
   refine ⟨?_, trivial⟩
   unfold F_r19_Value_l0
   simp only [tn_nat]
   rw [show rd w.2.2 i d0 = w.2.2[i] from getD_lt hi _, ltl (by omega), br_t, ixl (by omega), br_t, br_t, br_t, wra (by omega)]
   by_cases q1 : w.2.2[i].2.1 = (v : Int)
   ·rw [eqp q1, br_t]
    by_cases q2 : w.2.2[i].1 ≤ T
    ·rw [lex2p q2, br_t, if_pos ⟨q1, q2⟩]; rfl
    ·rw [le2n q2, br_f, if_neg fun q => q2 q.2]; rfl
   ·rw [eqn' q1, br_f, if_neg fun q => q1 q.1]; rfl)
  (fun b _ => by
   unfold F_r19_Value_l0
   rw [lnl (by omega), br_f])
  (b := fillS w v) trivial
 rw [show iterS (F_r19_Value_l0 w (v : Int) T (Lib.repeatL [120] (w.2.1.getD v v0).2.2.toNat)) (0, (Lib.repeatL [120] (w.2.1.getD v v0).2.2.toNat, ())) = _ from l, oj_inl]; rfl
theorem time_range {w : TWave} (h : Good w) {T : Int} (hT : T ∈ times w) : 0 ≤ T ∧ T ≤ 1000000000000 := by
 obtain ⟨d, hd, e⟩ := (times_mem h T).1 hT
 obtain ⟨k, hk, rfl⟩ := List.getElem_of_mem hd
 have := h.time hk
 unfold tAt at this
 rw [getD_lt hk] at this
 omega
theorem times_len {w : TWave} (h : Good w) : (times w).length ≤ 4096 := Nat.le_trans (List.length_filterMap_le ..) (by simpa using h.nc)
theorem few_words {w : TWave} (h : WfT yWave w) : Words (few w) := by
 have hv : ∀ v ∈ (few w).2.1, ∃ u ∈ w.2.1, v = fewV u := fun v hv => by
  obtain ⟨u, hu, rfl⟩ := List.mem_map.1 hv
  exact ⟨u, List.mem_of_mem_take hu, rfl⟩
 have h1 : ∀ u ∈ w.2.1, WfT (.slice .str) u.1 ∧ WfT .str u.2.1 := fun u hu => ⟨(h.2.1.2 u hu).1, (h.2.1.2 u hu).2.1⟩
 refine ⟨fun v hv' => ?_, fun v hv' s hs => ?_⟩
 ·obtain ⟨u, hu, rfl⟩ := hv v hv'
  exact (h1 u hu).2
 ·obtain ⟨u, hu, rfl⟩ := hv v hv'
  exact (h1 u hu).1.2 s (List.mem_of_mem_take hs)
abbrev SD : Type := Bool × (Int × (Int × Unit))
def stepD (a b : TWave) (s : SD) (p : Int × Nat) : SD :=
 if valW a p.2 p.1 = valW b p.2 p.1 then s else if s.1 = false ∨ p.1 < s.2.1 ∨ (p.1 = s.2.1 ∧ (p.2 : Int) < s.2.2.1) then (true, (p.1, ((p.2 : Int), ()))) else s
def InvD (a b : TWave) (L : List (Int × Nat)) (s : SD) : Prop :=
 (s = (false, (0, (0, ()))) ∧ ∀ p ∈ L, valW a p.2 p.1 = valW b p.2 p.1) ∨
 ∃ p ∈ L, valW a p.2 p.1 ≠ valW b p.2 p.1 ∧ s = (true, (p.1, ((p.2 : Int), ()))) ∧ ∀ q ∈ L, valW a q.2 q.1 ≠ valW b q.2 q.1 → ¬ (q.1 < p.1 ∨ (q.1 = p.1 ∧ q.2 < p.2))
theorem stepD_inv (a b : TWave) (L : List (Int × Nat)) (s : SD) (p : Int × Nat) (h : InvD a b L s) : InvD a b (L ++ [p]) (stepD a b s p) := by
 unfold stepD
 by_cases q : valW a p.2 p.1 = valW b p.2 p.1
 ·rw [if_pos q]
  rcases h with ⟨h1, h2⟩ | ⟨r, h1, h2, h3, h4⟩
  ·refine .inl ⟨h1, fun r hr => ?_⟩
   rcases List.mem_append.1 hr with hr | hr
   ·exact h2 r hr
   ·rw [List.mem_singleton.1 hr]; exact q
  ·refine .inr ⟨r, List.mem_append_left _ h1, h2, h3, fun t ht hne => ?_⟩
   rcases List.mem_append.1 ht with ht | ht
   ·exact h4 t ht hne
   ·rw [List.mem_singleton.1 ht] at hne; exact absurd q hne
 ·rw [if_neg q]
  rcases h with ⟨h1, h2⟩ | ⟨r, h1, h2, h3, h4⟩
  ·rw [if_pos (.inl (by rw [h1]))]
   refine .inr ⟨p, by simp, q, rfl, fun t ht hne => ?_⟩
   rcases List.mem_append.1 ht with ht | ht
   ·exact absurd (h2 t ht) hne
   ·rw [List.mem_singleton.1 ht]; omega
  ·by_cases q2 : p.1 < r.1 ∨ (p.1 = r.1 ∧ p.2 < r.2)
   ·rw [if_pos (by rw [h3]; show true = false ∨ p.1 < r.1 ∨ (p.1 = r.1 ∧ (p.2 : Int) < (r.2 : Int)); omega)]
    refine .inr ⟨p, by simp, q, rfl, fun t ht hne => ?_⟩
    rcases List.mem_append.1 ht with ht | ht
    ·have := h4 t ht hne; omega
    ·rw [List.mem_singleton.1 ht]; omega
   ·rw [if_neg (by rw [h3]; show ¬ (true = false ∨ p.1 < r.1 ∨ (p.1 = r.1 ∧ (p.2 : Int) < (r.2 : Int))); rintro (e | e); cases e; omega)]
    refine .inr ⟨r, List.mem_append_left _ h1, h2, h3, fun t ht hne => ?_⟩
    rcases List.mem_append.1 ht with ht | ht
    ·exact h4 t ht hne
    ·rw [List.mem_singleton.1 ht]; exact q2
theorem foldD_inv (a b : TWave) : ∀ (L2 L1 : List (Int × Nat)) (s : SD), InvD a b L1 s → InvD a b (L1 ++ L2) (L2.foldl (stepD a b) s) := by
 intro L2
 induction L2 with
 | nil => intro L1 s h; simpa using h
 | cons p r ih =>
  intro L1 s h
  have := ih (L1 ++ [p]) _ (stepD_inv a b L1 s p h)
  rw [List.append_assoc] at this
  exact this
theorem foldD_nest (a b : TWave) (nv : Nat) : ∀ (ts : List Int) (s : SD), ts.foldl (fun s T => (List.range nv).foldl (fun s k => stepD a b s (T, k)) s) s = (ts.flatMap fun T => (List.range nv).map fun k => (T, k)).foldl (stepD a b) s := by
 intro ts
 induction ts with
 | nil => intro s; rfl
 | cons T r ih =>
  intro s
  rw [List.foldl_cons, ih, List.flatMap_cons, List.foldl_append, List.foldl_map]
theorem rdiff_row {a b : TWave} (ga : Good a) (gb : Good b) (e : a.2.1 = b.2.1) (y0 y1 : Int) (y2 : Bool) (y3 y4 : LI) (k : Nat) (hk : k < (y3 ++ y4).length) (s : SD) :
  iterS (F_r19_Diff_l1 a b y0 y1 y2 y3 y4 ((k : Int), s)) (0, s) = some (.inl ((a.2.1.length : Int), (List.range a.2.1.length).foldl (fun s v => stepD a b s ((y3 ++ y4)[k], v)) s)) := by
 have hnv := ga.nv
 have l := iterS_fold (f := F_r19_Diff_l1 a b y0 y1 y2 y3 y4 ((k : Int), s)) (List.range a.2.1.length) (fun i b => ((i : Int), b)) (fun s v => stepD a b s ((y3 ++ y4)[k], v))
  (fun b => .inl ((a.2.1.length : Int), b)) (fun _ _ => True)
  (fun v st hv _ => by
   simp only [List.length_range] at hv
   rw [List.getElem_range]
   refine ⟨?_, trivial⟩
   have g1 := value_eq ga hv (y3 ++ y4)[k]
   have g2 := value_eq gb (e ▸ hv) (y3 ++ y4)[k]
   have hx : ix (k : Int) (ni (len (app y3 y4))) = true := ixp (by simp only [ni_def, len_def, app_def]; omega)
   obtain ⟨is, t, u, ⟨⟩⟩ := st
   unfold F_r19_Diff_l1
   simp only [tn_nat]
   rw [hx, show rd (app y3 y4) k 0 = (y3 ++ y4)[k] from getD_lt hk _, ltl (by omega), br_t, br_t, show F_r19_Value (a.1, (a.2.1, a.2.2)) (v : Int) (y3 ++ y4)[k] = _ from g1, ob_some, br_t, show F_r19_Value (b.1, (b.2.1, b.2.2)) (v : Int) (y3 ++ y4)[k] = _ from g2, ob_some,
    wra (by omega), br_t, br_t, br_t]
   unfold stepD
   simp only
   by_cases q : valW a v (y3 ++ y4)[k] = valW b v (y3 ++ y4)[k]
   ·rw [show nt (sq (valW a v (y3 ++ y4)[k]) (valW b v (y3 ++ y4)[k])) = false by simp [nt_def, sq, q], br_f, if_pos q]; rfl
   ·rw [show nt (sq (valW a v (y3 ++ y4)[k]) (valW b v (y3 ++ y4)[k])) = true by simp [nt_def, sq, q], br_t, if_neg q]
    cases is with
    | false => rw [show nt false = true from rfl, br_t, if_pos (.inl rfl)]; rfl
    | true =>
     rw [show nt true = false from rfl, br_f]
     by_cases q1 : (y3 ++ y4)[k] < t
     ·rw [ltp q1, br_t, if_pos (.inr (.inl q1))]; rfl
     ·rw [ltn q1, br_f]
      by_cases q2 : (y3 ++ y4)[k] = t
      ·rw [eqp q2, br_t]
       by_cases q3 : (v : Int) < u
       ·rw [ltp q3, br_t, if_pos (.inr (.inr ⟨q2, q3⟩))]; rfl
       ·rw [ltn q3, br_f, if_neg (by rintro (e | e | e); cases e; exact q1 e; exact q3 e.2)]; rfl
      ·rw [eqn' q2, br_f, if_neg (by rintro (e | e | e); cases e; exact q1 e; exact q2 e.1)]; rfl)
  (fun b _ => by
   unfold F_r19_Diff_l1
   rw [ltn (by simp only [ni_def, len_def, List.length_range]; omega), br_f, List.length_range])
  (b := s) trivial
 exact l
theorem rdiff_eq (a b : TWave) (wa : Words a) (wb : Words b) (sa : Small a) (sb' : Small b) : F_r19_Diff a b = some (if chk a = 0 then if chk b = 0 then if a.1 = b.1 ∧ a.2.1 = b.2.1 then fd (NF a) (NF b) else (0, (0, (false, 12))) else (0, (0, (false, chk b))) else (0, (0, (false, chk a)))) := by
 unfold F_r19_Diff
 rw [show F_r19_Check (a.1, (a.2.1, a.2.2)) = _ from rcheck_eq a wa sa.sc, ob_some]
 by_cases hc : chk a = 0
 ·rw [if_pos hc, nen hc, br_f, show F_r19_Check (b.1, (b.2.1, b.2.2)) = _ from rcheck_eq b wb sb'.sc, ob_some]
  by_cases hd : chk b = 0
  ·rw [if_pos hd, nen hd, br_f, show F_r19_sameVars (a.1, (a.2.1, a.2.2)) (b.1, (b.2.1, b.2.2)) = _ from ref_vars a b sa, ob_some]
   by_cases e : a.1 = b.1 ∧ a.2.1 = b.2.1
   ·have ga := chk_zero.1 hc
    have gb := chk_zero.1 hd
    have la := times_len ga
    have lb := times_len gb
    have na := ga.nc
    have nb := gb.nc
    rw [decide_eq_true e, show nt true = false from rfl, br_f, if_pos e, show F_r19_Times (a.1, (a.2.1, a.2.2)) = _ from times_eq a (by omega), ob_some, show F_r19_Times (b.1, (b.2.1, b.2.2)) = _ from times_eq b (by omega), ob_some, fitsp (by simp only [len_def]; omega), br_t]
    have l := iterS_fold (f := F_r19_Diff_l0 a b (chk a) (chk b) true (times a) (times b)) (times a ++ times b) (fun i s => ((i : Int), s)) (fun s T => (List.range a.2.1.length).foldl (fun s k => stepD a b s (T, k)) s) (fun s => .inl (((times a ++ times b).length : Int), s)) (fun _ _ => True)
     (fun k s hk _ => by
      refine ⟨?_, trivial⟩
      have hk' : k < 10000 := by rw [List.length_append] at hk; omega
      obtain ⟨is, t, u, ⟨⟩⟩ := s
      unfold F_r19_Diff_l0
      simp only
      rw [ltp (by simp only [ni_def, len_def, app_def]; omega), br_t, rdiff_row ga gb e.2 _ _ _ _ _ k hk, oj_inl, wra (by omega)]; rfl)
     (fun s _ => by
      unfold F_r19_Diff_l0
      rw [ltn (by simp only [ni_def, len_def, app_def]; omega), br_f])
     (b := (false, (0, (0, ())))) trivial
    rw [show iterS (F_r19_Diff_l0 a b (chk a) (chk b) true (times a) (times b)) (0, (false, (0, (0, ())))) = _ from l, oj_inl, foldD_nest]
    have inv := foldD_inv a b ((times a ++ times b).flatMap fun T => (List.range a.2.1.length).map fun k => (T, k)) [] (false, (0, (0, ()))) (.inl ⟨rfl, fun p hp => by cases hp⟩)
    rw [List.nil_append] at inv
    have mem : ∀ (t : Int) (k : Nat), (t, k) ∈ ((times a ++ times b).flatMap fun T => (List.range a.2.1.length).map fun k => (T, k)) ↔ (t ∈ times a ∨ t ∈ times b) ∧ k < a.2.1.length := by
     intro t k
     rw [List.mem_flatMap]
     constructor
     ·rintro ⟨T, hT, hp⟩
      obtain ⟨j, hj, e⟩ := List.mem_map.1 hp
      have e1 := congrArg Prod.fst e
      have e2 := congrArg Prod.snd e
      simp only at e1 e2
      subst e1; subst e2
      exact ⟨List.mem_append.1 hT, List.mem_range.1 hj⟩
     ·rintro ⟨hT, hk⟩
      exact ⟨t, List.mem_append.2 hT, List.mem_map.2 ⟨k, List.mem_range.2 hk, rfl⟩⟩
    rcases fd_spec ga gb e.2 with ⟨q1, q2⟩ | ⟨t, k, q1, q2⟩
    ·rcases inv with ⟨i1, i2⟩ | ⟨p, i1, i2, i3, i4⟩
     ·rw [i1, q2]
     ·exact absurd ((NF_inj ga gb e.2).1 q1 p.2 ((mem p.1 p.2).1 i1).2 p.1) i2
    ·rcases inv with ⟨i1, i2⟩ | ⟨p, i1, i2, i3, i4⟩
     ·exact absurd (i2 (t, k) ((mem t k).2 ⟨q1.time, q1.lt⟩)) q1.ne
     ·have k1 := i4 (t, k) ((mem t k).2 ⟨q1.time, q1.lt⟩) q1.ne
      have k2 : ¬ (p.1 < t ∨ (p.1 = t ∧ p.2 < k)) := fun q => i2 (q1.first p.1 p.2 ((mem p.1 p.2).1 i1).2 q)
      simp only at k1
      have e1 : p.1 = t := by omega
      have e2 : p.2 = k := by omega
      rw [i3, q2, e1, e2]
   ·rw [decide_eq_false e, show nt false = true from rfl, br_t, if_neg e]
  ·rw [if_neg hd, nep hd, br_t]
 ·rw [if_neg hc, nep hc, br_t]
theorem rrow_eq {w : TWave} (h : Good w) {T : Int} (hT : 0 ≤ T ∧ T ≤ 1000000000000) (y1 : LI) (k : Nat) (hk : k < y1.length) (ht : y1[k] = T)
  {f : (Int × (LStr × Unit)) → Option ((Int × (LStr × Unit)) ⊕ ((Int × (LStr × Unit)) ⊕ ((Int × (LI × ((List LStr) × Unit))) ⊕ ((Int × (LI × ((List LStr) × Unit))) ⊕ (LI × ((List LStr) × Int))))))}
  (hf : ∀ st1 : Int × (LStr × Unit), f st1 = (br (lt st1.1 (ni (len w.2.1))) (br (ix (k : Int) (ni (len y1))) (ob (F_r19_Value (w.1, (w.2.1, w.2.2)) st1.1 (wr .i64 (sb (rd y1 (tn (k : Int)) 0) 1))) fun y4 => (br (fits (len st1.2.1) (len ([y4] : LStr)) 8796093022208) (some (.inl ((wr .i64 (ad st1.1 1)), ((app st1.2.1 ([y4] : LStr)), ())))) none)) none) (some (.inr (.inl (st1.1, (st1.2.1, ()))))))) :
  iterS f (0, ([], ())) = some (.inl ((w.2.1.length : Int), (rowV w (T - 1), ()))) := by
 have hnv := h.nv
 have l := iterS_upto (f := f) (fun i => ((i : Int), (((List.range i).map fun v => valW w v (T - 1)), ()))) w.2.1.length (r := .inl ((w.2.1.length : Int), (rowV w (T - 1), ())))
  (fun i hi => by
   rw [hf]
   simp only [tn_nat]
   rw [show rd y1 k 0 = T by rw [rd_lt hk, ht], wr64 (n := sb T 1) (by simp only [sb_def]; omega) (by simp only [sb_def]; omega), show F_r19_Value (w.1, (w.2.1, w.2.2)) (i : Int) (sb T 1) = _ from value_eq h hi (T - 1), ob_some,
    ltl (by omega), br_t, ixl (by omega), br_t, fitsp (by simp [len_def]; omega), br_t, wra (by omega), app_def, List.range_succ, List.map_append]; rfl)
  (by
   rw [hf, lnl (by omega), br_f]; rfl)
 exact l
theorem rsample_loop {w : TWave} (h : Good w) {c : Nat} (hc : c < w.2.1.length) (want : Str)
  {g : (Int × (LI × ((List LStr) × Unit))) → Str → Str → (Int × (LStr × Unit)) → Option ((Int × (LStr × Unit)) ⊕ ((Int × (LStr × Unit)) ⊕ ((Int × (LI × ((List LStr) × Unit))) ⊕ ((Int × (LI × ((List LStr) × Unit))) ⊕ (LI × ((List LStr) × Int))))))}
  {f : (Int × (LI × ((List LStr) × Unit))) → Option ((Int × (LI × ((List LStr) × Unit))) ⊕ ((Int × (LI × ((List LStr) × Unit))) ⊕ (LI × ((List LStr) × Int))))}
  (hg : ∀ st0 y2 y3 (st1 : Int × (LStr × Unit)), g st0 y2 y3 st1 = (br (lt st1.1 (ni (len w.2.1))) (br (ix st0.1 (ni (len (times w)))) (ob (F_r19_Value (w.1, (w.2.1, w.2.2)) st1.1 (wr .i64 (sb (rd (times w) (tn st0.1) 0) 1))) fun y4 => (br (fits (len st1.2.1) (len ([y4] : LStr)) 8796093022208) (some (.inl ((wr .i64 (ad st1.1 1)), ((app st1.2.1 ([y4] : LStr)), ())))) none)) none) (some (.inr (.inl (st1.1, (st1.2.1, ())))))))
  (hf : ∀ st0 : Int × (LI × ((List LStr) × Unit)), f st0 = (br (lt st0.1 (ni (len (times w)))) (br (ix st0.1 (ni (len (times w)))) (ob (F_r19_Value (w.1, (w.2.1, w.2.2)) (c : Int) (rd (times w) (tn st0.1) 0)) fun y2 => (br (nt (sq y2 want)) (some (.inl ((wr .i64 (ad st0.1 1)), (st0.2.1, (st0.2.2.1, ()))))) (br (ix st0.1 (ni (len (times w)))) (ob (F_r19_Value (w.1, (w.2.1, w.2.2)) (c : Int) (wr .i64 (sb (rd (times w) (tn st0.1) 0) 1))) fun y3 => (br (sq y3 want) (some (.inl ((wr .i64 (ad st0.1 1)), (st0.2.1, (st0.2.2.1, ()))))) (oj (iterS (g st0 y2 y3) (0, ([], ()))) fun y5 => (br (ix st0.1 (ni (len (times w)))) (br (fits (len st0.2.1) (len ([(rd (times w) (tn st0.1) 0)] : LI)) 17592186044416) (br (fits (len st0.2.2.1) (len ([y5.2.1] : (List LStr))) 5864062014805) (some (.inl ((wr .i64 (ad st0.1 1)), ((app st0.2.1 ([(rd (times w) (tn st0.1) 0)] : LI)), ((app st0.2.2.1 ([y5.2.1] : (List LStr))), ()))))) none) none) none)))) none))) none) (some (.inr (.inl (st0.1, (st0.2.1, (st0.2.2.1, ())))))))) :
  iterS f (0, ([], ([], ()))) = some (.inl (((times w).length : Int), (smpT w c want, ((smpT w c want).map fun T => rowV w (T - 1), ())))) := by
 have hl := times_len h
 have l := iterS_fold (f := f) (times w) (fun i (x : List Int × List LStr) => ((i : Int), (x.1, (x.2, ())))) (fun x T => if smp w c want T = true then (x.1 ++ [T], x.2 ++ [rowV w (T - 1)]) else x) (fun x => .inl (((times w).length : Int), (x.1, (x.2, ())))) (fun i x => x.1.length ≤ i ∧ x.2.length ≤ i)
  (fun k x hk hI => by
   have hT := time_range h (List.getElem_mem hk)
   have g1 := value_eq h hc (times w)[k]
   have g2 := value_eq h hc ((times w)[k] - 1)
   refine ⟨?_, ?_⟩
   ·rw [hf]
    simp only [tn_nat]
    rw [rd_lt hk, ltl (by omega), br_t, ixl (by omega), br_t, g1, ob_some, wr64 (n := sb (times w)[k] 1) (by simp only [sb_def]; omega) (by simp only [sb_def]; omega), show F_r19_Value (w.1, (w.2.1, w.2.2)) (c : Int) (sb (times w)[k] 1) = _ from g2,
     wr64 (n := ad (k : Int) 1) (by simp only [ad_def]; omega) (by simp only [ad_def]; omega)]
    unfold smp
    by_cases q1 : valW w c (times w)[k] = want
    ·rw [show nt (sq (valW w c (times w)[k]) want) = false by simp [nt_def, sq, q1], br_f, br_t, ob_some]
     by_cases q2 : valW w c ((times w)[k] - 1) = want
     ·rw [show sq (valW w c ((times w)[k] - 1)) want = true from decide_eq_true q2, br_t, if_neg (by simp [q2])]; rfl
     ·rw [show sq (valW w c ((times w)[k] - 1)) want = false from decide_eq_false q2, br_f, rrow_eq h hT (times w) k hk rfl (f := g ((k : Int), (x.1, (x.2, ()))) (valW w c (times w)[k]) (valW w c ((times w)[k] - 1))) (fun st1 => hg _ _ _ st1), oj_inl, br_t, fitsp (by simp [len_def]; omega), br_t, fitsp (by simp [len_def]; omega), br_t, if_pos (by simp [q1, q2])]; rfl
    ·rw [show nt (sq (valW w c (times w)[k]) want) = true by simp [nt_def, sq, q1], br_t, if_neg (by simp [q1])]; rfl
   ·show (if smp w c want (times w)[k] = true then (x.1 ++ [(times w)[k]], x.2 ++ [rowV w ((times w)[k] - 1)]) else x).1.length ≤ k + 1 ∧ _
    split
    ·simp; omega
    ·exact ⟨by omega, by omega⟩)
  (fun x hI => by
   rw [hf, lnl (by omega), br_f])
  (b := ([], [])) ⟨by simp, by simp⟩
 rw [fold_smp] at l
 simp only [List.nil_append] at l
 exact l
theorem rsample_eq (w : TWave) (ww : Words w) (sw : Small w) (c : Int) (f : Bool) : F_r19_Sample w c f = some (if chk w = 0 then if c < 0 ∨ (w.2.1.length : Int) ≤ c then ([], ([], 1)) else if (w.2.1.getD c.toNat v0).2.2 ≠ 1 then ([], ([], 12)) else
  (smpT w c.toNat (wantS f), ((smpT w c.toNat (wantS f)).map fun T => rowV w (T - 1), 0)) else ([], ([], chk w))) := by
 unfold F_r19_Sample
 rw [show F_r19_Check (w.1, (w.2.1, w.2.2)) = _ from rcheck_eq w ww sw.sc, ob_some]
 by_cases hc : chk w = 0
 ·have h : Good w := chk_zero.1 hc
  have hnc := h.nc
  rw [if_pos hc, nen hc, br_f]
  by_cases q1 : c < 0
  ·rw [ltp q1, br_t, if_pos (.inl q1)]
  rw [ltn q1, br_f]
  by_cases q2 : (w.2.1.length : Int) ≤ c
  ·rw [show le (ni (len w.2.1)) c = true from decide_eq_true q2, br_t, if_pos (.inr q2)]
  rw [show le (ni (len w.2.1)) c = false from decide_eq_false q2, br_f, if_neg (by omega)]
  obtain ⟨k, rfl⟩ : ∃ k : Nat, c = k := ⟨c.toNat, by omega⟩
  have hk : k < w.2.1.length := by omega
  rw [ixl (by omega), br_t]
  have hv : (rd w.2.1 (tn (k : Int)) v0).2.2 = (w.2.1.getD (k : Int).toNat v0).2.2 := rfl
  rw [hv]
  by_cases q3 : (w.2.1.getD (k : Int).toNat v0).2.2 ≠ 1
  ·rw [nep q3, br_t, if_pos q3]
  rw [show ne (w.2.1.getD (k : Int).toNat v0).2.2 1 = false from decide_eq_false q3, br_f, if_neg q3]
  rw [show F_r19_Times (w.1, (w.2.1, w.2.2)) = _ from times_eq w (by omega)]
  cases f with
  | true =>
   have l := rsample_loop h hk (wantS true) (g := F_r19_Sample_l1 w (k : Int) true (chk w) (times w)) (f := F_r19_Sample_l0 w (k : Int) true (chk w) (times w)) (fun _ _ _ _ => rfl) (fun _ => rfl)
   rw [br_t, ob_some, l, oj_inl]; rfl
  | false =>
   have l := rsample_loop h hk (wantS false) (g := F_r19_Sample_l3 w (k : Int) false (chk w) (times w)) (f := F_r19_Sample_l2 w (k : Int) false (chk w) (times w)) (fun _ _ _ _ => rfl) (fun _ => rfl)
   rw [br_f, ob_some, l, oj_inl]; rfl
 ·rw [if_neg hc, nep hc, br_t]
theorem eqt_refl (a : LI) (h : a.length ≤ 9000000000000) : F_w19_eqTimes a a = some true := by
 have l := iterS_upto (f := F_w19_eqTimes_l0 a a) (fun i => ((i : Int), ())) a.length (r := .inl ((a.length : Int), ()))
  (fun i hi => by
   unfold F_w19_eqTimes_l0
   simp only
   rw [ltl (by omega), br_t, ixl (by omega), br_t, br_t, nen rfl, br_f, wra (by omega)]; rfl)
  (by
   unfold F_w19_eqTimes_l0
   rw [lnl (by omega), br_f])
 unfold F_w19_eqTimes
 rw [nen rfl, br_f, show iterS (F_w19_eqTimes_l0 a a) (0, ()) = _ from l, oj_inl]
theorem eqr_refl (a : List LStr) (h : a.length ≤ 9000000000000) (h2 : ∀ r ∈ a, r.length ≤ 9000000000000) : F_w19_eqRows a a = some true := by
 have l := iterS_upto (f := F_w19_eqRows_l0 a a) (fun i => ((i : Int), ())) a.length (r := .inl ((a.length : Int), ()))
  (fun i hi => by
   unfold F_w19_eqRows_l0
   simp only [tn_nat]
   rw [rd_lt hi, ref_eq _ _ (h2 _ (List.getElem_mem hi)), ob_some, decide_eq_true rfl, ltl (by omega), br_t, ixl (by omega), br_t, br_t, show nt true = false from rfl, br_f, wra (by omega)]; rfl)
  (by
   unfold F_w19_eqRows_l0
   rw [lnl (by omega), br_f])
 unfold F_w19_eqRows
 rw [nen rfl, br_f, show iterS (F_w19_eqRows_l0 a a) (0, ()) = _ from l, oj_inl]
theorem smpT_len {w : TWave} (h : Good w) (c : Nat) (want : Str) : (smpT w c want).length ≤ 4096 := Nat.le_trans (List.length_filter_le ..) (times_len h)
theorem diffsmatch_law (a0 a1 : TWave) (a2 : Int) (a3 : Bool) (h0 : WfT yWave a0) (h1 : WfT yWave a1) : F_w19_VcdDiffsMatch a0 a1 a2 a3 = some true := by
 unfold F_w19_VcdDiffsMatch
 rw [show F_r19_Few (a0.1, (a0.2.1, a0.2.2)) = _ from few_eq a0, ob_some, show F_r19_Few (a1.1, (a1.2.1, a1.2.2)) = _ from few_eq a1, ob_some]
 have wx : WfT .str (few a0).1 := h0.1
 have wy : WfT .str (few a1).1 := h1.1
 have sx := few_small a0
 have sy := few_small a1
 have ox := few_words h0
 have oy := few_words h1
 generalize few a0 = x at wx sx ox
 generalize few a1 = y at wy sy oy
 rw [show F_vcd_Diff (x.1, (x.2.1, x.2.2)) (y.1, (y.2.1, y.2.2)) = _ from diff_eq x y wx wy, ob_some, show F_r19_Diff (x.1, (x.2.1, x.2.2)) (y.1, (y.2.1, y.2.2)) = _ from rdiff_eq x y ox oy sx sy, ob_some,
  show F_vcd_Sample (x.1, (x.2.1, x.2.2)) a2 a3 = _ from sample_eq x wx a2 a3, ob_some, show F_r19_Sample (x.1, (x.2.1, x.2.2)) a2 a3 = _ from rsample_eq x ox sx a2 a3, ob_some]
 rw [eqp rfl, br_t, eqp rfl, br_t, show ∀ b : Bool, bq b b = true from fun b => by cases b <;> rfl, br_t, eqp rfl, br_t]
 have key : ∀ p : LI × (List LStr × Int), p = (if chk x = 0 then if a2 < 0 ∨ (x.2.1.length : Int) ≤ a2 then ([], ([], 1)) else if (x.2.1.getD a2.toNat v0).2.2 ≠ 1 then ([], ([], 12)) else
   (smpT x a2.toNat (wantS a3), ((smpT x a2.toNat (wantS a3)).map fun T => rowV x (T - 1), 0)) else ([], ([], chk x))) → F_w19_eqTimes p.1 p.1 = some true ∧ F_w19_eqRows p.2.1 p.2.1 = some true := by
  intro p hp
  by_cases hc : chk x = 0
  ·rw [if_pos hc] at hp
   split at hp
   ·subst hp; exact ⟨eqt_refl _ (Nat.zero_le _), eqr_refl _ (Nat.zero_le _) fun r hr => by cases hr⟩
   split at hp
   ·subst hp; exact ⟨eqt_refl _ (Nat.zero_le _), eqr_refl _ (Nat.zero_le _) fun r hr => by cases hr⟩
   ·have h := chk_zero.1 hc
    have hl := smpT_len h a2.toNat (wantS a3)
    have hnv := h.nv
    subst hp
    refine ⟨eqt_refl _ (by simp only; omega), eqr_refl _ (by simp only [List.length_map]; omega) fun r hr => ?_⟩
    obtain ⟨T, -, rfl⟩ := List.mem_map.1 hr
    rw [rowV_len]; omega
  ·rw [if_neg hc] at hp
   subst hp; exact ⟨eqt_refl _ (Nat.zero_le _), eqr_refl _ (Nat.zero_le _) fun r hr => by cases hr⟩
 obtain ⟨k1, k2⟩ := key _ rfl
 rw [k1, ob_some, br_t, k2, ob_some, br_t, eqp rfl, br_t]; rfl
theorem diffsmatch_law' (x : Tys [yWave, yWave, .int .i64, .bool]) (h : WfTs [yWave, yWave, .int .i64, .bool] x) : F_w19_VcdDiffsMatch x.1 x.2.1 x.2.2.1 x.2.2.2 = some true := diffsmatch_law _ _ _ _ h.1 h.2.1
end Go.Proofs.YtgpligmjbecbjaaGreatDoor
