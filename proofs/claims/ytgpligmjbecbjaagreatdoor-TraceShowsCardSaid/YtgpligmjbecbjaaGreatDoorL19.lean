/- Waveforms as functions of time: values, times of changes, normal forms, first differences. Plain lists, no program. -/
import Derived.Test.YtgpligmjbecbjaaGreatDoorPl
import Derived.Test.YtgpligmjbecbjaaGreatDoorD36s
set_option linter.unusedSectionVars false
set_option linter.unusedSimpArgs false
set_option linter.unusedVariables false

namespace Go.AM.Wv
abbrev BS : Type := List UInt8
abbrev Chg : Type := Int × (Int × BS)
theorem sorted_eq {α : Type} (lt : α → α → Prop) (has : ∀ a b, lt a b → ¬ lt b a) : ∀ (l l' : List α), l.Pairwise lt → l'.Pairwise lt → (∀ x, x ∈ l ↔ x ∈ l') → l = l' := by
 intro l
 induction l with
 | nil =>
  intro l' _ _ h; cases l' with
  | nil => rfl
  | cons a t => exact absurd ((h a).2 (List.mem_cons_self ..)) (by simp)
 | cons a t ih =>
  intro l' h1 h2 h; cases l' with
  | nil => exact absurd ((h a).1 (List.mem_cons_self ..)) (by simp)
  | cons b u =>
   have p1 := List.pairwise_cons.1 h1; have p2 := List.pairwise_cons.1 h2; have e : a = b := by
    rcases List.mem_cons.1 ((h a).1 (List.mem_cons_self ..)) with e | e
    ·exact e
    rcases List.mem_cons.1 ((h b).2 (List.mem_cons_self ..)) with e' | e'
    ·exact e'.symm
    exact absurd (p1.1 _ e') (has _ _ (p2.1 _ e))
   subst e; rw [ih u p1.2 p2.2 fun x => ⟨fun hx => ?_, fun hx => ?_⟩]
   ·rcases List.mem_cons.1 ((h x).1 (List.mem_cons_of_mem _ hx)) with e | e
    ·subst e; exact absurd (p1.1 _ hx) (has _ _ (p1.1 _ hx))
    ·exact e
   ·rcases List.mem_cons.1 ((h x).2 (List.mem_cons_of_mem _ hx)) with e | e
    ·subst e; exact absurd (p2.1 _ hx) (has _ _ (p2.1 _ hx))
    ·exact e
def upd (v : Nat) (s : BS) (c : Chg) : BS := if c.2.1 = (v : Int) then c.2.2 else s
def val (f : Nat → BS) (ch : List Chg) (v : Nat) (T : Int) : BS := ch.foldl (fun s c => if c.2.1 = (v : Int) ∧ c.1 ≤ T then c.2.2 else s) (f v)
def Sorted (ch : List Chg) : Prop := ch.Pairwise fun a b => a.1 ≤ b.1
theorem val_append (f : Nat → BS) (a b : List Chg) (v : Nat) (T : Int) : val f (a ++ b) v T = val (fun _ => val f a v T) b v T := by
 unfold val; rw [List.foldl_append]
theorem val_late (f : Nat → BS) (b : List Chg) (v : Nat) (T : Int) (h : ∀ c ∈ b, c.2.1 = (v : Int) → T < c.1) : val f b v T = f v := by
 unfold val
 induction b generalizing f with
 | nil => rfl
 | cons c r ih =>
  rw [List.foldl_cons, if_neg fun q => by have := h c (List.mem_cons_self ..) q.1; omega]; exact ih f fun c hc => h c (List.mem_cons_of_mem _ hc)
theorem val_early (f : Nat → BS) (b : List Chg) (v : Nat) (T : Int) (h : ∀ c ∈ b, c.1 ≤ T) : val f b v T = b.foldl (upd v) (f v) := by
 unfold val
 generalize f v = s
 induction b generalizing s with
 | nil => rfl
 | cons c r ih =>
  rw [List.foldl_cons, List.foldl_cons, ih (fun c hc => h c (List.mem_cons_of_mem _ hc))]
  congr 1
  unfold upd; have := h c (List.mem_cons_self ..); by_cases e : c.2.1 = (v : Int)
  ·rw [if_pos ⟨e, this⟩, if_pos e]
  ·rw [if_neg fun q => e q.1, if_neg e]
theorem val_cut (f : Nat → BS) (ch : List Chg) (j : Nat) (v : Nat) (T : Int) (h1 : ∀ c ∈ ch.take j, c.1 ≤ T) (h2 : ∀ c ∈ ch.drop j, T < c.1) : val f ch v T = (ch.take j).foldl (upd v) (f v) := by
 conv => lhs; rw [← List.take_append_drop j ch]
 rw [val_append, val_late _ _ _ _ fun c hc _ => h2 c hc, val_early _ _ _ _ h1]
theorem val_still (f : Nat → BS) (ch : List Chg) (v : Nat) (T : Int) (h : ∀ c ∈ ch, c.1 ≠ T) : val f ch v T = val f ch v (T - 1) := by
 unfold val
 generalize f v = s
 induction ch generalizing s with
 | nil => rfl
 | cons c r ih =>
  rw [List.foldl_cons, List.foldl_cons, ih (fun c hc => h c (List.mem_cons_of_mem _ hc))]
  congr 1
  have := h c (List.mem_cons_self ..); by_cases e : c.2.1 = (v : Int) ∧ c.1 ≤ T
  ·rw [if_pos e, if_pos ⟨e.1, by omega⟩]
  ·rw [if_neg e, if_neg fun q => e ⟨q.1, by omega⟩]
def app1 (st : List BS) (c : Chg) : List BS := st.set c.2.1.toNat c.2.2
def Ok (nv : Nat) (ch : List Chg) : Prop := ∀ c ∈ ch, 0 ≤ c.2.1 ∧ c.2.1 < (nv : Int)
theorem app_map (nv : Nat) (f : Nat → BS) (ch : List Chg) (h : Ok nv ch) : ch.foldl app1 ((List.range nv).map f) = (List.range nv).map fun v => ch.foldl (upd v) (f v) := by
 induction ch generalizing f with
 | nil => rfl
 | cons c r ih =>
  have e : app1 ((List.range nv).map f) c = (List.range nv).map fun v => upd v (f v) c := by
   obtain ⟨h1, h2⟩ := h c (List.mem_cons_self ..); unfold app1; apply List.ext_getElem
   ·simp
   ·intro i q1 q2
    simp only [List.length_map, List.length_range] at q2; rw [List.getElem_set]; simp only [List.getElem_map, List.getElem_range]; unfold upd; by_cases q : c.2.1.toNat = i
    ·rw [if_pos q, if_pos (by omega)]
    ·rw [if_neg q, if_neg (by omega)]
  simp only [List.foldl_cons]; rw [e, ih _ fun c hc => h c (List.mem_cons_of_mem _ hc)]
def isT (ch : List Chg) (i : Nat) : Option Int := if i = 0 ∨ (ch.getD i (0, 0, [])).1 ≠ (ch.getD (i - 1) (0, 0, [])).1 then some (ch.getD i (0, 0, [])).1 else none
def tms (ch : List Chg) (n : Nat) : List Int := (List.range n).filterMap (isT ch)
theorem tms_succ (ch : List Chg) (n : Nat) : tms ch (n + 1) = tms ch n ++ (isT ch n).toList := by
 unfold tms
 rw [List.range_succ, List.filterMap_append]
 cases h : isT ch n <;> simp [List.filterMap, h]
theorem tms_group (ch : List Chg) (i j : Nat) (hij : i < j) (h0 : i = 0 ∨ (ch.getD i (0, 0, [])).1 ≠ (ch.getD (i - 1) (0, 0, [])).1) (h : ∀ k, i ≤ k → k < j → (ch.getD k (0, 0, [])).1 = (ch.getD i (0, 0, [])).1) :
  tms ch j = tms ch i ++ [(ch.getD i (0, 0, [])).1] := by
 obtain ⟨d, rfl⟩ : ∃ d, j = i + 1 + d := ⟨j - (i + 1), by omega⟩
 induction d with
 | zero => rw [Nat.add_zero, tms_succ]; unfold isT; rw [if_pos h0]; rfl
 | succ d ih =>
  rw [show i + 1 + (d + 1) = (i + 1 + d) + 1 by omega, tms_succ, ih (by omega) fun k h1 h2 => h k h1 (by omega)]; have : isT ch (i + 1 + d) = none := by
   unfold isT; rw [if_neg]
   rintro (q | q)
   ·omega
   ·exact q ((h _ (by omega) (by omega)).trans (h _ (by omega) (by omega)).symm)
  rw [this]; simp
theorem sorted_getD {ch : List Chg} (hs : Sorted ch) {i j : Nat} (hij : i ≤ j) (hj : j < ch.length) : (ch.getD i (0, 0, [])).1 ≤ (ch.getD j (0, 0, [])).1 := by
 rw [TM.getD_lt (by omega), TM.getD_lt hj]
 rcases Nat.lt_or_ge i j with h | h
 ·exact List.pairwise_iff_getElem.1 hs i j (by omega) hj h
 ·have : i = j := by omega
  subst this; exact Int.le_refl _
theorem tms_mem {ch : List Chg} (hs : Sorted ch) : ∀ n, n ≤ ch.length → ((tms ch n).Pairwise (· < ·)) ∧ ∀ T, T ∈ tms ch n ↔ ∃ c ∈ ch.take n, c.1 = T := by
 intro n
 induction n with
 | zero => intro _; simp [tms]
 | succ n ih =>
  intro hn; obtain ⟨h1, h2⟩ := ih (by omega); have hl : n < ch.length := by omega
  have et : ch.take (n + 1) = ch.take n ++ [ch[n]] := (List.take_append_getElem hl).symm; rw [tms_succ]; unfold isT; by_cases q : n = 0 ∨ (ch.getD n (0, 0, [])).1 ≠ (ch.getD (n - 1) (0, 0, [])).1
  ·rw [if_pos q]
   refine ⟨List.pairwise_append.2 ⟨h1, by simp, fun a ha b hb => ?_⟩, fun T => ?_⟩
   ·rw [Option.toList_some, List.mem_singleton] at hb; subst hb
    obtain ⟨c, hc, rfl⟩ := (h2 a).1 ha; obtain ⟨k, hk, rfl⟩ := List.mem_take_iff_getElem.1 hc; rcases q with q | q
    ·omega
    ·have s1 := sorted_getD hs (i := k) (j := n - 1) (by omega) (by omega)
     have s2 := sorted_getD hs (i := n - 1) (j := n) (by omega) hl; rw [TM.getD_lt (by omega)] at s1; omega
   ·rw [et]
    simp only [Option.toList_some, List.mem_append, List.mem_singleton, h2]; constructor
    ·rintro (⟨c, hc, rfl⟩ | rfl)
     ·exact ⟨c, .inl hc, rfl⟩
     ·exact ⟨ch[n], .inr rfl, by rw [TM.getD_lt hl]⟩
    ·rintro ⟨c, hc | rfl, rfl⟩
     ·exact .inl ⟨c, hc, rfl⟩
     ·exact .inr (by rw [TM.getD_lt hl])
  ·rw [if_neg q]
   simp only [Option.toList_none, List.append_nil]; refine ⟨h1, fun T => ?_⟩; have q1 : n ≠ 0 ∧ (ch.getD n (0, 0, [])).1 = (ch.getD (n - 1) (0, 0, [])).1 := by
    constructor
    ·exact fun e => q (.inl e)
    ·exact Decidable.not_not.1 fun e => q (.inr e)
   rw [h2, et]; simp only [List.mem_append, List.mem_singleton]; constructor
   ·rintro ⟨c, hc, rfl⟩; exact ⟨c, .inl hc, rfl⟩
   ·rintro ⟨c, hc | rfl, rfl⟩
    ·exact ⟨c, hc, rfl⟩
    ·refine ⟨ch[n - 1]'(by omega), List.mem_take_iff_getElem.2 ⟨n - 1, by omega, rfl⟩, ?_⟩
     have := q1.2; rw [TM.getD_lt hl, TM.getD_lt (show n - 1 < ch.length by omega)] at this; exact this.symm
end Go.AM.Wv

open Go Go.AM Go.TM
namespace Go.Proofs.YtgpligmjbecbjaaGreatDoor.W36
def AigB (g : TAig) : Prop := g.2.1.length ≤ 140737488355328 ∧ g.2.2.1.length ≤ 140737488355328 ∧ g.2.2.2.length ≤ 140737488355328
def fst0 (g : TAig) : Int := 1 + g.1 + g.2.1.length
def siz (g : TAig) : Int := fst0 g + g.2.2.1.length
def litB (x n : Int) : Bool := decide (0 ≤ x ∧ x < 2 * n)
def andB (g : TAig) (i : Nat) : Option Unit := if litB (g.2.2.1.getD i (0, 0)).1 (fst0 g + i) && litB (g.2.2.1.getD i (0, 0)).2 (fst0 g + i) then none else some ()
def latB (g : TAig) (x : Int × Int) : Option Unit := if litB x.1 (siz g) && decide (x.2 ≤ 1) then none else some ()
def outB (g : TAig) (x : Int) : Option Unit := if litB x (siz g) then none else some ()
def chk (g : TAig) : Int :=
 if g.1 < 0 then 1 else if 4096 < g.1 then 5 else if 4096 < siz g then 5 else if 4096 < (g.2.2.2.length : Int) then 5 else
 ((List.range g.2.2.1.length).findSome? (andB g)).elim ((g.2.1.findSome? (latB g)).elim ((g.2.2.2.findSome? (outB g)).elim 0 fun _ => 1) fun _ => 1) fun _ => 1
theorem F_aig_first_eq (g : TAig) (h : AigB g) (h0 : 0 ≤ g.1) (h1 : g.1 ≤ 4096) : F_aig_first g = some (fst0 g) := by
 obtain ⟨a, b, c⟩ := h
 simp (disch := omega) [F_aig_first, wr64, fst0]
theorem F_aig_size_eq (g : TAig) (h : AigB g) (h0 : 0 ≤ g.1) (h1 : g.1 ≤ 4096) : F_aig_size g = some (siz g) := by
 have e : F_aig_first (g.1, (g.2.1, (g.2.2.1, g.2.2.2))) = some (fst0 g) := F_aig_first_eq g h h0 h1
 obtain ⟨a, b, c⟩ := h
 have : fst0 g = 1 + g.1 + g.2.1.length := rfl
 simp (disch := omega) [F_aig_size, e, wr64, siz]
theorem F_aig_Check_1_eq (x n : Int) (h : -4611686018427387904 ≤ n) (h2 : n ≤ 4611686018427387903) : F_aig_Check_1 x n = some (litB x n) := by
 unfold F_aig_Check_1 litB
 by_cases e : 0 ≤ x <;> simp (disch := omega) [e, wr64]
theorem F_aig_Check_eq (g : TAig) (h : AigB g) : F_aig_Check g = some (chk g) := by
 unfold F_aig_Check chk
 simp only [br_def, lt_def, decide_eq_true_eq]
 by_cases h0 : g.1 < 0
 ·simp [h0]
 rw [if_neg h0, if_neg h0]
 by_cases h1 : 4096 < g.1
 ·simp [h1]
 rw [if_neg h1, if_neg h1, show F_aig_size (g.1, (g.2.1, (g.2.2.1, g.2.2.2))) = some (siz g) from F_aig_size_eq g h (by omega) (by omega), ob_some]
 by_cases h2 : 4096 < siz g
 ·simp [h2]
 rw [if_neg h2, if_neg h2]
 by_cases h3 : 4096 < (g.2.2.2.length : Int)
 ·simp [h3]
 rw [if_neg (by simpa using h3), if_neg h3]
 have hs : siz g = fst0 g + g.2.2.1.length := rfl
 have hf : fst0 g = 1 + g.1 + g.2.1.length := rfl
 have e89 : F_aig_first (g.1, (g.2.1, (g.2.2.1, g.2.2.2))) = some (fst0 g) := F_aig_first_eq g h (by omega) (by omega)
 have e87 : F_aig_size (g.1, (g.2.1, (g.2.2.1, g.2.2.2))) = some (siz g) := F_aig_size_eq g h (by omega) (by omega)
 have l0 := iterS_findR (f := F_aig_Check_l0 g (siz g)) g.2.2.1.length (fun i => ((i : Int), ())) (andB g) (.inl ((g.2.2.1.length : Int), ())) (fun _ => .inr 1)
  (fun i hi => by
   have q1 : F_aig_Check_1 (g.2.2.1[i]).1 (fst0 g + i) = some (litB (g.2.2.1[i]).1 (fst0 g + i)) := F_aig_Check_1_eq _ _ (by omega) (by omega); have q2 : F_aig_Check_1 (g.2.2.1[i]).2 (fst0 g + i) = some (litB (g.2.2.1[i]).2 (fst0 g + i)) := F_aig_Check_1_eq _ _ (by omega) (by omega); simp (disch := omega) [F_aig_Check_l0, rd_lt hi, hi, e89, wr64, q1, q2, andB]; cases litB (g.2.2.1[i]).1 (fst0 g + i) <;> cases litB (g.2.2.1[i]).2 (fst0 g + i) <;> simp)
  (by simp [F_aig_Check_l0])
 have l1 := iterS_find (f := F_aig_Check_l1 g (siz g) ((g.2.2.1.length : Int), ())) g.2.1 (fun i => ((i : Int), ())) (latB g) (.inl ((g.2.1.length : Int), ())) (fun _ => .inr 1)
  (fun i hi => by
   have q1 : F_aig_Check_1 (g.2.1[i]).1 (siz g) = some (litB (g.2.1[i]).1 (siz g)) := F_aig_Check_1_eq _ _ (by omega) (by omega); simp (disch := omega) [F_aig_Check_l1, rd_lt hi, hi, e87, wr64, q1, latB]; cases litB (g.2.1[i]).1 (siz g) <;> by_cases q : (g.2.1[i]).2 ≤ 1 <;> simp [q] <;> omega)
  (by simp [F_aig_Check_l1])
 have l2 := iterS_find (f := F_aig_Check_l2 g (siz g) ((g.2.2.1.length : Int), ()) ((g.2.1.length : Int), ())) g.2.2.2 (fun i => ((i : Int), ())) (outB g) (.inl ((g.2.2.2.length : Int), ())) (fun _ => .inr 1)
  (fun i hi => by
   have q1 : F_aig_Check_1 (g.2.2.2[i]) (siz g) = some (litB (g.2.2.2[i]) (siz g)) := F_aig_Check_1_eq _ _ (by omega) (by omega); simp (disch := omega) [F_aig_Check_l2, rd_lt hi, hi, e87, wr64, q1, outB]; cases litB (g.2.2.2[i]) (siz g) <;> simp)
  (by simp [F_aig_Check_l2])
 rw [show ((0 : Int), ()) = (((0 : Nat) : Int), ()) from rfl, l0]
 cases (List.range g.2.2.1.length).findSome? (andB g) with
 | some _ => rfl
 | none =>
  simp only [Option.elim_none]; rw [oj_inl, l1]; cases g.2.1.findSome? (latB g) with
  | some _ => rfl
  | none =>
   simp only [Option.elim_none]; rw [oj_inl, l2]; cases g.2.2.2.findSome? (outB g) <;> rfl
structure AigV (g : TAig) : Prop where
 i0 : 0 ≤ g.1
 sz : siz g ≤ 4096
 outs : g.2.2.2.length ≤ 4096
 and : ∀ (i : Nat) (h : i < g.2.2.1.length), 0 ≤ (g.2.2.1[i]).1 ∧ (g.2.2.1[i]).1 < 2 * (fst0 g + i) ∧ 0 ≤ (g.2.2.1[i]).2 ∧ (g.2.2.1[i]).2 < 2 * (fst0 g + i)
 lat : ∀ x ∈ g.2.1, 0 ≤ x.1 ∧ x.1 < 2 * siz g ∧ x.2 ≤ 1
 out : ∀ x ∈ g.2.2.2, 0 ≤ x ∧ x < 2 * siz g
theorem elim0 {o : Option Unit} {a : Int} (h : o.elim a (fun _ => 1) = 0) : o = none ∧ a = 0 := by
 cases o with
 | none => exact ⟨rfl, h⟩
 | some _ => cases h
theorem chk_ok {g : TAig} (h : chk g = 0) : AigV g := by
 unfold chk at h
 split at h
 ·cases h
 split at h
 ·cases h
 split at h
 ·cases h
 split at h
 ·cases h
 obtain ⟨h1, h⟩ := elim0 h
 obtain ⟨h2, h⟩ := elim0 h
 obtain ⟨h3, -⟩ := elim0 h
 refine ⟨by omega, by omega, by omega, fun i hi => ?_, fun x hx => ?_, fun x hx => ?_⟩
 ·have := List.findSome?_eq_none_iff.1 h1 i (by simpa using hi)
  unfold andB litB at this; rw [getD_lt hi] at this; simp at this; exact this
 ·have := List.findSome?_eq_none_iff.1 h2 x hx
  unfold latB litB at this; simp at this; exact this
 ·have := List.findSome?_eq_none_iff.1 h3 x hx
  unfold outB litB at this; simp at this; exact this
def not3 (b : Int) : Int := if b = 0 then 1 else if b = 1 then 0 else 2
def and3 (a b : Int) : Int := if a = 0 ∨ b = 0 then 0 else if a = 1 ∧ b = 1 then 1 else 2
def of3 (bits : LI) (x : Int) : Int := if x % 2 = 1 then not3 (bits.getD (x / 2).toNat 0) else bits.getD (x / 2).toNat 0
def step3 (b : LI) (x : Int × Int) : LI := b ++ [and3 (of3 b x.1) (of3 b x.2)]
def bits3 (g : TAig) (inp st : LI) : LI := g.2.2.1.foldl step3 (([0] ++ inp) ++ st)
def outs3 (g : TAig) (b : LI) : LI := g.2.2.2.map (of3 b)
def next3 (g : TAig) (b : LI) : LI := g.2.1.map fun l => of3 b l.1
def bit3 (v : Bool) : Int := if v = true then 1 else 0
def start3 (g : TAig) : LI := g.2.1.map fun l => bit3 (decide (l.2 = 1))
def sim3 (g : TAig) : LLI → LI → LLI
 | [], _ => []
 | inp :: r, st => outs3 g (bits3 g inp st) :: sim3 g r (next3 g (bits3 g inp st))
def T3 (b : Int) : Prop := 0 ≤ b ∧ b ≤ 2
theorem F_trace_bit_eq (v : Bool) : F_trace_bit v = some (bit3 v) := by cases v <;> rfl
theorem foldl_snoc {α β : Type} (f : α → β) (l : List α) (out : List β) : l.foldl (fun out x => out ++ [f x]) out = out ++ l.map f := by
 induction l generalizing out with
 | nil => simp
 | cons x l ih => simp [ih]
def BitsI (g : TAig) (i : Nat) (b : LI) : Prop := (b.length : Int) = fst0 g + i ∧ ∀ v ∈ b, T3 v
def of2 (b : LB) (x : Int) : Bool := b.getD (x / 2).toNat false != decide (x % 2 = 1)
def step2 (b : LB) (x : Int × Int) : LB := b ++ [of2 b x.1 && of2 b x.2]
def all2 (g : TAig) (inp st : LB) : LB := g.2.2.1.foldl step2 (([false] ++ inp) ++ st)
def outs2 (g : TAig) (b : LB) : LB := g.2.2.2.map (of2 b)
def next2 (g : TAig) (b : LB) : LB := g.2.1.map fun l => of2 b l.1
def start2 (g : TAig) : LB := g.2.1.map fun l => decide (l.2 = 1)
theorem of_prog {b : LB} {x : Int} (h0 : 0 ≤ x) (h1 : x / 2 < b.length) (h2 : x ≤ 9223372036854775807) : F_aig_values_of b x = some (of2 b x) := by
 have hi : (x / 2).toNat < b.length := by omega
 unfold F_aig_values_of
 simp only [eq_def, shr1, band1 h0 h2, br_def, ix_def, ni_def, len_def, decide_eq_true_eq, tn_def, rd_lt hi, nt_def, bq_def]
 rw [if_pos (by omega)]
 unfold of2
 rw [getD_lt hi]; rfl
def ValsI (g : TAig) (i : Nat) (b : LB) : Prop := (b.length : Int) = fst0 g + i
theorem ValsI.step {g : TAig} {i : Nat} {b : LB} (h : ValsI g i b) (x : Int × Int) : ValsI g (i + 1) (step2 b x) := by
 unfold ValsI at *
 simp only [step2, List.length_append, List.length_singleton]; omega
theorem ValsI.all {g : TAig} : ∀ (l : List (Int × Int)) (i : Nat) (b : LB), ValsI g i b → ValsI g (i + l.length) (l.foldl step2 b) := by
 intro l
 induction l with
 | nil => intro i b h; exact h
 | cons x l ih => intro i b h; have := ih (i + 1) _ (h.step x); rw [show i + (x :: l).length = i + 1 + l.length by simp; omega]; exact this
theorem vals0 {g : TAig} {inp st : LB} (h1 : (inp.length : Int) = g.1) (h3 : st.length = g.2.1.length) : ValsI g 0 (([false] ++ inp) ++ st) := by
 have hf : fst0 g = 1 + g.1 + g.2.1.length := rfl
 unfold ValsI
 simp only [List.length_append, List.length_singleton]; omega
theorem vals_end {g : TAig} {inp st : LB} (h : ValsI g 0 (([false] ++ inp) ++ st)) : ((all2 g inp st).length : Int) = siz g := by
 have := ValsI.all g.2.2.1 0 _ h
 rw [Nat.zero_add] at this
 exact this
theorem all_prog {g : TAig} (v : AigV g) (hb : AigB g) {inp st : LB} (h1 : (inp.length : Int) = g.1) (h3 : st.length = g.2.1.length) : F_aig_all g inp st = some (all2 g inp st) := by
 have hs : siz g = fst0 g + g.2.2.1.length := rfl
 have hf : fst0 g = 1 + g.1 + g.2.1.length := rfl
 have vs := v.sz
 have v0 := v.i0
 obtain ⟨b1, b2, b3⟩ := hb
 have l := iterS_fold (f := F_aig_all_l0 g inp st (siz g)) g.2.2.1 (fun i b => ((i : Int), b, ())) step2 (fun out => .inl ((g.2.2.1.length : Int), out, ())) (ValsI g)
  (fun i b hi ho => by
   refine ⟨?_, ho.step _⟩; have ho : (b.length : Int) = fst0 g + i := ho; obtain ⟨a1, a2, a3, a4⟩ := v.and i hi; have e : b.length + 1 ≤ 140737488355328 := by omega
   have q1 := of_prog (b := b) a1 (by omega) (by omega); have q2 := of_prog (b := b) a3 (by omega) (by omega); simp (disch := omega) only [F_aig_all_l0, br_def, lt_def, ni_def, len_def, ix_def, tn_nat, rd_lt hi, q1, q2, ob_some, fits_def, ad_def, wr64, app_def, decide_eq_true_eq, List.length_singleton, e, if_true]; rw [if_pos (by omega), if_pos (by omega)]; unfold step2; cases of2 b (g.2.2.1[i]).1 <;> rfl)
  (fun out ho => by simp [F_aig_all_l0]) (vals0 h1 h3)
 unfold F_aig_all
 rw [show F_aig_size (g.1, (g.2.1, (g.2.2.1, g.2.2.2))) = some (siz g) from F_aig_size_eq g ⟨b1, b2, b3⟩ v.i0 (by omega), ob_some]
 simp only [br_def, rg_def, le_def, ml_def, fits_def, len_def, rept_def, app_def, decide_eq_true_eq, show tn 1 = 1 from rfl, List.replicate_one, List.length_append, List.length_singleton]
 rw [if_pos (by omega), if_pos (by omega), if_pos (by omega), if_pos (by omega), if_pos (by omega), show ((0 : Int), ((([false] ++ inp) ++ st), ())) = (((0 : Nat) : Int), (([false] ++ inp) ++ st), ()) from rfl, l]
 rfl
theorem ends_prog {g : TAig} (v : AigV g) (hb : AigB g) {b : LB} (hl : (b.length : Int) = siz g) : F_aig_ends g b = some (outs2 g b, next2 g b) := by
 have vs := v.sz
 have vo := v.outs
 obtain ⟨b1, b2, b3⟩ := hb
 have l0 := iterS_fold (f := F_aig_ends_l0 g b) g.2.2.2 (fun i out => ((i : Int), out, ())) (fun out x => out ++ [of2 b x]) (fun out => .inl ((g.2.2.2.length : Int), out, ())) (fun i out => out.length = i)
  (fun i out hi ho => by
   refine ⟨?_, by simp [ho]⟩; obtain ⟨a1, a2⟩ := v.out _ (List.getElem_mem hi); have e : i + 1 ≤ 140737488355328 := by omega
   have q := of_prog (b := b) a1 (by omega) (by omega); simp (disch := omega) [F_aig_ends_l0, rd_lt hi, wr64, hi, ho, e, q])
  (fun out ho => by simp [F_aig_ends_l0]) (b := []) rfl
 have l1 : ∀ y1, _ := fun y1 => iterS_fold (f := F_aig_ends_l1 g b y1) g.2.1 (fun i out => ((i : Int), out, ())) (fun out x => out ++ [of2 b x.1]) (fun out => .inl ((g.2.1.length : Int), out, ())) (fun i out => out.length = i)
  (fun i out hi ho => by
   refine ⟨?_, by simp [ho]⟩; obtain ⟨a1, a2, a3⟩ := v.lat _ (List.getElem_mem hi); have e : i + 1 ≤ 140737488355328 := by omega
   have q := of_prog (b := b) a1 (by omega) (by omega); simp (disch := omega) [F_aig_ends_l1, rd_lt hi, wr64, hi, ho, e, q])
  (fun out ho => by simp [F_aig_ends_l1]) (b := []) rfl
 rw [foldl_snoc] at l0
 unfold F_aig_ends
 rw [show ((0 : Int), (([] : LB), ())) = ((((0 : Nat) : Int)), ([], ())) from rfl, l0, oj_inl, l1, oj_inl, foldl_snoc]; rfl
theorem start_prog {g : TAig} (hc : chk g = 0) (hb : AigB g) : F_aig_Start g = some (start2 g) := by
 have vs := (chk_ok hc).sz
 have hs : siz g = fst0 g + g.2.2.1.length := rfl
 have hf : fst0 g = 1 + g.1 + g.2.1.length := rfl
 have v0 := (chk_ok hc).i0
 have hb' := hb
 obtain ⟨b1, b2, b3⟩ := hb
 have l := iterS_upto (f := F_aig_Start_l0 g (chk g)) (fun j => ((j : Int), ((g.2.1.take j).map (fun l : Int × Int => decide (l.2 = 1)) ++ List.replicate (g.2.1.length - j) false, ()))) g.2.1.length (r := .inl ((g.2.1.length : Int), (start2 g, ())))
  (fun j hj => by
   have e : j < ((g.2.1.take j).map (fun l : Int × Int => decide (l.2 = 1)) ++ List.replicate (g.2.1.length - j) false).length := by simp; omega
   simp only [F_aig_Start_l0, br_def, lt_def, ni_def, len_def, ix_def, tn_nat, rd_lt hj, decide_eq_true_eq, ad_def, put_def, eq_def]; rw [if_pos (by omega), if_pos (by omega), if_pos (by omega), wr64 (by omega) (by omega)]; rw [show (decide ((g.2.1[j]).2 = 1)) = (fun l : Int × Int => decide (l.2 = 1)) g.2.1[j] from rfl, set_map _ _ _ _ hj]; rfl)
  (by simp [F_aig_Start_l0, start2])
 unfold F_aig_Start
 rw [show F_aig_Check (g.1, (g.2.1, (g.2.2.1, g.2.2.2))) = some (chk g) from F_aig_Check_eq g hb', ob_some]
 simp only [br_def, ne_def, rg_def, le_def, ml_def, ni_def, len_def, rept_def, decide_eq_true_eq]
 rw [if_neg (by omega), if_pos (by omega), if_pos (by omega), if_pos (by omega), tn_nat]
 simp only [List.take_zero, List.map_nil, List.nil_append, Nat.sub_zero] at l
 rw [show ((0 : Int), (List.replicate g.2.1.length false, ())) = (((0 : Nat) : Int), (List.replicate g.2.1.length false, ())) from rfl, l, oj_inl]
def sim2 (g : TAig) : LLB → LB → LLB × LLB
 | [], _ => ([], [])
 | inp :: r, st => (outs2 g (all2 g inp st) :: (sim2 g r (next2 g (all2 g inp st))).1, next2 g (all2 g inp st) :: (sim2 g r (next2 g (all2 g inp st))).2)
def wide (g : TAig) (r : LB) : Option Unit := if (r.length : Int) = g.1 then none else some ()
def run2 (g : TAig) (t : LLB) : LLB × (LLB × Int) := if chk g ≠ 0 then ([], ([], chk g)) else if 64 < (t.length : Int) then ([], ([], 5)) else
 (t.findSome? (wide g)).elim ((sim2 g t (start2 g)).1, (start2 g :: (sim2 g t (start2 g)).2, 0)) fun _ => ([], ([], 12))
theorem wide_ok {g : TAig} {t : LLB} (h : t.findSome? (wide g) = none) : ∀ r ∈ t, (r.length : Int) = g.1 := fun r hr => by
 have := List.findSome?_eq_none_iff.1 h r hr
 unfold wide at this
 split at this
 ·assumption
 ·cases this
def stp2 (g : TAig) (x : LB × LLB × LLB) (inp : LB) : LB × LLB × LLB := (next2 g (all2 g inp x.1), x.2.1 ++ [outs2 g (all2 g inp x.1)], x.2.2 ++ [next2 g (all2 g inp x.1)])
theorem fold2 (g : TAig) : ∀ (p : LLB) (st : LB) (o s : LLB), (p.foldl (stp2 g) (st, o, s)).2 = (o ++ (sim2 g p st).1, s ++ (sim2 g p st).2) := by
 intro p
 induction p with
 | nil => intro st o s; simp [sim2]
 | cons inp r ih => intro st o s; simp only [List.foldl_cons, stp2, ih, sim2, List.append_assoc, List.singleton_append]
theorem next2_len (g : TAig) (b : LB) : (next2 g b).length = g.2.1.length := by simp [next2]
theorem loop_prog {g : TAig} (hc : chk g = 0) (hb : AigB g) {t : LLB} (ht : ∀ r ∈ t, (r.length : Int) = g.1) (hn : t.length ≤ 64) {y5 y6} {o s : LLB} (ho : o.length ≤ 1) (hs : s.length ≤ 1) {st : LB} (hst : st.length = g.2.1.length) :
  iterS (F_aig_Run_l2 g t (chk g) y5 y6) (0, (st, (o, (s, ())))) = some (.inl ((t.length : Int), ((t.foldl (stp2 g) (st, o, s)).1, ((t.foldl (stp2 g) (st, o, s)).2.1, ((t.foldl (stp2 g) (st, o, s)).2.2, ()))))) := by
 have v := chk_ok hc
 exact iterS_fold (f := F_aig_Run_l2 g t (chk g) y5 y6) t (fun i (x : LB × LLB × LLB) => ((i : Int), x.1, x.2.1, x.2.2, ())) (stp2 g) (fun x => .inl ((t.length : Int), x.1, x.2.1, x.2.2, ()))
  (fun i x => x.1.length = g.2.1.length ∧ x.2.1.length ≤ i + 1 ∧ x.2.2.length ≤ i + 1)
  (fun i x hi ⟨q1, q2, q3⟩ => by
   refine ⟨?_, next2_len _ _, by simp [stp2]; omega, by simp [stp2]; omega⟩; have h1 := ht _ (List.getElem_mem hi); have e1 : F_aig_all (g.1, (g.2.1, (g.2.2.1, g.2.2.2))) t[i] x.1 = some (all2 g t[i] x.1) := all_prog v hb h1 q1; have e2 : F_aig_ends (g.1, (g.2.1, (g.2.2.1, g.2.2.2))) (all2 g t[i] x.1) = some (outs2 g (all2 g t[i] x.1), next2 g (all2 g t[i] x.1)) := ends_prog v hb (vals_end (vals0 h1 q1)); simp only [F_aig_Run_l2, br_def, lt_def, ni_def, len_def, ix_def, tn_nat, rd_lt hi, decide_eq_true_eq, e1, e2, ob_some, fits_def, ad_def, app_def, List.length_singleton]
   rw [if_pos (by omega), if_pos (by omega), if_pos (by omega), if_pos (by omega), wr64 (by omega) (by omega)]; rfl)
  (fun x _ => by simp [F_aig_Run_l2]) (b := (st, o, s)) ⟨hst, by omega, by omega⟩
theorem start2_len (g : TAig) : (start2 g).length = g.2.1.length := by simp [start2]
theorem run_prog {g : TAig} (hb : AigB g) (t : LLB) : F_aig_Run g t = some (run2 g t) := by
 unfold F_aig_Run run2
 rw [show F_aig_Check (g.1, (g.2.1, (g.2.2.1, g.2.2.2))) = some (chk g) from F_aig_Check_eq g hb, ob_some]
 simp only [br_def, ne_def, lt_def, ni_def, len_def, decide_eq_true_eq]
 by_cases hc : chk g ≠ 0
 ·rw [if_pos hc, if_pos hc]
 rw [if_neg hc, if_neg hc]
 by_cases hl : 64 < (t.length : Int)
 ·rw [if_pos hl, if_pos hl]
 rw [if_neg hl, if_neg hl]
 have hc0 : chk g = 0 := by omega
 have outer := iterS_find (f := F_aig_Run_l0 g t (chk g)) t (fun i => ((i : Int), ())) (wide g) (.inl ((t.length : Int), ())) (fun _ => .inr ([], ([], 12)))
  (fun i hi => by
   simp only [F_aig_Run_l0, br_def, lt_def, ni_def, len_def, ix_def, tn_nat, rd_lt hi, decide_eq_true_eq, ne_def, inR_some', ad_def, le_def]; rw [if_pos (by omega), if_pos (by omega), if_pos (show (0 : Int) ≤ (i : Int) by omega), wr64 (by omega) (by omega)]; unfold wide; by_cases e : (t[i].length : Int) = g.1
   ·rw [if_neg (by simpa using e), if_pos e]; rfl
   ·rw [if_pos e, if_neg e]; rfl)
  (by simp [F_aig_Run_l0])
 rw [show ((0 : Int), ()) = (((0 : Nat) : Int), ()) from rfl, outer]
 cases e : t.findSome? (wide g) with
 | some _ => rfl
 | none =>
  simp only [Option.elim_none]; rw [oj_inl, show F_aig_Start (g.1, (g.2.1, (g.2.2.1, g.2.2.2))) = some (start2 g) from start_prog hc0 hb, ob_some]; simp only [fits_def, List.length_singleton, decide_eq_true_eq]; rw [if_pos (by omega), loop_prog hc0 hb (wide_ok e) (by omega) (by simp) (by simp) (start2_len g), oj_inl, fold2]; rfl
theorem flat_take {α : Type} (a : List (List α)) (i : Nat) (h : i < a.length) : (a.take (i + 1)).flatten = (a.take i).flatten ++ a[i] := by
 rw [← List.take_append_getElem h, List.flatten_append]; simp
theorem flat_le {α : Type} (a : List (List α)) (i : Nat) : (a.take i).flatten.length ≤ a.flatten.length := by
 have := congrArg List.length (congrArg List.flatten (List.take_append_drop i a))
 rw [List.flatten_append, List.length_append] at this
 omega
abbrev yAig : Ty := .st (.pair (.int .i64) (.pair (.slice (.st (.pair (.int .i64) (.int .u8)))) (.pair (.slice (.st (.pair (.int .i64) (.int .i64)))) (.slice (.int .i64)))))
theorem cut_eq {α : Type} (l : List α) (n : Nat) : cut l 0 n = l.take n := by simp
theorem mn_take {α : Type} (l : List α) (n : Nat) : cut l 0 (tn (mn (ni (len l)) n)) = l.take n := by
 rw [cut_eq]
 simp only [mn_def, ni_def, len_def, tn_def]
 split
 ·rw [show ((n : Nat) : Int).toNat = n from Int.toNat_natCast n]
 ·rw [Int.toNat_natCast, List.take_length, List.take_of_length_le (by omega)]
theorem mn_rg {α : Type} (l : List α) (n : Nat) : rg 0 (mn (ni (len l)) n) (ni (len l)) = true := by
 simp only [rg_def, mn_def, ni_def, len_def, decide_eq_true_eq]
 split <;> omega
theorem aig_len {g : TAig} (h : WfT yAig g) : g.2.1.length ≤ 8796093021952 ∧ g.2.2.1.length ≤ 8796093021952 ∧ g.2.2.2.length ≤ 17592186043904 := by
 obtain ⟨-, h1, h2, h3⟩ := h
 have h1 := h1.1
 have h2 := h2.1
 have h3 := h3.1
 simp [Ty.bytes, Ty.ends, Ty.align, kindBytes, IntKind.bits, up] at h1 h2 h3
 omega
abbrev TMach : Type := TAig × (LStr × (LStr × LStr))
theorem F_slices_Concat_bool_bool_eq (a : LLB) (h : a.length ≤ 140737488355328) (h2 : a.flatten.length ≤ 140737488355328) : F_slices_Concat_bool_bool a = some a.flatten := by
 have l0 := iterS_upto (f := F_slices_Concat_bool_bool_l0 a) (fun i => ((i : Int), ((a.take i).flatten.length : Int), ())) a.length (r := .inl ((a.length : Int), (a.flatten.length : Int), ()))
  (fun i hi => by
   have e := flat_take a i hi; have e2 := flat_le a (i + 1); have e3 := congrArg List.length e; rw [List.length_append] at e3; simp only [F_slices_Concat_bool_bool_l0, br_def, lt_def, ni_def, len_def, ix_def, tn_nat, rd_lt hi, decide_eq_true_eq, ad_def]; rw [if_pos (by omega), if_pos (by omega), wr64 (by omega) (by omega), if_neg (by omega), wr64 (by omega) (by omega), e3]; rfl)
  (by simp [F_slices_Concat_bool_bool_l0])
 have l1 : ∀ y0, iterS (F_slices_Concat_bool_bool_l1 a y0) (0, ([], ())) = some (.inl ((a.length : Int), a.flatten, ())) := fun y0 => by
  have := iterS_upto (f := F_slices_Concat_bool_bool_l1 a y0) (fun i => ((i : Int), (a.take i).flatten, ())) a.length (r := .inl ((a.length : Int), a.flatten, ()))
   (fun i hi => by
    have e := flat_take a i hi; have e2 := flat_le a (i + 1); have e3 := congrArg List.length e; rw [List.length_append] at e3; simp only [F_slices_Concat_bool_bool_l1, br_def, lt_def, ni_def, len_def, ix_def, tn_nat, rd_lt hi, decide_eq_true_eq, ad_def, fits_def, app_def]; rw [if_pos (by omega), if_pos (by omega), if_pos (by omega), wr64 (by omega) (by omega), e]; rfl)
   (by simp [F_slices_Concat_bool_bool_l1])
  simpa using this
 have l2 : ∀ y0, iterS (F_slices_Concat_bool_bool_l2 a y0) (0, ([], ())) = some (.inl ((a.length : Int), a.flatten, ())) := l1
 unfold F_slices_Concat_bool_bool
 rw [show ((0 : Int), ((0 : Int), ())) = (((0 : Nat) : Int), ((a.take 0).flatten.length : Int), ()) by simp, l0, oj_inl]
 simp only [br_def, lt_def, sb_def, ni_def, len_def, rept_def, cut_def, rg_def, fits_def, decide_eq_true_eq]
 rw [if_neg (by omega), show wr .i64 (0 - ((0 : Nat) : Int)) = 0 from wr64 (by decide) (by decide), wr64 (by omega) (by omega)]
 by_cases h0 : a.flatten.length = 0
 ·rw [if_neg (by omega), l2]
 ·have e : tn ((a.flatten.length : Int) - 0) = a.flatten.length := by
   show Int.toNat _ = _; omega
  rw [if_pos (by omega), if_pos (by omega), e, if_pos (by omega), if_pos (by simp)]; rw [show tn (((0 : Nat) : Int)) = 0 from rfl, List.take_zero, l1]
theorem F_slices_Concat_string_string_eq (a : List LStr) (h : a.length ≤ 140737488355328) (h2 : a.flatten.length ≤ 8796093022208) : F_slices_Concat_string_string a = some a.flatten := by
 have l0 := iterS_upto (f := F_slices_Concat_string_string_l0 a) (fun i => ((i : Int), ((a.take i).flatten.length : Int), ())) a.length (r := .inl ((a.length : Int), (a.flatten.length : Int), ()))
  (fun i hi => by
   have e := flat_take a i hi; have e2 := flat_le a (i + 1); have e3 := congrArg List.length e; rw [List.length_append] at e3; simp only [F_slices_Concat_string_string_l0, br_def, lt_def, ni_def, len_def, ix_def, tn_nat, rd_lt hi, decide_eq_true_eq, ad_def]; rw [if_pos (by omega), if_pos (by omega), wr64 (by omega) (by omega), if_neg (by omega), wr64 (by omega) (by omega), e3]; rfl)
  (by simp [F_slices_Concat_string_string_l0])
 have l1 : ∀ y0, iterS (F_slices_Concat_string_string_l1 a y0) (0, ([], ())) = some (.inl ((a.length : Int), a.flatten, ())) := fun y0 => by
  have := iterS_upto (f := F_slices_Concat_string_string_l1 a y0) (fun i => ((i : Int), (a.take i).flatten, ())) a.length (r := .inl ((a.length : Int), a.flatten, ()))
   (fun i hi => by
    have e := flat_take a i hi; have e2 := flat_le a (i + 1); have e3 := congrArg List.length e; rw [List.length_append] at e3; simp only [F_slices_Concat_string_string_l1, br_def, lt_def, ni_def, len_def, ix_def, tn_nat, rd_lt hi, decide_eq_true_eq, ad_def, fits_def, app_def]; rw [if_pos (by omega), if_pos (by omega), if_pos (by omega), wr64 (by omega) (by omega), e]; rfl)
   (by simp [F_slices_Concat_string_string_l1])
  simpa using this
 have l2 : ∀ y0, iterS (F_slices_Concat_string_string_l2 a y0) (0, ([], ())) = some (.inl ((a.length : Int), a.flatten, ())) := l1
 unfold F_slices_Concat_string_string
 rw [show ((0 : Int), ((0 : Int), ())) = (((0 : Nat) : Int), ((a.take 0).flatten.length : Int), ()) by simp, l0, oj_inl]
 simp only [br_def, lt_def, sb_def, ni_def, len_def, rept_def, cut_def, rg_def, fits_def, decide_eq_true_eq]
 rw [if_neg (by omega), show wr .i64 (0 - ((0 : Nat) : Int)) = 0 from wr64 (by decide) (by decide), wr64 (by omega) (by omega)]
 by_cases h0 : a.flatten.length = 0
 ·rw [if_neg (by omega), l2]
 ·have e : tn ((a.flatten.length : Int) - 0) = a.flatten.length := by
   show Int.toNat _ = _; omega
  rw [if_pos (by omega), if_pos (by omega), e, if_pos (by omega), if_pos (by simp)]; rw [show tn (((0 : Nat) : Int)) = 0 from rfl, List.take_zero, l1]
def cs (v : Bool) : Str := if v = true then [49] else [48]
theorem cs_inj {a b : Bool} : cs a = cs b ↔ a = b := by cases a <;> cases b <;> simp [cs]
def chg (k : Nat) (was now : LB) (i : Nat) : Bool := decide (k = 0) || now.getD i false != was.getD i false
def chgI (k : Nat) (was now : LB) (i : Nat) : Option TChg := if chg k was now i = true then some ((k : Int), ((i : Int), cs (now.getD i false))) else none
def chgs (k : Nat) (was now : LB) (n : Nat) : List TChg := (List.range n).filterMap (chgI k was now)
theorem chgs_succ (k : Nat) (was now : LB) (n : Nat) : chgs k was now (n + 1) = chgs k was now n ++ (if chg k was now n = true then [((k : Int), ((n : Int), cs (now.getD n false)))] else []) := by
 unfold chgs
 rw [List.range_succ, List.filterMap_append]
 congr 1
 simp only [List.filterMap_cons, List.filterMap_nil, chgI]
 split <;> rename_i h
 ·split at h
  ·cases h
  ·rename_i q; rw [if_neg q]
 ·split at h
  ·rename_i q; rw [if_pos q]; cases h; rfl
  ·cases h
theorem chgs_len (k : Nat) (was now : LB) (n : Nat) : (chgs k was now n).length ≤ n := by
 have := List.length_filterMap_le (chgI k was now) (List.range n)
 rw [List.length_range] at this
 exact this
theorem bit_cut (v : Bool) : rg (bit3 v) (wr .u8 (ad (bit3 v) 1)) (ni (len ([48, 49, 120] : Str))) = true ∧ cut ([48, 49, 120] : Str) (tn (bit3 v)) (nsub (tn (wr .u8 (ad (bit3 v) 1))) (tn (bit3 v))) = cs v := by
 cases v <;> exact ⟨by decide, by decide⟩
theorem row_prog {m : TMach} {t : LLB} {y0 y1 y2 y3} {k : Nat} {was now : LB} {ch : List TChg} (hw : k ≠ 0 → was.length = now.length) (hn : ch.length + now.length ≤ 4000000000000) :
  iterS (F_trace_Wave_l2 m t y0 y1 y2 y3 ((k : Int), (was, (ch, ()))) now) (0, (ch, ())) = some (.inl ((now.length : Int), (ch ++ chgs k was now now.length, ()))) := by
 have := iterS_upto (f := F_trace_Wave_l2 m t y0 y1 y2 y3 ((k : Int), (was, (ch, ()))) now) (fun i => ((i : Int), (ch ++ chgs k was now i, ()))) now.length (r := .inl ((now.length : Int), (ch ++ chgs k was now now.length, ())))
  (fun i hi => by
   obtain ⟨b1, b2⟩ := bit_cut now[i]; have hl := chgs_len k was now i; simp only [F_trace_Wave_l2, br_def, lt_def, rd_lt hi, F_trace_bit_eq, ob_some, b1, b2, if_true, app_def]; simp only [ni_def, len_def, ix_def, tn_nat, decide_eq_true_eq, ad_def, bq_def, rd_lt hi, F_trace_bit_eq, ob_some, b1, b2, fits_def, List.length_append, List.length_singleton, if_true]; rw [if_pos (by omega), if_pos (by omega), wr64 (by omega) (by omega), chgs_succ]; have hf : List.length ch + (chgs k was now i).length + 1 ≤ 4398046511104 := by omega
   by_cases h0 : k = 0
   ·subst h0
    rw [if_neg (by simp), if_pos hf, if_pos (by simp [chg])]; simp [hi]
   ·have hi' : i < was.length := by rw [hw h0]; exact hi
    rw [if_pos (by omega), if_pos (by omega)]; simp only [rd_lt hi']; by_cases e : now[i] = was[i]
    ·rw [if_pos (by simp [e]), if_neg (by simp [chg, h0, hi, hi', e])]
     simp
    ·rw [if_neg (by simpa using e), if_pos hf, if_pos (by simp [chg, h0, hi, hi', e])]
     simp [hi])
  (by simp [F_trace_Wave_l2])
 simpa [chgs] using this
def rowK (t s o : LLB) (k : Nat) : LB := (t.getD k [] ++ s.getD k []) ++ o.getD k []
def wasK (t s o : LLB) : Nat → LB
 | 0 => []
 | k + 1 => rowK t s o k
def chUp (t s o : LLB) : Nat → List TChg
 | 0 => []
 | k + 1 => chUp t s o k ++ chgs k (wasK t s o k) (rowK t s o k) (rowK t s o k).length
def names (m : TMach) : LStr := (m.2.1 ++ m.2.2.1) ++ m.2.2.2
def vars (m : TMach) : List TVar := (names m).map fun n => ([], (n, 1))
def wave (m : TMach) (t : LLB) : TWave × Int :=
 if chk m.1 ≠ 0 then (([], ([], [])), chk m.1) else if (m.2.1.length : Int) ≠ m.1.1 then (([], ([], [])), 12) else if m.2.2.1.length ≠ m.1.2.1.length then (([], ([], [])), 12) else if m.2.2.2.length ≠ m.1.2.2.2.length then (([], ([], [])), 12) else
 if (run2 m.1 t).2.2 ≠ 0 then (([], ([], [])), (run2 m.1 t).2.2) else (([49, 110, 115], (vars m, chUp t (run2 m.1 t).2.1 (run2 m.1 t).1 t.length)), 0)
theorem sim2_len (g : TAig) : ∀ (t : LLB) (st : LB), (sim2 g t st).1.length = t.length ∧ (sim2 g t st).2.length = t.length := by
 intro t
 induction t with
 | nil => intro st; exact ⟨rfl, rfl⟩
 | cons i t ih => intro st; exact ⟨by simp [sim2, (ih _).1], by simp [sim2, (ih _).2]⟩
theorem sim2_row (g : TAig) : ∀ (t : LLB) (st : LB), (∀ o ∈ (sim2 g t st).1, o.length = g.2.2.2.length) ∧ ∀ s ∈ (sim2 g t st).2, s.length = g.2.1.length := by
 intro t
 induction t with
 | nil => intro st; exact ⟨fun o h => (by cases h), fun o h => (by cases h)⟩
 | cons i t ih =>
  intro st; refine ⟨fun o h => ?_, fun s h => ?_⟩
  ·rcases List.mem_cons.1 h with rfl | h
   ·simp [outs2]
   ·exact (ih _).1 o h
  ·rcases List.mem_cons.1 h with rfl | h
   ·simp [next2]
   ·exact (ih _).2 s h
structure RunOk (g : TAig) (t : LLB) : Prop where
 c : chk g = 0
 n : t.length ≤ 64
 lo : (run2 g t).1.length = t.length
 ls : (run2 g t).2.1.length = t.length + 1
 row : ∀ k, k < t.length → (rowK t (run2 g t).2.1 (run2 g t).1 k).length = g.1.toNat + g.2.1.length + g.2.2.2.length
theorem run_ok {g : TAig} {t : LLB} (h : (run2 g t).2.2 = 0) (hc : chk g = 0) : RunOk g t := by
 unfold run2 at h
 rw [if_neg (by omega)] at h
 split at h
 ·cases h
 ·rename_i hl
  cases e : t.findSome? (wide g) with
  | some _ => rw [e] at h; cases h
  | none =>
   have hr : run2 g t = ((sim2 g t (start2 g)).1, (start2 g :: (sim2 g t (start2 g)).2, 0)) := by
    unfold run2; rw [if_neg (by omega), if_neg hl, e]; rfl
   refine ⟨hc, by omega, by rw [hr]; exact (sim2_len g t _).1, by rw [hr]; simp [(sim2_len g t _).2], fun k hk => ?_⟩; have h1 := wide_ok e _ (List.getElem_mem hk); have q1 : k < (sim2 g t (start2 g)).1.length := by rw [(sim2_len g t _).1]; exact hk
   have q2 : k < (start2 g :: (sim2 g t (start2 g)).2).length := by simp [(sim2_len g t _).2]; omega
   rw [hr]; unfold rowK; rw [getD_lt hk, getD_lt q1, getD_lt q2, List.length_append, List.length_append, (sim2_row g t _).1 _ (List.getElem_mem q1)]; have h2 : (start2 g :: (sim2 g t (start2 g)).2)[k].length = g.2.1.length := by
    rcases List.mem_cons.1 (List.getElem_mem q2) with e | e
    ·rw [e]; exact start2_len g
    ·exact (sim2_row g t _).2 _ e
   rw [h2]; omega
theorem chUp_len {t s o : LLB} {w : Nat} : ∀ k, (∀ j, j < k → (rowK t s o j).length = w) → (chUp t s o k).length ≤ k * w := by
 intro k
 induction k with
 | zero => intro _; simp [chUp]
 | succ k ih =>
  intro h; have := ih fun j hj => h j (by omega)
  have h2 := chgs_len k (wasK t s o k) (rowK t s o k) (rowK t s o k).length; rw [h k (by omega)] at h2; simp only [chUp, List.length_append, h k (by omega)]; rw [Nat.add_mul]; omega
theorem wasK_len {t s o : LLB} {w : Nat} {k : Nat} (h : ∀ j, j < k → (rowK t s o j).length = w) (hk : k ≠ 0) : (wasK t s o k).length = w := by
 cases k with
 | zero => exact absurd rfl hk
 | succ k => exact h k (by omega)
def WvB (m : TMach) : Prop := m.2.1.length ≤ 1000 ∧ m.2.2.1.length ≤ 1000 ∧ m.2.2.2.length ≤ 1000
theorem wave_prog {m : TMach} (hb : AigB m.1) (hm : WvB m) (t : LLB) : F_trace_Wave m t = some (wave m t) := by
 obtain ⟨m1, m2, m3⟩ := hm
 unfold F_trace_Wave wave
 rw [show F_aig_Check (m.1.1, (m.1.2.1, (m.1.2.2.1, m.1.2.2.2))) = some (chk m.1) from F_aig_Check_eq m.1 hb, ob_some]
 simp only [br_def, ne_def, ni_def, len_def, decide_eq_true_eq]
 by_cases h1 : chk m.1 ≠ 0
 ·rw [if_pos h1, if_pos h1]
 rw [if_neg h1, if_neg h1]
 by_cases h2 : (m.2.1.length : Int) ≠ m.1.1
 ·rw [if_pos h2, if_pos h2]
 rw [if_neg h2, if_neg h2]
 by_cases h3 : m.2.2.1.length ≠ m.1.2.1.length
 ·rw [if_pos (by omega), if_pos h3]
 rw [if_neg (by omega), if_neg h3]
 by_cases h4 : m.2.2.2.length ≠ m.1.2.2.2.length
 ·rw [if_pos (by omega), if_pos h4]
 rw [if_neg (by omega), if_neg h4, show F_aig_Run (m.1.1, (m.1.2.1, (m.1.2.2.1, m.1.2.2.2))) t = some (run2 m.1 t) from run_prog hb t, ob_some]
 by_cases h5 : (run2 m.1 t).2.2 ≠ 0
 ·rw [if_pos h5, if_pos h5]
 rw [if_neg h5, if_neg h5]
 have ok := run_ok (by omega : (run2 m.1 t).2.2 = 0) (by omega)
 have hn := ok.n
 generalize hR : run2 m.1 t = R at ok h5
 have okr : ∀ k, k < t.length → (rowK t R.2.1 R.1 k).length ≤ 3000 ∧ (rowK t R.2.1 R.1 k).length = m.1.1.toNat + m.1.2.1.length + m.1.2.2.2.length := fun k hk => by
  have := ok.row k hk; rw [hR] at this; omega
 have okl := ok.lo; rw [hR] at okl
 have oks := ok.ls; rw [hR] at oks
 have e77 : F_slices_Concat_string_string [m.2.1, m.2.2.1, m.2.2.2] = some (names m) := by
  rw [F_slices_Concat_string_string_eq _ (by simp) (by simp; omega)]; simp [names]
 rw [e77, ob_some]
 have hnl : (names m).length ≤ 3000 := by simp [names]; omega
 have lv := iterS_fold (f := F_trace_Wave_l0 m t (chk m.1) R (names m)) (names m) (fun i out => ((i : Int), out, ())) (fun out n => out ++ [(([], (n, 1)) : TVar)]) (fun out => .inl (((names m).length : Int), out, ())) (fun i out => out.length = i)
  (fun i out hi ho => by
   refine ⟨?_, by simp [ho]⟩; have e : i + 1 ≤ 2932031007402 := by omega
   simp (disch := omega) [F_trace_Wave_l0, rd_lt hi, wr64, hi, ho, e])
  (fun out ho => by simp [F_trace_Wave_l0]) (b := []) rfl
 rw [foldl_snoc] at lv
 rw [show ((0 : Int), (([] : List TVar), ())) = ((((0 : Nat) : Int)), ([], ())) from rfl, lv, oj_inl]
 have lc := iterS_upto (f := F_trace_Wave_l1 m t (chk m.1) R (names m) (((names m).length : Int), ([] ++ (names m).map fun n => (([], (n, 1)) : TVar), ()))) (fun k => ((k : Int), (wasK t R.2.1 R.1 k, (chUp t R.2.1 R.1 k, ())))) t.length (r := .inl ((t.length : Int), (wasK t R.2.1 R.1 t.length, (chUp t R.2.1 R.1 t.length, ()))))
  (fun k hk => by
   have k1 : k < R.2.1.length := by omega
   have k2 : k < R.1.length := by omega
   obtain ⟨r1, r2⟩ := okr k hk; have hch := chUp_len (t := t) (s := R.2.1) (o := R.1) k fun j hj => (okr j (by omega)).2
   have hrow : rowK t R.2.1 R.1 k = (t[k] ++ R.2.1[k]) ++ R.1[k] := by unfold rowK; rw [getD_lt hk, getD_lt k1, getD_lt k2]
   have hmul : k * (m.1.1.toNat + m.1.2.1.length + m.1.2.2.2.length) ≤ 64 * 3000 := Nat.mul_le_mul (by omega) (by omega); have e78 : F_slices_Concat_bool_bool [t[k], R.2.1[k], R.1[k]] = some (rowK t R.2.1 R.1 k) := by
    have : ([t[k], R.2.1[k], R.1[k]] : LLB).flatten = rowK t R.2.1 R.1 k := by rw [hrow]; simp
    rw [F_slices_Concat_bool_bool_eq _ (by simp) (by rw [this]; omega), this]
   simp only [F_trace_Wave_l1, br_def, lt_def, ni_def, len_def, ix_def, tn_nat, rd_lt hk, rd_lt k1, rd_lt k2, decide_eq_true_eq, ad_def]; rw [if_pos (by omega), if_pos (by omega), if_pos (by omega), if_pos (by omega), e78, ob_some,
    row_prog (fun hk0 => by rw [wasK_len (fun j hj => (okr j (by omega)).2) hk0, r2]) (by omega), oj_inl, wr64 (by omega) (by omega)]
   rfl)
  (by simp [F_trace_Wave_l1])
 rw [show ((0 : Int), (([] : LB), (([] : List TChg), ()))) = ((((0 : Nat) : Int)), (wasK t R.2.1 R.1 0, (chUp t R.2.1 R.1 0, ()))) from rfl, lc, oj_inl]
 rfl
theorem chg_false {k : Nat} {was now : LB} {i : Nat} : chg k was now i = false ↔ k ≠ 0 ∧ now.getD i false = was.getD i false := by
 unfold chg
 by_cases h : k = 0
 ·simp [h]
 ·simp [h]
def setB (p : LLI) (k i : Nat) : LLI := p.set k ((p.getD k []).set i 2)
def m3 (v : Int) : Int := md v 3
def cov (a b : Int) : Prop := a = 2 ∨ a = b
def covL : LI → LI → Prop
 | [], [] => True
 | a :: r, b :: s => cov a b ∧ covL r s
 | _, _ => False
def covP : LLI → LLI → Prop
 | [], [] => True
 | a :: r, b :: s => covL a b ∧ covP r s
 | _, _ => False
def out3 (g : TAig) (n o : Nat) (p : LLI) : Int := ((sim3 g p (start3 g)).getD n []).getD o 0
def Dn (g : TAig) (n o : Nat) (p : LLI) (k i : Nat) : Prop := (p.getD k []).getD i 0 = 2 ∨ ∀ p', covP p' p → out3 g n o (setB p' k i) ≠ 1
def bring (x n : Int) : Int := (x.tmod n + n).tmod n
theorem bring_range {x n : Int} (h : 0 < n) : 0 ≤ bring x n ∧ bring x n < n := by
 have h1 := Int.lt_tmod_of_pos x h
 unfold bring
 rw [Int.tmod_eq_emod_of_nonneg (by omega)]
 exact ⟨Int.emod_nonneg _ (by omega), Int.emod_lt_of_pos _ h⟩
theorem bring_eq {x n : Int} (h : 0 < n) (h2 : n ≤ 1000000000) : F_r20_Bring x n = some (bring x n) := by
 have h1 := Int.lt_tmod_of_pos x h
 have h3 := Int.tmod_lt_of_pos x h
 unfold F_r20_Bring
 simp only [br_def, ne_def, decide_eq_true_eq, ad_def]
 rw [if_pos (by omega), if_pos (by omega), show md x n = x.tmod n from rfl, wr64 (by omega) (by omega)]; rfl
theorem mn_tn {α : Type} (l : List α) (n : Nat) : tn (mn (ni (len l)) (n : Int)) = (l.take n).length := by
 simp only [mn_def, ni_def, len_def]
 split
 ·rw [tn_nat, List.length_take]; omega
 ·rw [tn_nat, List.length_take]; omega
def mixI {α : Type} (f : Nat → α) (r : List α) (i : Nat) : List α := (List.range i).map f ++ r.drop i
theorem mixI_len {α : Type} {f : Nat → α} {r : List α} {i : Nat} (hi : i ≤ r.length) : (mixI f r i).length = r.length := by simp [mixI]; omega
theorem mixI_get {α : Type} {f : Nat → α} {r : List α} {i : Nat} (hi : i < r.length) (d : α) : rd (mixI f r i) i d = r[i] := by
 unfold mixI
 rw [rd_def, List.getD_eq_getElem?_getD, List.getElem?_append_right (by simp), List.length_map, List.length_range, Nat.sub_self, List.getElem?_drop, Nat.add_zero, List.getElem?_eq_getElem hi]; rfl
theorem mixI_set {α : Type} {f : Nat → α} {r : List α} {i : Nat} (hi : i < r.length) : (mixI f r i).set i (f i) = mixI f r (i + 1) := by
 unfold mixI
 rw [List.set_append_right _ _ (by simp), List.length_map, List.length_range, Nat.sub_self, List.drop_eq_getElem_cons hi, List.range_succ, List.map_append, List.append_assoc]; rfl
theorem mixI_end {α : Type} (f : Nat → α) (r : List α) : mixI f r r.length = (List.range r.length).map f := by simp [mixI]
def fit (g : TAig) (n : Nat) : TAig :=
 (bring g.1 ((n : Int) + 1),
  ((List.range (g.2.1.take n).length).map fun i => (bring ((g.2.1.take n).getD i (0, 0)).1 (2 * (1 + bring g.1 ((n : Int) + 1) + (g.2.1.take n).length + (g.2.2.1.take n).length)), md ((g.2.1.take n).getD i (0, 0)).2 2)),
  ((List.range (g.2.2.1.take n).length).map fun i => (bring ((g.2.2.1.take n).getD i (0, 0)).1 (2 * (1 + bring g.1 ((n : Int) + 1) + (g.2.1.take n).length + i)), bring ((g.2.2.1.take n).getD i (0, 0)).2 (2 * (1 + bring g.1 ((n : Int) + 1) + (g.2.1.take n).length + i)))),
  ((List.range (g.2.2.2.take n).length).map fun i => bring ((g.2.2.2.take n).getD i 0) (2 * (1 + bring g.1 ((n : Int) + 1) + (g.2.1.take n).length + (g.2.2.1.take n).length))))
theorem fit_len (g : TAig) (n : Nat) : (fit g n).2.1.length = (g.2.1.take n).length ∧ (fit g n).2.2.1.length = (g.2.2.1.take n).length ∧ (fit g n).2.2.2.length = (g.2.2.2.take n).length := by
 refine ⟨?_, ?_, ?_⟩ <;> simp only [fit, List.length_map, List.length_range]
theorem fit_fst (g : TAig) (n : Nat) : fst0 (fit g n) = 1 + bring g.1 ((n : Int) + 1) + (g.2.1.take n).length := by
 unfold fst0
 rw [(fit_len g n).1]; rfl
theorem fit_siz (g : TAig) (n : Nat) : siz (fit g n) = 1 + bring g.1 ((n : Int) + 1) + (g.2.1.take n).length + (g.2.2.1.take n).length := by
 unfold siz
 rw [fit_fst, (fit_len g n).2.1]
theorem md_le (x : Int) : md x 2 ≤ 1 := by
 have := Int.tmod_lt_of_pos x (show (0 : Int) < 2 by omega)
 show x.tmod 2 ≤ 1
 omega
theorem fit_chk (g : TAig) {n : Nat} (hn : n ≤ 100) : chk (fit g n) = 0 := by
 obtain ⟨l1, l2, l3⟩ := fit_len g n
 have t1 := List.length_take (i := n) (l := g.2.1)
 have t2 := List.length_take (i := n) (l := g.2.2.1)
 have t3 := List.length_take (i := n) (l := g.2.2.2)
 obtain ⟨r1, r2⟩ := bring_range (x := g.1) (n := (n : Int) + 1) (by omega)
 have e1 : (fit g n).1 = bring g.1 ((n : Int) + 1) := rfl
 have hf := fit_fst g n
 have hs := fit_siz g n
 have c1 : (List.range (fit g n).2.2.1.length).findSome? (andB (fit g n)) = none := by
  rw [List.findSome?_eq_none_iff]; intro i hi; have hi' : i < (fit g n).2.2.1.length := by simpa using hi
  have hi2 : i < (g.2.2.1.take n).length := by omega
  unfold andB litB; rw [getD_lt hi', hf]; have q1 := bring_range (x := ((g.2.2.1.take n).getD i (0, 0)).1) (n := 2 * (1 + bring g.1 ((n : Int) + 1) + (g.2.1.take n).length + i)) (by omega); have q2 := bring_range (x := ((g.2.2.1.take n).getD i (0, 0)).2) (n := 2 * (1 + bring g.1 ((n : Int) + 1) + (g.2.1.take n).length + i)) (by omega); have e : (fit g n).2.2.1[i] = (bring ((g.2.2.1.take n).getD i (0, 0)).1 (2 * (1 + bring g.1 ((n : Int) + 1) + (g.2.1.take n).length + i)), bring ((g.2.2.1.take n).getD i (0, 0)).2 (2 * (1 + bring g.1 ((n : Int) + 1) + (g.2.1.take n).length + i))) := by
   simp only [fit, List.getElem_map, List.getElem_range]
  rw [e]; simp only [decide_eq_true q1, decide_eq_true q2]; rfl
 have c2 : (fit g n).2.1.findSome? (latB (fit g n)) = none := by
  rw [List.findSome?_eq_none_iff]; intro x hx; simp only [fit, List.mem_map] at hx; obtain ⟨i, -, rfl⟩ := hx; unfold latB litB; rw [hs]; have q1 := bring_range (x := ((g.2.1.take n).getD i (0, 0)).1) (n := 2 * (1 + bring g.1 ((n : Int) + 1) + (g.2.1.take n).length + (g.2.2.1.take n).length)) (by omega); simp only [decide_eq_true q1, decide_eq_true (md_le _)]; rfl
 have c3 : (fit g n).2.2.2.findSome? (outB (fit g n)) = none := by
  rw [List.findSome?_eq_none_iff]; intro x hx; simp only [fit, List.mem_map] at hx; obtain ⟨i, -, rfl⟩ := hx; unfold outB litB; rw [hs]; have q1 := bring_range (x := (g.2.2.2.take n).getD i 0) (n := 2 * (1 + bring g.1 ((n : Int) + 1) + (g.2.1.take n).length + (g.2.2.1.take n).length)) (by omega); simp only [decide_eq_true q1]; rfl
 unfold chk
 rw [if_neg (by omega), if_neg (by omega), if_neg (by omega), if_neg (by omega), c1, c2, c3]; rfl
theorem fit_B (g : TAig) {n : Nat} (hn : n ≤ 100) : AigB (fit g n) := by
 obtain ⟨l1, l2, l3⟩ := fit_len g n
 have t1 := List.length_take (i := n) (l := g.2.1)
 have t2 := List.length_take (i := n) (l := g.2.2.1)
 have t3 := List.length_take (i := n) (l := g.2.2.2)
 exact ⟨by omega, by omega, by omega⟩
def fA (g : TAig) (n : Nat) (b : Int) (i : Nat) : Int × Int := (bring ((g.2.2.1.take n).getD i (0, 0)).1 (2 * (1 + b + (g.2.1.take n).length + i)), bring ((g.2.2.1.take n).getD i (0, 0)).2 (2 * (1 + b + (g.2.1.take n).length + i)))
def fL (g : TAig) (n : Nat) (N : Int) (i : Nat) : Int × Int := (bring ((g.2.1.take n).getD i (0, 0)).1 (2 * N), md ((g.2.1.take n).getD i (0, 0)).2 2)
def fO (g : TAig) (n : Nat) (N : Int) (i : Nat) : Int := bring ((g.2.2.2.take n).getD i 0) (2 * N)
theorem fit_eq (g : TAig) (h1 : g.2.1.length ≤ 8796093022208) (h2 : g.2.2.1.length ≤ 8796093022208) (h3 : g.2.2.2.length ≤ 17592186044416) {n : Nat} (hn : n ≤ 100) : F_r20_Fit g (n : Int) = some (fit g n) := by
 have t1 := List.length_take (i := n) (l := g.2.1)
 have t2 := List.length_take (i := n) (l := g.2.2.1)
 have t3 := List.length_take (i := n) (l := g.2.2.2)
 obtain ⟨r1, r2⟩ := bring_range (x := g.1) (n := (n : Int) + 1) (by omega)
 have hfit : fit g n = (bring g.1 ((n : Int) + 1), ((List.range (g.2.1.take n).length).map (fL g n (1 + bring g.1 ((n : Int) + 1) + (g.2.1.take n).length + (g.2.2.1.take n).length))), ((List.range (g.2.2.1.take n).length).map (fA g n (bring g.1 ((n : Int) + 1)))), ((List.range (g.2.2.2.take n).length).map (fO g n (1 + bring g.1 ((n : Int) + 1) + (g.2.1.take n).length + (g.2.2.1.take n).length)))) := rfl
 rw [hfit]
 have hbring := bring_eq (x := g.1) (n := (n : Int) + 1) (by omega) (by omega)
 generalize bring g.1 ((n : Int) + 1) = b at r1 r2 hbring ⊢
 have k0 := iterS_upto (f := F_r20_Fit_l0 g (n : Int) b) (fun i => ((i : Int), (mixI (fA g n b) (g.2.2.1.take n) i, ()))) (g.2.2.1.take n).length (r := .inl (((g.2.2.1.take n).length : Int), ((List.range (g.2.2.1.take n).length).map (fA g n b), ())))
  (fun i hi => by
   have hl := mixI_len (f := fA g n b) (Nat.le_of_lt hi); have hs := mixI_set (f := fA g n b) hi; have ha : fA g n b i = (bring (g.2.2.1.take n)[i].1 (2 * (1 + b + (g.2.1.take n).length + i)), bring (g.2.2.1.take n)[i].2 (2 * (1 + b + (g.2.1.take n).length + i))) := by unfold fA; rw [getD_lt hi]
   simp only [F_r20_Fit_l0, tn_nat, mixI_get hi, mn_tn, put_def, ad_def, ml_def, ni_def, len_def]; rw [wr64 (show -9223372036854775808 ≤ 1 + b by omega) (by omega), wr64 (show -9223372036854775808 ≤ 1 + b + ((g.2.1.take n).length : Int) by omega) (by omega), wr64 (show -9223372036854775808 ≤ 1 + b + ((g.2.1.take n).length : Int) + (i : Int) by omega) (by omega), wr64 (show -9223372036854775808 ≤ 2 * (1 + b + ((g.2.1.take n).length : Int) + (i : Int)) by omega) (by omega)]; rw [bring_eq (by omega) (by omega), bring_eq (by omega) (by omega), ob_some, ob_some, ← ha, hs]
   simp only [br_def, lt_def, ix_def, decide_eq_true_eq, hl]; rw [if_pos (by omega), if_pos (by omega), if_pos (by omega), if_pos (by omega), wr64 (by omega) (by omega)]; rfl)
  (by rw [mixI_end]; simp only [F_r20_Fit_l0, br_def, lt_def, ni_def, len_def, List.length_map, List.length_range, decide_eq_true_eq]; rw [if_neg (by omega)])
 generalize hN : 1 + b + ((g.2.1.take n).length : Int) + ((g.2.2.1.take n).length : Int) = N
 have k1 : ∀ y3, iterS (F_r20_Fit_l1 g (n : Int) b y3 N) (0, (mixI (fL g n N) (g.2.1.take n) 0, ())) = some (.inl (((g.2.1.take n).length : Int), ((List.range (g.2.1.take n).length).map (fL g n N), ()))) := fun y3 => iterS_upto (f := F_r20_Fit_l1 g (n : Int) b y3 N) (fun i => ((i : Int), (mixI (fL g n N) (g.2.1.take n) i, ()))) (g.2.1.take n).length
  (fun i hi => by
   have hl := mixI_len (f := fL g n N) (Nat.le_of_lt hi); have hs := mixI_set (f := fL g n N) hi; have ha : fL g n N i = (bring (g.2.1.take n)[i].1 (2 * N), md (g.2.1.take n)[i].2 2) := by unfold fL; rw [getD_lt hi]
   simp only [F_r20_Fit_l1, tn_nat, mixI_get hi, put_def, ad_def, ml_def]; rw [wr64 (show -9223372036854775808 ≤ 2 * N by omega) (by omega)]; rw [bring_eq (by omega) (by omega), ob_some, ← ha, hs]; simp only [br_def, lt_def, ix_def, ni_def, len_def, decide_eq_true_eq, hl]; rw [if_pos (by omega), if_pos (by omega), if_pos (by omega), if_pos (by omega), wr64 (by omega) (by omega)]; rfl)
  (by rw [mixI_end]; simp only [F_r20_Fit_l1, br_def, lt_def, ni_def, len_def, List.length_map, List.length_range, decide_eq_true_eq]; rw [if_neg (by omega)])
 have k2 : ∀ y3 y6, iterS (F_r20_Fit_l2 g (n : Int) b y3 N y6) (0, (mixI (fO g n N) (g.2.2.2.take n) 0, ())) = some (.inl (((g.2.2.2.take n).length : Int), ((List.range (g.2.2.2.take n).length).map (fO g n N), ()))) := fun y3 y6 => iterS_upto (f := F_r20_Fit_l2 g (n : Int) b y3 N y6) (fun i => ((i : Int), (mixI (fO g n N) (g.2.2.2.take n) i, ()))) (g.2.2.2.take n).length
  (fun i hi => by
   have hl := mixI_len (f := fO g n N) (Nat.le_of_lt hi); have hs := mixI_set (f := fO g n N) hi; have ha : fO g n N i = bring (g.2.2.2.take n)[i] (2 * N) := by unfold fO; rw [getD_lt hi]
   simp only [F_r20_Fit_l2, tn_nat, mixI_get hi, put_def, ad_def, ml_def]; rw [wr64 (show -9223372036854775808 ≤ 2 * N by omega) (by omega)]; rw [bring_eq (by omega) (by omega), ob_some, ← ha, hs]; simp only [br_def, lt_def, ix_def, ni_def, len_def, decide_eq_true_eq, hl]; rw [if_pos (by omega), if_pos (by omega), if_pos (by omega), wr64 (by omega) (by omega)]; rfl)
  (by rw [mixI_end]; simp only [F_r20_Fit_l2, br_def, lt_def, ni_def, len_def, List.length_map, List.length_range, decide_eq_true_eq]; rw [if_neg (by omega)])
 have m0 : ∀ {α : Type} (f : Nat → α) (r : List α), mixI f r 0 = r := fun f r => by simp [mixI]
 rw [m0] at k0
 have k0' := k0
 have n20 : F_r20_Nodes (b, (g.2.1.take n, ((List.range (g.2.2.1.take n).length).map (fA g n b), g.2.2.2.take n))) = some N := by
  unfold F_r20_Nodes; simp only [ad_def, ni_def, len_def, List.length_map, List.length_range]; rw [wr64 (show -9223372036854775808 ≤ 1 + b by omega) (by omega), wr64 (show -9223372036854775808 ≤ 1 + b + ((g.2.1.take n).length : Int) by omega) (by omega), hN, wr64 (by omega) (by omega)]
 unfold F_r20_Fit
 simp only [mn_rg, mn_take]
 rw [show wr .i64 (ad (n : Int) 1) = (n : Int) + 1 by rw [ad_def, wr64 (by omega) (by omega)], hbring, ob_some, show ((0 : Int), (g.2.2.1.take n, ())) = ((((0 : Nat) : Int)), (g.2.2.1.take n, ())) from rfl, k0, oj_inl]
 rw [show F_r20_Nodes (b, (g.2.1.take n, (((((g.2.2.1.take n).length : Int), ((List.range (g.2.2.1.take n).length).map (fA g n b), ())) : Int × (List (Int × Int) × Unit)).2.1, g.2.2.2.take n))) = some N from n20, ob_some]
 have k1' := k1 (((g.2.2.1.take n).length : Int), ((List.range (g.2.2.1.take n).length).map (fA g n b), ()))
 rw [m0] at k1'
 rw [k1', oj_inl]
 have k2' := k2 (((g.2.2.1.take n).length : Int), ((List.range (g.2.2.1.take n).length).map (fA g n b), ())) (((g.2.1.take n).length : Int), ((List.range (g.2.1.take n).length).map (fL g n N), ()))
 rw [m0] at k2'
 rw [k2', oj_inl]
 simp only [br_def, fits_def, len_def, decide_eq_true_eq]
 rw [if_pos (by omega), if_pos (by omega), if_pos (by omega), if_pos trivial, if_pos trivial, if_pos trivial]
def bitAt (x n : Int) : Bool := eq (md (shr .u64 x (md n 64)) 2) 1
def bitsR (v : Int) (n : Nat) : LB := (List.range n).map fun (i : Nat) => bitAt v (i : Int)
theorem md64 {n : Int} (h : 0 ≤ n) : le 0 (md n 64) = true := by
 have : 0 ≤ md n 64 := by
  show 0 ≤ n.tmod 64; rw [Int.tmod_eq_emod_of_nonneg h]; omega
 simp [this]
theorem bits_eq {v : Int} {n : Int} (h0 : 0 ≤ n) (h1 : n ≤ 4096) : F_r20_Bits v n = some (bitsR v n.toNat) := by
 have := iterS_upto (f := F_r20_Bits_l0 v n) (fun i => ((i : Int), ((List.range i).map fun (i : Nat) => bitAt v (i : Int), ()))) n.toNat (r := .inl ((n.toNat : Int), (bitsR v n.toNat, ())))
  (fun i hi => by
   have hm := md64 (n := (i : Int)) (by omega); simp only [F_r20_Bits_l0, hm]; rw [show eq (md (shr .u64 v (md (i : Int) 64)) 2) 1 = bitAt v (i : Int) from rfl, List.range_succ, List.map_append]; simp only [br_def, lt_def, fits_def, decide_eq_true_eq, ad_def, app_def, len_def, List.length_map, List.length_range, List.length_singleton, if_true]; rw [if_pos (by omega), if_pos (by omega), wr64 (by omega) (by omega)]; rfl)
  (by simp only [F_r20_Bits_l0, br_def, lt_def, decide_eq_true_eq]; rw [if_neg (by omega)]; rfl)
 unfold F_r20_Bits
 rw [show ((0 : Int), (([] : LB), ())) = ((((0 : Nat) : Int)), ((List.range 0).map fun (i : Nat) => bitAt v (i : Int), ())) from rfl, this, oj_inl]
def cyc (g : TAig) (l : LI) : LLB := (l.take 12).map fun v => bitsR v g.1.toNat
theorem cycles_eq {g : TAig} {l : LI} (h0 : 0 ≤ g.1) (h1 : g.1 ≤ 4096) : F_w36_cycles g l = some (cyc g l) := by
 have hl := List.length_take (i := 12) (l := l)
 have := iterS_upto (f := F_w36_cycles_l0 g l) (fun i => ((i : Int), ((l.take i).map fun v => bitsR v g.1.toNat, ()))) (l.take 12).length (r := .inl (((l.take 12).length : Int), (cyc g l, ())))
  (fun i hi => by
   have hi' : i < l.length := by omega
   have e : (l.take (i + 1)).map (fun v => bitsR v g.1.toNat) = (l.take i).map (fun v => bitsR v g.1.toNat) ++ [bitsR l[i] g.1.toNat] := by rw [← List.take_append_getElem hi', List.map_append]; rfl
   simp only [F_w36_cycles_l0, tn_nat, rd_lt hi', bits_eq h0 h1, ob_some, e]; simp only [br_def, lt_def, ix_def, ni_def, fits_def, decide_eq_true_eq, ad_def, app_def, len_def, List.length_map, List.length_take, List.length_singleton]; rw [if_pos (by omega), if_pos (by omega), if_pos (by omega), if_pos (by omega), wr64 (by omega) (by omega)]; rfl)
  (by
   have e : l.take (l.take 12).length = l.take 12 := by rw [hl, List.take_eq_take_iff]; omega
   simp only [F_w36_cycles_l0, br_def, lt_def, ni_def, len_def, decide_eq_true_eq, e]; by_cases q : ((l.take 12).length : Int) < l.length
   ·rw [if_pos q, if_neg (by omega)]; rfl
   ·rw [if_neg q]; rfl)
 unfold F_w36_cycles
 rw [show ((0 : Int), (([] : LLB), ())) = ((((0 : Nat) : Int)), ((l.take 0).map fun v => bitsR v g.1.toNat, ())) from rfl, this, oj_inl]
theorem cyc_ok {g : TAig} {l : LI} (h0 : 0 ≤ g.1) : (cyc g l).length ≤ 12 ∧ ∀ r ∈ cyc g l, (r.length : Int) = g.1 := by
 refine ⟨by simp [cyc]; omega, fun r hr => ?_⟩
 obtain ⟨v, -, rfl⟩ := List.mem_map.1 hr
 simp only [bitsR, List.length_map, List.length_range]; omega
theorem run2_wide {g : TAig} {t : LLB} (hc : chk g = 0) (hl : t.length ≤ 64) (hr : ∀ r ∈ t, (r.length : Int) = g.1) : run2 g t = ((sim2 g t (start2 g)).1, (start2 g :: (sim2 g t (start2 g)).2, 0)) := by
 unfold run2
 have : t.findSome? (wide g) = none := by
  rw [List.findSome?_eq_none_iff]; intro r h; unfold wide; rw [if_pos (hr r h)]
 rw [if_neg (by omega), if_neg (by omega), this]; rfl
end Go.Proofs.YtgpligmjbecbjaaGreatDoor.W36

open Go Go.AM Go.TM Go.AM.Wv
namespace Go.Proofs.YtgpligmjbecbjaaGreatDoor
theorem ltl {α : Type} {a : Int} {l : List α} (h : a < (l.length : Int)) : lt a (ni (len l)) = true := decide_eq_true h
theorem lnl {α : Type} {a : Int} {l : List α} (h : ¬ a < (l.length : Int)) : lt a (ni (len l)) = false := decide_eq_false h
theorem ixl {α : Type} {a : Int} {l : List α} (h : 0 ≤ a ∧ a < (l.length : Int)) : ix a (ni (len l)) = true := decide_eq_true h
theorem wra {a b : Int} (h : -9223372036854775808 ≤ a + b ∧ a + b ≤ 9223372036854775807) : wr .i64 (ad a b) = a + b := wr64 h.1 h.2
theorem z0 : ((0 : Int), ()) = (((0 : Nat) : Int), ()) := rfl
theorem dec_low {s : Str} {i : Nat} (hi : i < s.length) (h : s[i].toNat < 128) : rune s i = (s[i].toNat : Int) ∧ runw s i = 1 := by
 have hg : (ByteArray.mk s.toArray).get! (i + 0) = s[i] := by
  show (s.toArray)[i + 0]! = _; rw [Nat.add_zero, getElem!_pos s.toArray i (by simpa using hi)]; simp
 have hd : Utf8.decode ⟨s.toArray⟩ i = (s[i].toNat, 1) := by
  unfold Utf8.decode; simp only [hg]; rw [if_pos h]
 unfold rune runw
 rw [hd]
 exact ⟨rfl, rfl⟩
theorem dec_high {s : Str} {i : Nat} (hi : i < s.length) (h : 128 ≤ s[i].toNat) : 128 ≤ rune s i := by
 have hg : (ByteArray.mk s.toArray).get! (i + 0) = s[i] := by
  show (s.toArray)[i + 0]! = _; rw [Nat.add_zero, getElem!_pos s.toArray i (by simpa using hi)]; simp
 have hd : 128 ≤ (Utf8.decode ⟨s.toArray⟩ i).1 := by
  unfold Utf8.decode; simp only [hg]; rw [if_neg (by omega)]; have hr : 128 ≤ Utf8.runeError := by decide
  split
  ·split
   ·assumption
   ·exact hr
  split
  ·split
   ·rename_i q; simp only [Bool.and_eq_true, decide_eq_true_eq] at q; omega
   ·exact hr
  split
  ·split
   ·rename_i q; simp only [Bool.and_eq_true, decide_eq_true_eq] at q; omega
   ·exact hr
  ·exact hr
 unfold rune
 omega
def chOk (b : UInt8) : Bool := decide (33 ≤ b.toNat ∧ b.toNat ≤ 126)
def wordB (s : Str) : Bool := decide (1 ≤ s.length ∧ s.length ≤ 64) && s.all chOk
theorem named1 (r : Int) : F_vcd_named_1 r = some (decide (r < 33 ∨ 126 < r)) := by
 unfold F_vcd_named_1
 simp only [br_def, lt_def, decide_eq_true_eq]
 by_cases h : r < 33
 ·rw [if_pos h]; simp [h]
 ·rw [if_neg h]; simp [h]
theorem find_all' {α : Type} (l : List α) (p : α → Bool) : l.findSome? (fun x => if p x = true then none else some ()) = if l.all p = true then none else some () := by
 induction l with
 | nil => rfl
 | cons x r ih =>
  rw [List.findSome?_cons, List.all_cons]; cases p x with
  | true => simp only [if_pos, Bool.true_and]; exact ih
  | false => rfl
theorem named_eq (s : Str) : F_vcd_named s = some (wordB s) := by
 have l := iterS_find (f := F_vcd_named_l0 s) s (fun i => (i, ())) (fun b => if chOk b = true then none else some ()) (.inl (s.length, ())) (fun _ => .inr false)
  (fun i hi => by
   unfold F_vcd_named_l0; simp only [br_def, nlt_def, len_def, decide_eq_true_eq]; rw [if_pos hi, named1, ob_some]; by_cases hb : s[i].toNat < 128
   ·obtain ⟨e1, e2⟩ := dec_low hi hb
    rw [e1, e2]; by_cases hc : chOk s[i] = true
    ·rw [if_pos hc]
     have hc' : 33 ≤ s[i].toNat ∧ s[i].toNat ≤ 126 := by simpa [chOk] using hc
     rw [if_neg (by simp only [bq_def, beq_iff_eq, decide_eq_true_eq]; omega)]; rfl
    ·rw [if_neg hc]
     have hc' : ¬ (33 ≤ s[i].toNat ∧ s[i].toNat ≤ 126) := by simpa [chOk] using hc
     rw [if_pos (by simp only [bq_def, beq_iff_eq, decide_eq_true_eq]; omega)]; simp [inR, nt_def, le_def, ni_def]
   ·have e1 := dec_high hi (by omega)
    have hc : ¬ chOk s[i] = true := by simp [chOk]; omega
    rw [if_neg hc, if_pos (by simp only [bq_def, beq_iff_eq, decide_eq_true_eq]; omega)]; simp [inR, nt_def, le_def, ni_def])
  (by simp [F_vcd_named_l0, br_def, nlt_def])
 unfold F_vcd_named wordB
 simp only [br_def, nt_def, le_def, ni_def, len_def, decide_eq_true_eq]
 cases s with
 | nil => simp [sq]
 | cons b r =>
  rw [if_pos (by simp [sq])]; by_cases h : ((b :: r).length : Int) ≤ 64
  ·rw [if_pos h, l, find_all']
   by_cases hc : (b :: r).all chOk = true
   ·rw [if_pos hc, Option.elim, oj_inl]
    have e : decide (1 ≤ (b :: r).length ∧ (b :: r).length ≤ 64) = true := decide_eq_true (by simp only [List.length_cons] at h ⊢; omega); rw [hc, Bool.and_true, e]; rfl
   ·rw [if_neg hc, Option.elim, oj_inr]
    simp only [Bool.not_eq_true] at hc; rw [hc]; simp
  ·rw [if_neg h]
   have : ¬ (1 ≤ (b :: r).length ∧ (b :: r).length ≤ 64) := by omega
   rw [decide_eq_false this]; rfl
theorem check1 (s : Str) : F_vcd_checkVar_1 s = some (!wordB s) := by unfold F_vcd_checkVar_1; rw [named_eq, ob_some]
theorem eq_all {α : Type} [DecidableEq α] (a b : List α) (d : α) (h : a.length = b.length) : (List.range a.length).all (fun i => decide (a.getD i d = b.getD i d)) = decide (a = b) := by
 by_cases e : a = b
 ·subst e; simp
 ·rw [decide_eq_false e]
  cases hq : (List.range a.length).all (fun i => decide (a.getD i d = b.getD i d)) with
  | false => rfl
  | true =>
   exfalso; apply e; apply List.ext_getElem h; intro i h1 h2; have := List.all_eq_true.1 hq i (List.mem_range.2 h1); simp only [decide_eq_true_eq] at this
   rwa [getD_lt h1, getD_lt h2] at this
theorem equal_eq (a b : LStr) (h : a.length ≤ 9000000000000 ∨ b.length ≤ 9000000000000) : F_slices_Equal_string_string a b = some (decide (a = b)) := by
 unfold F_slices_Equal_string_string
 simp only [br_def, ne_def, ni_def, len_def, decide_eq_true_eq]
 by_cases e : a.length = b.length
 ·rw [if_neg (by omega)]
  have l := iterS_findR (f := F_slices_Equal_string_string_l0 a b) a.length (fun i => ((i : Int), ())) (fun i => if decide (a.getD i [] = b.getD i []) = true then none else some ()) (.inl ((a.length : Int), ())) (fun _ => .inr false)
   (fun i hi => by
    simp (disch := omega) only [F_slices_Equal_string_string_l0, br_def, lt_def, ni_def, len_def, ix_def, tn_nat, rd_def, decide_eq_true_eq, ob_some, ad_def, wr64, nt_def, sq]; rw [if_pos (by omega), if_pos (by omega), if_pos (by omega)]; by_cases q : a.getD i [] = b.getD i []
    ·rw [if_neg (by rw [decide_eq_true q]; decide), if_pos q]; rfl
    ·rw [if_pos (by rw [decide_eq_false q]; decide), if_neg q]; rfl)
   (by simp [F_slices_Equal_string_string_l0, br_def, lt_def])
  rw [z0, l, find_all', eq_all _ _ _ e]; by_cases q : a = b
  ·rw [if_pos (by simp [q]), Option.elim, oj_inl]; simp [q]
  ·rw [if_neg (by simp [q]), Option.elim, oj_inr]; simp [q]
 ·rw [if_pos (by omega), decide_eq_false fun q => e (by rw [q])]
def sameB (a b : TVar) : Bool := decide (a.2.1 = b.2.1 ∧ a.1 = b.1)
theorem same_eq (a b : TVar) (h : a.1.length ≤ 9000000000000 ∨ b.1.length ≤ 9000000000000) : F_vcd_same a b = some (sameB a b) := by
 unfold F_vcd_same sameB
 rw [equal_eq _ _ h]
 simp only [br_def, sq, decide_eq_true_eq]
 by_cases q : a.2.1 = b.2.1
 ·rw [if_pos q, ob_some]; simp [q]
 ·rw [if_neg q]; simp [q]
def vErr (v : TVar) (before : List TVar) : Int :=
 if v.2.2 < 1 then 12 else if 128 < v.2.2 then 12 else if 8 < (v.1.length : Int) then 5 else if v.1.all wordB = true then
  if wordB v.2.1 = true then if before.any (sameB · v) = true then 10 else 0 else 9 else 9
theorem find_any {α : Type} (l : List α) (p : α → Bool) : l.findSome? (fun x => if p x = true then some () else none) = if l.any p = true then some () else none := by
 induction l with
 | nil => rfl
 | cons x r ih =>
  rw [List.findSome?_cons, List.any_cons]; cases p x with
  | true => rfl
  | false => simp only [Bool.false_or]; exact ih
theorem checkVar_eq (v : TVar) (before : List TVar) (h : before.length ≤ 9000000000000) : F_vcd_checkVar v before = some (vErr v before) := by
 unfold F_vcd_checkVar vErr
 simp only [br_def, lt_def, ni_def, len_def, decide_eq_true_eq]
 by_cases h1 : v.2.2 < 1
 ·rw [if_pos h1, if_pos h1]
 rw [if_neg h1, if_neg h1]
 by_cases h2 : 128 < v.2.2
 ·rw [if_pos h2, if_pos h2]
 rw [if_neg h2, if_neg h2]
 by_cases h3 : 8 < (v.1.length : Int)
 ·rw [if_pos h3, if_pos h3]
 rw [if_neg h3, if_neg h3]
 have l := iterS_find (f := F_vcd_checkVar_l0 v before) v.1 (fun i => ((i : Int), ())) (fun s => if wordB s = true then none else some ()) (.inl ((v.1.length : Int), ())) (fun _ => .inr 9)
  (fun i hi => by
   simp (disch := omega) only [F_vcd_checkVar_l0, br_def, lt_def, ni_def, len_def, ix_def, tn_nat, rd_lt hi, decide_eq_true_eq, check1, ob_some, ad_def, wr64, nt_def, le_def]; rw [if_pos (by omega), if_pos (by omega)]; by_cases q : wordB v.1[i] = true
   ·rw [if_neg (by simp [q]), if_pos q]; rfl
   ·rw [if_pos (by simpa using q), if_neg q, if_pos (by omega)]; rfl)
  (by simp [F_vcd_checkVar_l0, br_def, lt_def])
 rw [z0, l, find_all']
 by_cases h4 : v.1.all wordB = true
 ·rw [if_pos h4, if_pos h4, Option.elim, oj_inl, named_eq, ob_some]
  by_cases h5 : wordB v.2.1 = true
  ·rw [if_neg (by simp [nt_def, h5]), if_pos h5]
   have l2 := iterS_find (f := F_vcd_checkVar_l2 v before ((v.1.length : Int), ()) (wordB v.2.1)) before (fun i => ((i : Int), ())) (fun s => if sameB s v = true then some () else none) (.inl ((before.length : Int), ())) (fun _ => .inr 10)
    (fun i hi => by
     have e : F_vcd_same (before[i].1, (before[i].2.1, before[i].2.2)) (v.1, (v.2.1, v.2.2)) = some (sameB before[i] v) := same_eq before[i] v (.inr (by omega)); simp (disch := omega) only [F_vcd_checkVar_l2, br_def, lt_def, ni_def, len_def, ix_def, tn_nat, rd_lt hi, decide_eq_true_eq, e, ob_some, ad_def, wr64, nt_def, le_def]; rw [if_pos (by omega), if_pos (by omega)]; by_cases q : sameB before[i] v = true
     ·rw [if_pos q, if_pos q, if_pos (by omega)]; rfl
     ·rw [if_neg q, if_neg q]; rfl)
    (by simp [F_vcd_checkVar_l2, br_def, lt_def])
   rw [l2, find_any]; by_cases h6 : before.any (sameB · v) = true
   ·rw [if_pos h6, if_pos h6, Option.elim, oj_inr]
   ·rw [if_neg h6, if_neg h6, Option.elim, oj_inl]
  ·rw [if_pos (by simpa [nt_def] using h5), if_neg h5]
 ·rw [if_neg h4, if_neg h4, Option.elim, oj_inr]
def U6 : List Str := [[109, 115], [117, 115], [110, 115], [112, 115], [102, 115], [115]]
def N3 : List Str := [[49], [49, 48], [49, 48, 48]]
def unitB (s : Str) : Bool := decide (∃ u ∈ U6, ∃ n ∈ N3, s = n ++ u)
def sufB (s u : Str) : Bool := decide (u.length ≤ s.length ∧ s.drop (s.length - u.length) = u)
def n3B (t : Str) : Bool := decide (t = [49] ∨ t = [49, 48] ∨ t = [49, 48, 48])
theorem suffix_eq (s u : Str) (hs : s.length ≤ 140737488351232) (hu : u.length ≤ 100) : F_strings_CutSuffix s u = some (if sufB s u = true then (s.take (s.length - u.length), true) else (s, false)) := by
 have h1 : F_stringslite_HasSuffix s u = some (sufB s u) := by
  unfold F_stringslite_HasSuffix sufB; simp only [br_def, le_def, ni_def, len_def, decide_eq_true_eq, sb_def]; by_cases q : u.length ≤ s.length
  ·rw [if_pos (by omega), wr64 (by omega) (by omega), if_pos (by omega)]
   have e1 : tn ((s.length : Int) - (u.length : Int)) = s.length - u.length := by rw [tn_def]; omega
   rw [e1, tn_nat, nsub_def, cut_def, List.take_of_length_le (by simp)]; simp only [sq]
   congr 1
   simp [q]
  ·rw [if_neg (by omega)]; simp [q]
 have h2 : F_stringslite_CutSuffix s u = some (if sufB s u = true then (s.take (s.length - u.length), true) else (s, false)) := by
  unfold F_stringslite_CutSuffix; rw [h1, ob_some]; simp only [br_def, nt_def, ni_def, len_def, sb_def]; by_cases q : sufB s u = true
  ·have q' : u.length ≤ s.length := by unfold sufB at q; simp only [decide_eq_true_eq] at q; exact q.1
   rw [if_neg (by simp [q]), wr64 (by omega) (by omega), rg_def, if_pos (by simp only [decide_eq_true_eq]; omega), if_pos q]; have e1 : tn ((s.length : Int) - (u.length : Int)) = s.length - u.length := by rw [tn_def]; omega
   rw [e1, cut_def]; simp
  ·rw [if_pos (by simpa using q), if_neg q]
 unfold F_strings_CutSuffix
 rw [h2]; rfl
theorem unit_round (s u : Str) (hs : s.length ≤ 140737488351232) (hu : u.length ≤ 100) (nx : Int × Unit) : (ob (F_strings_CutSuffix s u) fun y0 => (br y0.2 (br (sq y0.1 ([49] : Str)) (inR (some (.inr true))) (br (sq y0.1 ([49, 48] : Str)) (inR (some (.inr true))) (inR (some (.inr (sq y0.1 ([49, 48, 48] : Str))))))) (some (.inl nx)))) =
  (some ((if sufB s u = true then some (n3B (s.take (s.length - u.length))) else none).elim (.inl nx) fun b => .inr (.inr b)) : Option ((Int × Unit) ⊕ ((Int × Unit) ⊕ Bool))) := by
 rw [suffix_eq s u hs hu, ob_some]
 by_cases q : sufB s u = true
 ·rw [if_pos q, if_pos q]
  simp only [br_def, if_true, n3B, sq, decide_eq_true_eq, Option.elim]; by_cases a1 : s.take (s.length - u.length) = [49]
  ·simp [a1, inR]
  ·rw [if_neg a1]
   by_cases a2 : s.take (s.length - u.length) = [49, 48]
   ·simp [a2, inR]
   ·rw [if_neg a2]
    simp [a1, a2, inR]
 ·rw [if_neg q, if_neg q]; rfl
theorem unit_eq (s : Str) (hs : s.length ≤ 140737488351232) : F_vcd_unit s = some (unitB s) := by
 have l := iterS_find (f := F_vcd_unit_l0 s) U6 (fun i => ((i : Int), ())) (fun u => if sufB s u = true then some (n3B (s.take (s.length - u.length))) else none) (.inl ((6 : Int), ())) (fun b => .inr b)
  (fun i hi => by
   have hU : (([([109, 115] : Str), ([117, 115] : Str), ([110, 115] : Str), ([112, 115] : Str), ([102, 115] : Str), ([115] : Str)] : (List Str))) = U6 := rfl; have hu : U6[i].length ≤ 100 := by
    have : ∀ u ∈ U6, u.length ≤ 100 := by decide
    exact this _ (List.getElem_mem hi)
   have hi6 : i < 6 := hi; have hl6 : U6.length = 6 := rfl; unfold F_vcd_unit_l0; rw [hU]; rw [br_def, if_pos (by simp only [lt_def, ni_def, len_def, decide_eq_true_eq]; omega), br_def, if_pos (by simp only [ix_def, ni_def, len_def, decide_eq_true_eq]; omega), tn_nat, rd_lt hi, wr64 (by simp only [ad_def]; omega) (by simp only [ad_def]; omega)]; exact unit_round s U6[i] hs hu _)
  (by rfl)
 unfold F_vcd_unit
 rw [z0, l]
 have key : (U6.findSome? fun u => if sufB s u = true then some (n3B (s.take (s.length - u.length))) else none).getD false = unitB s := by
  rw [Bool.eq_iff_iff]; constructor
  ·intro h
   cases hf : (U6.findSome? fun u => if sufB s u = true then some (n3B (s.take (s.length - u.length))) else none) with
   | none => rw [hf] at h; cases h
   | some b =>
    rw [hf] at h; have hb : b = true := h; subst hb; obtain ⟨u, hu, he⟩ := List.exists_of_findSome?_eq_some hf; split at he
    ·rename_i q
     have he := Option.some.inj he; unfold sufB at q; unfold n3B at he; simp only [decide_eq_true_eq] at q he; have e : s = s.take (s.length - u.length) ++ u := by conv => lhs; rw [← List.take_append_drop (s.length - u.length) s, q.2]
     unfold unitB; simp only [decide_eq_true_eq]; refine ⟨u, hu, s.take (s.length - u.length), ?_, e⟩; unfold N3; rcases he with h | h | h <;> rw [h] <;> simp
    ·cases he
  ·intro h
   unfold unitB at h; simp only [decide_eq_true_eq] at h; obtain ⟨u, hu, n, hn, rfl⟩ := h; have all : ∀ u ∈ U6, ∀ n ∈ N3, (U6.findSome? fun v => if sufB (n ++ u) v = true then some (n3B ((n ++ u).take ((n ++ u).length - v.length))) else none).getD false = true := by decide
   exact all u hu n hn
 rw [← key]
 cases (U6.findSome? fun u => if sufB s u = true then some (n3B (s.take (s.length - u.length))) else none) with
 | none => rfl
 | some b => rfl
def digB (b : UInt8) : Bool := ([48, 49, 120, 122] : Str).contains b
theorem drop_nil {p : UInt8 → Bool} : ∀ l : Str, l.dropWhile p = [] ↔ ∀ b ∈ l, p b = true := by
 intro l
 induction l with
 | nil => simp
 | cons a r ih =>
  rw [List.dropWhile_cons]; by_cases h : p a = true
  ·rw [if_pos h, ih]; simp [h]
  ·rw [if_neg h]; simp [h]
theorem trim_nil (s : Str) : (Lib.trimS s [48, 49, 120, 122] = []) ↔ s.all digB = true := by
 unfold Lib.trimS Lib.trimLeftS Lib.trimRightS
 rw [drop_nil, List.all_eq_true]
 constructor
 ·intro h b hb
  have hb' : b ∈ s.reverse := List.mem_reverse.2 hb; rw [← List.takeWhile_append_dropWhile (p := (([48, 49, 120, 122] : Str).contains ·)) (l := s.reverse)] at hb'; rcases List.mem_append.1 hb' with q | q
  ·exact List.all_eq_true.1 (List.all_takeWhile (p := (([48, 49, 120, 122] : Str).contains ·)) (l := s.reverse)) b q
  ·exact h b (List.mem_reverse.2 q)
 ·intro h b hb
  have := List.dropWhile_subset (p := (([48, 49, 120, 122] : Str).contains ·)) (l := s.reverse) (List.mem_reverse.1 hb); exact h b (List.mem_reverse.1 this)
abbrev d0 : TChg := (0, 0, [])
abbrev v0 : TVar := ([], [], 0)
def cErr (w : TWave) (i : Nat) : Int :=
 if (w.2.2.getD i d0).1 < 0 then 1 else if 1000000000000 < (w.2.2.getD i d0).1 then 1 else if (w.2.2.getD i d0).2.1 < 0 then 1 else if (w.2.1.length : Int) ≤ (w.2.2.getD i d0).2.1 then 1 else
 if ((w.2.2.getD i d0).2.2.length : Int) ≠ (w.2.1.getD (w.2.2.getD i d0).2.1.toNat v0).2.2 then 12 else if (w.2.2.getD i d0).2.2.all digB = true then
  if 0 < i ∧ (w.2.2.getD i d0).1 < (w.2.2.getD (i - 1) d0).1 then 22 else 0 else 3
def vErrs (w : TWave) (i : Nat) : Option Int := if vErr (w.2.1.getD i v0) (w.2.1.take i) = 0 then none else some (vErr (w.2.1.getD i v0) (w.2.1.take i))
def cErrs (w : TWave) (i : Nat) : Option Int := if cErr w i = 0 then none else some (cErr w i)
def chk (w : TWave) : Int :=
 if unitB w.1 = true then if 256 < (w.2.1.length : Int) then 5 else if 4096 < (w.2.2.length : Int) then 5 else
  ((List.range w.2.1.length).findSome? (vErrs w)).elim (((List.range w.2.2.length).findSome? (cErrs w)).elim 0 id) id
 else 3
theorem vErr_zero {v : TVar} {b : List TVar} (h : vErr v b = 0) : 1 ≤ v.2.2 ∧ v.2.2 ≤ 128 ∧ v.1.length ≤ 8 ∧ v.1.all wordB = true ∧ wordB v.2.1 = true ∧ b.any (sameB · v) ≠ true := by
 unfold vErr at h
 split at h
 ·cases h
 split at h
 ·cases h
 split at h
 ·cases h
 split at h
 ·split at h
  ·split at h
   ·cases h
   ·refine ⟨by omega, by omega, by omega, by assumption, by assumption, by assumption⟩
  ·cases h
 ·cases h
theorem cErr_zero {w : TWave} {i : Nat} (h : cErr w i = 0) : 0 ≤ (w.2.2.getD i d0).1 ∧ (w.2.2.getD i d0).1 ≤ 1000000000000 ∧ 0 ≤ (w.2.2.getD i d0).2.1 ∧ (w.2.2.getD i d0).2.1 < (w.2.1.length : Int) ∧
  ((w.2.2.getD i d0).2.2.length : Int) = (w.2.1.getD (w.2.2.getD i d0).2.1.toNat v0).2.2 ∧ (w.2.2.getD i d0).2.2.all digB = true ∧ (0 < i → (w.2.2.getD (i - 1) d0).1 ≤ (w.2.2.getD i d0).1) := by
 unfold cErr at h
 split at h
 ·cases h
 split at h
 ·cases h
 split at h
 ·cases h
 split at h
 ·cases h
 split at h
 ·cases h
 split at h
 ·split at h
  ·cases h
  ·refine ⟨by omega, by omega, by omega, by omega, by omega, by assumption, by omega⟩
 ·cases h
theorem check_eq (w : TWave) (h : WfT .str w.1) : F_vcd_Check w = some (chk w) := by
 unfold F_vcd_Check chk
 rw [unit_eq _ h, ob_some]
 simp only [br_def, nt_def, lt_def, ni_def, len_def, decide_eq_true_eq]
 by_cases h1 : unitB w.1 = true
 ·rw [if_neg (by simp [h1]), if_pos h1]
  by_cases h2 : 256 < (w.2.1.length : Int)
  ·rw [if_pos h2, if_pos h2]
  rw [if_neg h2, if_neg h2]; by_cases h3 : 4096 < (w.2.2.length : Int)
  ·rw [if_pos h3, if_pos h3]
  rw [if_neg h3, if_neg h3]; have l := iterS_findR (f := F_vcd_Check_l0 w (unitB w.1)) w.2.1.length (fun i => ((i : Int), ())) (vErrs w) (.inl ((w.2.1.length : Int), ())) (fun r => .inr r)
   (fun i hi => by
    have e : F_vcd_checkVar ((w.2.1.getD i ([], [], 0)).1, ((w.2.1.getD i ([], [], 0)).2.1, (w.2.1.getD i ([], [], 0)).2.2)) (w.2.1.take i) = some (vErr (w.2.1.getD i v0) (w.2.1.take i)) := checkVar_eq _ _ (by simp; omega); have ec : cut w.2.1 0 i = w.2.1.take i := by rw [cut_def, List.drop_zero]
    simp (disch := omega) only [F_vcd_Check_l0, br_def, lt_def, ni_def, len_def, ix_def, tn_nat, rd_def, decide_eq_true_eq, ec, e, ob_some, ad_def, wr64, ne_def, rg_def]; rw [if_pos (by omega), if_pos (by omega), if_pos (by omega)]; unfold vErrs; by_cases q : vErr (w.2.1.getD i v0) (w.2.1.take i) = 0
    ·rw [if_neg (by simpa using q), if_pos q]; rfl
    ·rw [if_pos q, if_neg q]; rfl)
   (by simp [F_vcd_Check_l0, br_def, lt_def])
  have l' : iterS (F_vcd_Check_l0 w (unitB w.1)) ((0 : Int), ()) = _ := l; rw [l']; cases hf : (List.range w.2.1.length).findSome? (vErrs w) with
  | some r => rw [Option.elim, oj_inr]; rfl
  | none =>
   rw [Option.elim, oj_inl]; have hw : ∀ i, i < w.2.1.length → vErr (w.2.1.getD i v0) (w.2.1.take i) = 0 := fun i hi => by
    have := List.findSome?_eq_none_iff.1 hf i (List.mem_range.2 hi); unfold vErrs at this; split at this
    ·assumption
    ·cases this
   have l1 := iterS_findR (f := F_vcd_Check_l1 w (unitB w.1) ((w.2.1.length : Int), ())) w.2.2.length (fun i => ((i : Int), ((if i = 0 then 0 else (w.2.2.getD (i - 1) d0).1), ()))) (cErrs w) (.inl ((w.2.2.length : Int), ((if w.2.2.length = 0 then 0 else (w.2.2.getD (w.2.2.length - 1) d0).1), ()))) (fun r => .inr r)
    (fun i hi => by
     unfold F_vcd_Check_l1; simp only [tn_nat]; rw [wr64 (n := ad (i : Int) 1) (by simp only [ad_def]; omega) (by simp only [ad_def]; omega)]; unfold cErrs cErr; have hc' : rd w.2.2 i ((0 : Int), ((0 : Int), ([] : Str))) = w.2.2.getD i d0 := rfl; rw [hc']; generalize hc : w.2.2.getD i d0 = c; simp only [br_def, lt_def, ni_def, len_def, ix_def, decide_eq_true_eq, ne_def, le_def]; rw [if_pos (by omega), if_pos (by omega)]; by_cases q1 : c.1 < 0
     ·rw [if_pos q1, if_pos q1]; rfl
     rw [if_neg q1, if_neg q1]; by_cases q2 : 1000000000000 < c.1
     ·rw [if_pos q2, if_pos q2]; rfl
     rw [if_neg q2, if_neg q2]; by_cases q3 : c.2.1 < 0
     ·rw [if_pos q3, if_pos q3]; rfl
     rw [if_neg q3, if_neg q3]; by_cases q4 : (w.2.1.length : Int) ≤ c.2.1
     ·rw [if_pos q4, if_pos q4]; rfl
     rw [if_neg q4, if_neg q4, if_pos (by omega)]; rw [show rd w.2.1 (tn c.2.1) (([] : LStr), (([] : Str), (0 : Int))) = w.2.1.getD c.2.1.toNat v0 from rfl]; by_cases q5 : (c.2.2.length : Int) ≠ (w.2.1.getD c.2.1.toNat v0).2.2
     ·rw [if_pos q5, if_pos q5]; rfl
     rw [if_neg q5, if_neg q5]; have hv := vErr_zero (hw c.2.1.toNat (by omega)); have et : F_strings_Trim c.2.2 ([48, 49, 120, 122] : Str) = some (Lib.trimS c.2.2 [48, 49, 120, 122]) := by
      unfold F_strings_Trim; rw [if_pos ⟨rfl, by omega⟩]
     rw [et, ob_some]; by_cases q6 : c.2.2.all digB = true
     ·rw [if_neg (by simp [nt_def, sq, (trim_nil _).2 q6]), if_pos q6]
      by_cases q7 : 0 < i ∧ c.1 < (w.2.2.getD (i - 1) d0).1
      ·rw [if_pos (by rw [if_neg (by omega)]; exact q7.2), if_pos q7]; rfl
      ·have q8 : ¬ c.1 < (if i = 0 then 0 else (w.2.2.getD (i - 1) d0).1) := by
        by_cases qi : i = 0
        ·rw [if_pos qi]; omega
        ·rw [if_neg qi]; omega
       rw [if_neg q8, if_neg q7]; rw [if_neg (show ¬ i + 1 = 0 by omega), show i + 1 - 1 = i from rfl, hc]; rfl
     ·have q9 : ¬ Lib.trimS c.2.2 [48, 49, 120, 122] = [] := fun q => q6 ((trim_nil _).1 q)
      rw [if_pos (by simp [nt_def, sq, q9]), if_neg q6]; rfl)
    (by simp [F_vcd_Check_l1, br_def, lt_def])
   have l1' : iterS (F_vcd_Check_l1 w (unitB w.1) ((w.2.1.length : Int), ())) ((0 : Int), ((0 : Int), ())) = _ := l1; rw [l1']; cases (List.range w.2.2.length).findSome? (cErrs w) with
   | some r => rw [Option.elim, oj_inr]; rfl
   | none => rw [Option.elim, oj_inl]; rfl
 ·rw [if_pos (by simpa using h1), if_neg h1]
structure Good (w : TWave) : Prop where
 nv : w.2.1.length ≤ 256
 nc : w.2.2.length ≤ 4096
 unit : unitB w.1 = true
 var : ∀ i, i < w.2.1.length → vErr (w.2.1.getD i v0) (w.2.1.take i) = 0
 chg : ∀ i, i < w.2.2.length → cErr w i = 0
theorem chk_zero {w : TWave} : chk w = 0 ↔ Good w := by
 constructor
 ·intro h
  unfold chk at h; split at h
  ·split at h
   ·cases h
   split at h
   ·cases h
   rename_i q1 q2 q3; cases hf : (List.range w.2.1.length).findSome? (vErrs w) with
   | some r =>
    rw [hf] at h; obtain ⟨i, -, hi⟩ := List.exists_of_findSome?_eq_some hf; unfold vErrs at hi; split at hi
    ·cases hi
    ·rename_i q
     have h' : r = 0 := h; rw [h'] at hi; exact absurd (Option.some.inj hi) q
   | none =>
    rw [hf] at h; cases hg : (List.range w.2.2.length).findSome? (cErrs w) with
    | some r =>
     rw [hg] at h; obtain ⟨i, -, hi⟩ := List.exists_of_findSome?_eq_some hg; unfold cErrs at hi; split at hi
     ·cases hi
     ·rename_i q
      have h' : r = 0 := h; rw [h'] at hi; exact absurd (Option.some.inj hi) q
    | none =>
     refine ⟨by omega, by omega, q1, fun i hi => ?_, fun i hi => ?_⟩
     ·have := List.findSome?_eq_none_iff.1 hf i (List.mem_range.2 hi)
      unfold vErrs at this; split at this
      ·assumption
      ·cases this
     ·have := List.findSome?_eq_none_iff.1 hg i (List.mem_range.2 hi)
      unfold cErrs at this; split at this
      ·assumption
      ·cases this
  ·cases h
 ·intro h
  unfold chk; have hf : (List.range w.2.1.length).findSome? (vErrs w) = none := List.findSome?_eq_none_iff.2 fun i hi => by unfold vErrs; rw [if_pos (h.var i (List.mem_range.1 hi))]
  have hg : (List.range w.2.2.length).findSome? (cErrs w) = none := List.findSome?_eq_none_iff.2 fun i hi => by unfold cErrs; rw [if_pos (h.chg i (List.mem_range.1 hi))]
  have := h.nv; have := h.nc; rw [if_pos h.unit, if_neg (by omega), if_neg (by omega), hf, hg]; rfl
def fillS (w : TWave) (v : Nat) : Str := Lib.repeatL [120] (w.2.1.getD v v0).2.2.toNat
abbrev tAt (w : TWave) (i : Nat) : Int := (w.2.2.getD i d0).1
def valW (w : TWave) (v : Nat) (T : Int) : Str := val (fillS w) w.2.2 v T
def rowV (w : TWave) (T : Int) : LStr := (List.range w.2.1.length).map fun v => valW w v T
def rowAt (w : TWave) (j : Nat) : LStr := (List.range w.2.1.length).map fun v => (w.2.2.take j).foldl (upd v) (fillS w v)
theorem rowV_len (w : TWave) (T : Int) : (rowV w T).length = w.2.1.length := by simp [rowV]
theorem rowAt_len (w : TWave) (j : Nat) : (rowAt w j).length = w.2.1.length := by simp [rowAt]
theorem rowV_get {w : TWave} {T : Int} {v : Nat} (h : v < w.2.1.length) (d : Str) : (rowV w T).getD v d = valW w v T := by
 rw [getD_lt (by rw [rowV_len]; exact h)]; simp [rowV]
theorem Good.width {w : TWave} (h : Good w) {i : Nat} (hi : i < w.2.1.length) : 1 ≤ (w.2.1.getD i v0).2.2 ∧ (w.2.1.getD i v0).2.2 ≤ 128 := ⟨(vErr_zero (h.var i hi)).1, (vErr_zero (h.var i hi)).2.1⟩
theorem Good.mono {w : TWave} (h : Good w) : ∀ (d i : Nat), i + d < w.2.2.length → tAt w i ≤ tAt w (i + d) := by
 intro d
 induction d with
 | zero => intro i _; exact Int.le_refl _
 | succ d ih =>
  intro i hi; have h1 := ih i (by omega); have h2 := (cErr_zero (h.chg (i + (d + 1)) hi)).2.2.2.2.2.2 (by omega); rw [show i + (d + 1) - 1 = i + d by omega] at h2; exact Int.le_trans h1 h2
theorem Good.mono' {w : TWave} (h : Good w) {i j : Nat} (hij : i ≤ j) (hj : j < w.2.2.length) : tAt w i ≤ tAt w j := by
 have := h.mono (j - i) i (by omega)
 rwa [show i + (j - i) = j by omega] at this
theorem Good.sorted {w : TWave} (h : Good w) : Sorted w.2.2 := by
 refine List.pairwise_iff_getElem.2 fun i j hi hj hij => ?_
 have := h.mono' (Nat.le_of_lt hij) hj
 unfold tAt at this
 rwa [getD_lt hi, getD_lt hj] at this
theorem Good.ok {w : TWave} (h : Good w) : Ok w.2.1.length w.2.2 := by
 intro c hc
 obtain ⟨i, hi, rfl⟩ := List.getElem_of_mem hc
 have := cErr_zero (h.chg i hi)
 rw [getD_lt hi] at this
 exact ⟨this.2.2.1, this.2.2.2.1⟩
theorem Good.time {w : TWave} (h : Good w) {i : Nat} (hi : i < w.2.2.length) : 0 ≤ tAt w i ∧ tAt w i ≤ 1000000000000 := ⟨(cErr_zero (h.chg i hi)).1, (cErr_zero (h.chg i hi)).2.1⟩
theorem gend (w : TWave) {i : Nat} (hi : i < w.2.2.length) : ∃ j, i < j ∧ j ≤ w.2.2.length ∧ (∀ k, i ≤ k → k < j → tAt w k = tAt w i) ∧ (j < w.2.2.length → tAt w j ≠ tAt w i) := by
 have key : ∀ d m, i < m → m ≤ w.2.2.length → w.2.2.length - m ≤ d → (∀ k, i ≤ k → k < m → tAt w k = tAt w i) → ∃ j, i < j ∧ j ≤ w.2.2.length ∧ (∀ k, i ≤ k → k < j → tAt w k = tAt w i) ∧ (j < w.2.2.length → tAt w j ≠ tAt w i) := by
  intro d; induction d with
  | zero => intro m h1 h2 h3 h4; exact ⟨m, h1, h2, h4, fun q => by omega⟩
  | succ d ih =>
   intro m h1 h2 h3 h4; by_cases q : m < w.2.2.length ∧ tAt w m = tAt w i
   ·refine ih (m + 1) (by omega) (by omega) (by omega) fun k a b => ?_
    by_cases e : k = m
    ·rw [e]; exact q.2
    ·exact h4 k a (by omega)
   ·exact ⟨m, h1, h2, h4, fun a b => q ⟨a, b⟩⟩
 exact key _ (i + 1) (by omega) (by omega) (Nat.le_refl _) fun k a b => by rw [show k = i by omega]
def Bd (w : TWave) (i : Nat) : Prop := i = 0 ∨ tAt w i ≠ tAt w (i - 1)
theorem rowAt_before {w : TWave} (h : Good w) {i : Nat} (hi : i < w.2.2.length) (hb : Bd w i) : rowAt w i = rowV w (tAt w i - 1) := by
 unfold rowAt rowV valW
 refine List.map_congr_left fun v _ => ?_
 rw [val_cut _ _ i v (tAt w i - 1)]
 ·intro c hc
  obtain ⟨k, hk, rfl⟩ := List.mem_take_iff_getElem.1 hc; rcases hb with rfl | hb
  ·omega
  ·have h1 := h.mono' (i := k) (j := i - 1) (by omega) (by omega)
   have h2 := h.mono' (i := i - 1) (j := i) (by omega) hi; unfold tAt at *; rw [getD_lt (by omega)] at h1; omega
 ·intro c hc
  obtain ⟨k, hk, rfl⟩ := List.mem_drop_iff_getElem.1 hc; have h1 := h.mono' (i := i) (j := i + k) (by omega) (by omega); unfold tAt at *; rw [getD_lt (i := i + k) (by omega)] at h1; omega
theorem rowAt_after {w : TWave} (h : Good w) {i j : Nat} (hij : i < j) (hj : j ≤ w.2.2.length) (ht : ∀ k, i ≤ k → k < j → tAt w k = tAt w i) (hn : j < w.2.2.length → tAt w j ≠ tAt w i) : rowAt w j = rowV w (tAt w i) := by
 unfold rowAt rowV valW
 refine List.map_congr_left fun v _ => ?_
 rw [val_cut _ _ j v (tAt w i)]
 ·intro c hc
  obtain ⟨k, hk, rfl⟩ := List.mem_take_iff_getElem.1 hc; have h1 := h.mono' (i := k) (j := j - 1) (by omega) (by omega); rw [ht (j - 1) (by omega) (by omega)] at h1; unfold tAt at *
  rwa [getD_lt (by omega)] at h1
 ·intro c hc
  obtain ⟨k, hk, rfl⟩ := List.mem_drop_iff_getElem.1 hc; have h1 := h.mono' (i := j) (j := j + k) (by omega) (by omega); have h2 := h.mono' (i := i) (j := j) (by omega) (by omega); have h3 := hn (by omega); unfold tAt at *; rw [getD_lt (i := j + k) (by omega)] at h1; omega
theorem rowAt_succ {w : TWave} (h : Good w) {j : Nat} (hj : j < w.2.2.length) : (rowAt w j).set (w.2.2.getD j d0).2.1.toNat (w.2.2.getD j d0).2.2 = rowAt w (j + 1) := by
 have e := app_map w.2.1.length (fun v => (w.2.2.take j).foldl (upd v) (fillS w v)) [w.2.2[j]] fun c hc => by
  rw [List.mem_singleton.1 hc]; exact h.ok _ (List.getElem_mem hj)
 simp only [List.foldl_cons, List.foldl_nil] at e
 rw [getD_lt hj]
 unfold rowAt
 rw [show (List.map (fun v => List.foldl (upd v) (fillS w v) (List.take j w.2.2)) (List.range w.2.1.length)).set w.2.2[j].2.1.toNat w.2.2[j].2.2 = _ from e]
 refine List.map_congr_left fun v _ => ?_
 rw [← List.take_append_getElem hj, List.foldl_append]; rfl
def inner {R : Type} (w : TWave) (i : Int) (s : Int × (LStr × Unit)) : Option ((Int × (LStr × Unit)) ⊕ ((Int × (LStr × Unit)) ⊕ R)) :=
 (br (lt s.1 (ni (len w.2.2))) (br (ix s.1 (ni (len w.2.2))) (br (eq (rd w.2.2 (tn s.1) (0, (0, []))).1 (rd w.2.2 (tn i) (0, (0, []))).1) (br (ix s.1 (ni (len w.2.2))) (br (ix s.1 (ni (len w.2.2))) (br (ix (rd w.2.2 (tn s.1) (0, (0, []))).2.1 (ni (len s.2.1))) (some (.inl ((wr .i64 (ad s.1 1)), ((put s.2.1 (tn (rd w.2.2 (tn s.1) (0, (0, []))).2.1) (rd w.2.2 (tn s.1) (0, (0, []))).2.2), ())))) none) none) none) (some (.inr (.inl (s.1, (s.2.1, ())))))) none) (some (.inr (.inl (s.1, (s.2.1, ()))))))
theorem inner_eq {R : Type} {w : TWave} (h : Good w) {i j : Nat} (hij : i < j) (hj : j ≤ w.2.2.length) (ht : ∀ k, i ≤ k → k < j → tAt w k = tAt w i) (hn : j < w.2.2.length → tAt w j ≠ tAt w i) :
  iterS (inner (R := R) w (i : Int)) ((i : Int), (rowAt w i, ())) = some (.inl ((j : Int), (rowAt w j, ()))) := by
 have hnc := h.nc
 have l := iterS_upto (f := inner (R := R) w (i : Int)) (fun k => (((i + k : Nat) : Int), (rowAt w (i + k), ()))) (j - i) (r := .inl ((j : Int), (rowAt w j, ())))
  (fun k hk => by
   have hv := cErr_zero (h.chg (i + k) (by omega)); have e1 := ht (i + k) (by omega) (by omega); unfold inner; simp only [tn_nat]; have hr : ∀ m : Nat, rd w.2.2 m d0 = w.2.2.getD m d0 := fun m => rfl
   rw [hr, hr, br_def, if_pos (by simp only [lt_def, ni_def, len_def, decide_eq_true_eq]; omega), br_def, if_pos (by simp only [ix_def, ni_def, len_def, decide_eq_true_eq]; omega), br_def,
    if_pos (by simp only [eq_def, decide_eq_true_eq]; exact e1), br_def, if_pos (by simp only [ix_def, ni_def, len_def, decide_eq_true_eq]; omega), br_def, if_pos (by simp only [ix_def, ni_def, len_def, decide_eq_true_eq]; omega),
    br_def, if_pos (by simp only [ix_def, ni_def, len_def, decide_eq_true_eq, rowAt_len]; omega), wr64 (by simp only [ad_def]; omega) (by simp only [ad_def]; omega), put_def, tn_def, rowAt_succ h (by omega)]
   rfl)
  (by
   rw [show i + (j - i) = j by omega]; unfold inner; simp only [tn_nat]; have hr : ∀ m : Nat, rd w.2.2 m d0 = w.2.2.getD m d0 := fun m => rfl
   rw [hr, hr, br_def]; by_cases q : j < w.2.2.length
   ·rw [if_pos (by simp only [lt_def, ni_def, len_def, decide_eq_true_eq]; omega), br_def, if_pos (by simp only [ix_def, ni_def, len_def, decide_eq_true_eq]; omega), br_def,
     if_neg (by simp only [eq_def, decide_eq_true_eq]; exact hn q)]
   ·rw [if_neg (by simp only [lt_def, ni_def, len_def, decide_eq_true_eq]; omega)])
 rw [Nat.add_zero] at l
 exact l
theorem steps_rule {σ R X : Type} {w : TWave} (h : Good w) {f : σ → Option (σ ⊕ R)} (mk : Int → LStr → X → σ) (g : Int → X → X) (fin : X → R) (I : Nat → X → Prop)
  (hstep : ∀ i j x, i < j → j ≤ w.2.2.length → Bd w i → (∀ k, i ≤ k → k < j → tAt w k = tAt w i) → (j < w.2.2.length → tAt w j ≠ tAt w i) → I i x →
   f (mk i (rowAt w i) x) = some (.inl (mk j (rowAt w j) (g (tAt w i) x))) ∧ I j (g (tAt w i) x))
  (hend : ∀ x, I w.2.2.length x → f (mk w.2.2.length (rowAt w w.2.2.length) x) = some (.inr (fin x))) (x0 : X) (h0 : I 0 x0) :
  iterS f (mk (0 : Nat) (rowAt w 0) x0) = some (fin ((tms w.2.2 w.2.2.length).foldl (fun x T => g T x) x0)) ∧ I w.2.2.length ((tms w.2.2 w.2.2.length).foldl (fun x T => g T x) x0) := by
 have key : ∀ d i x, w.2.2.length - i ≤ d → i ≤ w.2.2.length → (i < w.2.2.length → Bd w i) → x = (tms w.2.2 i).foldl (fun x T => g T x) x0 → I i x →
   iterS f (mk i (rowAt w i) x) = some (fin ((tms w.2.2 w.2.2.length).foldl (fun x T => g T x) x0)) ∧ I w.2.2.length ((tms w.2.2 w.2.2.length).foldl (fun x T => g T x) x0) := by
  intro d; induction d with
  | zero =>
   intro i x hd hi hb hx hI; have e : i = w.2.2.length := by omega
   subst e; rw [iterS_inr (hend x hI), hx]; exact ⟨rfl, hx ▸ hI⟩
  | succ d ih =>
   intro i x hd hi hb hx hI; by_cases q : i < w.2.2.length
   ·obtain ⟨j, j1, j2, j3, j4⟩ := gend w q
    obtain ⟨s1, s2⟩ := hstep i j x j1 j2 (hb q) j3 j4 hI; rw [iterS_inl s1]; refine ih j _ (by omega) j2 (fun q2 => .inr ?_) ?_ s2
    ·rw [j3 (j - 1) (by omega) (by omega)]; exact j4 q2
    ·rw [tms_group w.2.2 i j j1 (hb q) j3, List.foldl_append, ← hx]; rfl
   ·have e : i = w.2.2.length := by omega
    subst e; rw [iterS_inr (hend x hI), hx]; exact ⟨rfl, hx ▸ hI⟩
 exact key _ 0 x0 (Nat.le_refl _) (Nat.zero_le _) (fun _ => .inl rfl) rfl h0
theorem init_eq {w : TWave} (h : Good w) : F_vcd_initial w = some (rowAt w 0) := by
 have hnv := h.nv
 have l := iterS_upto (f := F_vcd_initial_l0 w) (fun i => ((i : Int), ((((List.range w.2.1.length).take i).map (fillS w) ++ List.replicate ((List.range w.2.1.length).length - i) ([] : Str)), ()))) w.2.1.length (r := .inl ((w.2.1.length : Int), (rowAt w 0, ())))
  (fun i hi => by
   have hw := h.width hi; unfold F_vcd_initial_l0; simp only [tn_nat]; have hr : F_strings_Repeat ([120] : Str) (rd w.2.1 i v0).2.2 = some (fillS w i) := by
    unfold F_strings_Repeat; rw [if_pos]
    ·rfl
    ·exact ⟨rfl, by show 0 ≤ (w.2.1.getD i v0).2.2; omega, by show (w.2.1.getD i v0).2.2 ≤ 1000; omega⟩
   rw [hr, ob_some, br_def, if_pos (by simp only [lt_def, ni_def, len_def, decide_eq_true_eq]; omega), br_def, if_pos (by simp only [ix_def, ni_def, len_def, decide_eq_true_eq]; omega), br_def,
    if_pos (by simp only [ix_def, ni_def, len_def, decide_eq_true_eq, List.length_append, List.length_map, List.length_take, List.length_replicate, List.length_range]; omega), wr64 (by simp only [ad_def]; omega) (by simp only [ad_def]; omega), put_def]
   have e := set_map (fillS w) (List.range w.2.1.length) ([] : Str) i (by simpa using hi); rw [List.getElem_range] at e; rw [e]; rfl)
  (by
   unfold F_vcd_initial_l0; rw [br_def, if_neg (by simp only [lt_def, ni_def, len_def, decide_eq_true_eq]; omega)]; have e : ((List.range w.2.1.length).take w.2.1.length).map (fillS w) ++ List.replicate ((List.range w.2.1.length).length - w.2.1.length) ([] : Str) = rowAt w 0 := by
    rw [List.take_of_length_le (by simp), List.length_range, Nat.sub_self]; simp [rowAt]
   rw [e])
 unfold F_vcd_initial
 simp only [br_def, rg_def, ni_def, len_def, decide_eq_true_eq, le_def, ml_def]
 rw [if_pos (by omega), if_pos (by omega), if_pos (by omega)]
 have l' : iterS (F_vcd_initial_l0 w) ((0 : Int), ((rept (tn (w.2.1.length : Int)) ([] : Str)), ())) = some (.inl ((w.2.1.length : Int), (rowAt w 0, ()))) := by
  have : (rept (tn (w.2.1.length : Int)) ([] : Str)) = ((List.range w.2.1.length).take 0).map (fillS w) ++ List.replicate ((List.range w.2.1.length).length - 0) ([] : Str) := by
   rw [tn_nat, rept_def]; simp
  rw [this]; exact l
 rw [l', oj_inl]
theorem clone_eq (l : LStr) (h : l.length ≤ 100000) : F_slices_Clone_string_string l = some l := by
 unfold F_slices_Clone_string_string; rw [if_pos h]
theorem ltp {a b : Int} (h : a < b) : lt a b = true := decide_eq_true h
theorem ltn {a b : Int} (h : ¬ a < b) : lt a b = false := decide_eq_false h
theorem ixp {a b : Int} (h : 0 ≤ a ∧ a < b) : ix a b = true := decide_eq_true h
theorem fitsp {a b c : Nat} (h : a + b ≤ c) : fits a b c = true := decide_eq_true h
theorem br_t {R : Type} (x y : Option R) : br true x y = x := rfl
theorem br_f {R : Type} (x y : Option R) : br false x y = y := rfl
def dif (w : TWave) (T : Int) (v : Nat) : Option TChg := if valW w v T = valW w v (T - 1) then none else some (T, ((v : Int), valW w v T))
def diffs (w : TWave) (T : Int) : List TChg := (List.range w.2.1.length).filterMap (dif w T)
def NF (w : TWave) : List TChg := (tms w.2.2 w.2.2.length).foldl (fun x T => x ++ diffs w T) []
theorem fold_fm {α β : Type} (f : α → Option β) : ∀ (l : List α) (o : List β), l.foldl (fun o v => o ++ (f v).toList) o = o ++ l.filterMap f := by
 intro l
 induction l with
 | nil => intro o; simp
 | cons a r ih =>
  intro o; rw [List.foldl_cons, ih, List.filterMap_cons]; cases f a <;> simp
theorem normal_vars {w : TWave} (h : Good w) (y0 : Int) : iterS (F_vcd_Normal_l0 w y0) (0, ([], ())) = some (.inl ((w.2.1.length : Int), (w.2.1, ()))) := by
 have hnv := h.nv
 have l := iterS_upto (f := F_vcd_Normal_l0 w y0) (fun i => ((i : Int), (w.2.1.take i, ()))) w.2.1.length (r := .inl ((w.2.1.length : Int), (w.2.1, ())))
  (fun i hi => by
   have hs := (vErr_zero (h.var i hi)).2.2.1; unfold F_vcd_Normal_l0; simp only [tn_nat]; have hc : F_slices_Clone_string_string (rd w.2.1 i v0).1 = some (w.2.1.getD i v0).1 := clone_eq _ (by show (w.2.1.getD i v0).1.length ≤ 100000; omega); rw [hc, ob_some, ltl (by omega), br_t, ixl (by omega), br_t, fitsp (by simp [len_def]; omega), br_t, wra (by omega), app_def]; have e : w.2.1.take i ++ [((w.2.1.getD i v0).1, ((rd w.2.1 i v0).2.1, (rd w.2.1 i v0).2.2))] = w.2.1.take (i + 1) := by
    rw [← List.take_append_getElem hi]
    congr 2
    show w.2.1.getD i v0 = _; exact getD_lt hi _
   rw [e]; rfl)
  (by
   unfold F_vcd_Normal_l0; rw [lnl (by omega), br_f, List.take_length])
 exact l
theorem normal_dif {w : TWave} (h : Good w) {T : Int} (y0 : Int) (y2) (y3) (i : Nat) (x : List TChg) (j : Int) (st : LStr) (hT : tAt w i = T) (hx : x.length ≤ 2000000) :
  iterS (F_vcd_Normal_l3 w y0 y2 y3 ((i : Int), (st, (x, ()))) (rowV w (T - 1)) (j, (rowV w T, ()))) (0, (x, ())) = some (.inl ((w.2.1.length : Int), (x ++ diffs w T, ()))) := by
 have hnv := h.nv
 have l := iterS_fold (f := F_vcd_Normal_l3 w y0 y2 y3 ((i : Int), (st, (x, ()))) (rowV w (T - 1)) (j, (rowV w T, ()))) (List.range w.2.1.length) (fun i b => ((i : Int), (b, ()))) (fun b v => b ++ (dif w T v).toList)
  (fun b => .inl ((w.2.1.length : Int), (b, ()))) (fun i b => b.length ≤ 2000000 + i)
  (fun v b hv hb => by
   simp only [List.length_range] at hv; rw [List.getElem_range]; have hr : (rd w.2.2 i d0).1 = T := hT; have g1 : rd (rowV w T) v ([] : Str) = valW w v T := rowV_get hv _; have g2 : rd (rowV w (T - 1)) v ([] : Str) = valW w v (T - 1) := rowV_get hv _; refine ⟨?_, ?_⟩
   ·unfold F_vcd_Normal_l3
    simp only [tn_nat]; rw [hr, g1, g2, ltp (by simp only [ni_def, len_def, rowV_len]; omega), br_t, ixp (by simp only [ni_def, len_def, rowV_len]; omega), br_t, ixp (by simp only [ni_def, len_def, rowV_len]; omega), br_t,
     wra (by omega)]
    unfold dif; by_cases q : valW w v T = valW w v (T - 1)
    ·rw [if_pos q, show nt (sq (valW w v T) (valW w v (T - 1))) = false by simp [nt_def, sq, q], br_f]
     simp [ad_def]
    ·rw [if_neg q, show nt (sq (valW w v T) (valW w v (T - 1))) = true by simp [nt_def, sq, q], br_t, br_t, fitsp (by simp [len_def]; omega), br_t]
     simp [ad_def, app_def]
   ·show (b ++ (dif w T v).toList).length ≤ _
    unfold dif; split <;> simp <;> omega)
  (fun b hb => by
   unfold F_vcd_Normal_l3; rw [ltn (by simp only [ni_def, len_def, rowV_len, List.length_range]; omega), br_f, List.length_range])
  (b := x) (by simpa using hx)
 rw [fold_fm] at l
 exact l
theorem normal_eq (w : TWave) (hw : WfT .str w.1) : F_vcd_Normal w = some (if chk w = 0 then ((w.1, (w.2.1, NF w)), 0) else (([], ([], [])), chk w)) := by
 unfold F_vcd_Normal
 rw [show F_vcd_Check (w.1, (w.2.1, w.2.2)) = some (chk w) from check_eq w hw, ob_some]
 by_cases hc : chk w = 0
 ·have h : Good w := chk_zero.1 hc
  have hnv := h.nv; have hnc := h.nc; rw [if_pos hc, show ne (chk w) 0 = false by simp [ne_def, hc], br_f, normal_vars h, oj_inl, show F_vcd_initial (w.1, (w.2.1, w.2.2)) = _ from init_eq h, ob_some]; have st := steps_rule (X := List TChg) h (f := F_vcd_Normal_l1 w (chk w) ((w.2.1.length : Int), (w.2.1, ())) (rowAt w 0)) (fun i s x => (i, (s, (x, ())))) (fun T x => x ++ diffs w T)
   (fun x => .inl ((w.2.2.length : Int), (rowAt w w.2.2.length, (x, ())))) (fun i x => x.length ≤ i * 256)
   (fun i j x j1 j2 hb j3 j4 hI => by
    have hdl : (diffs w (tAt w i)).length ≤ 256 := Nat.le_trans (List.length_filterMap_le ..) (by simpa using hnv); refine ⟨?_, ?_⟩
    ·unfold F_vcd_Normal_l1
     simp only; rw [ltl (by omega), br_t, ixl (by omega), br_t, clone_eq _ (by rw [rowAt_len]; omega), ob_some]; rw [show iterS (F_vcd_Normal_l2 w (chk w) ((w.2.1.length : Int), (w.2.1, ())) (rowAt w 0) ((i : Int), (rowAt w i, (x, ()))) (rowAt w i)) ((i : Int), (rowAt w i, ())) = _ from inner_eq h j1 j2 j3 j4, oj_inl]; have e1 := rowAt_before h (show i < w.2.2.length by omega) hb; have e2 := rowAt_after h j1 j2 j3 j4
     have nd := normal_dif h (T := tAt w i) (chk w) ((w.2.1.length : Int), (w.2.1, ())) (rowAt w 0) i x (j : Int) (rowAt w i) rfl (by have : i * 256 ≤ 4096 * 256 := Nat.mul_le_mul (by omega) (Nat.le_refl _); omega); rw [← e1, ← e2] at nd; rw [nd, oj_inl]
    ·show (x ++ diffs w (tAt w i)).length ≤ j * 256
     rw [List.length_append]; have : (i + 1) * 256 ≤ j * 256 := Nat.mul_le_mul (by omega) (Nat.le_refl _); omega)
   (fun x hI => by
    unfold F_vcd_Normal_l1; rw [lnl (by omega), br_f])
   [] (by simp)
  rw [show iterS (F_vcd_Normal_l1 w (chk w) ((w.2.1.length : Int), (w.2.1, ())) (rowAt w 0)) (0, (rowAt w 0, ([], ()))) = _ from st.1, oj_inl]; rfl
 ·rw [if_neg hc, show ne (chk w) 0 = true by simp [ne_def, hc], br_t]
theorem vat_eq (w : TWave) (hw : WfT .str w.1) (v T : Int) : F_vcd_At w v T = some (if chk w = 0 then if v < 0 ∨ (w.2.1.length : Int) ≤ v then ([], 1) else (valW w v.toNat T, 0) else ([], chk w)) := by
 unfold F_vcd_At
 rw [show F_vcd_Check (w.1, (w.2.1, w.2.2)) = some (chk w) from check_eq w hw, ob_some]
 by_cases hc : chk w = 0
 ·have h : Good w := chk_zero.1 hc
  have hnv := h.nv; have hnc := h.nc; rw [if_pos hc, show ne (chk w) 0 = false by simp [ne_def, hc], br_f]; by_cases q1 : v < 0
  ·rw [ltp q1, br_t, if_pos (.inl q1)]
  rw [ltn q1, br_f]; by_cases q2 : (w.2.1.length : Int) ≤ v
  ·rw [show le (ni (len w.2.1)) v = true from decide_eq_true q2, br_t, if_pos (.inr q2)]
  rw [show le (ni (len w.2.1)) v = false from decide_eq_false q2, br_f, if_neg (by omega)]; obtain ⟨k, rfl⟩ : ∃ k : Nat, v = k := ⟨v.toNat, by omega⟩; have hk : k < w.2.1.length := by omega
  rw [show F_vcd_initial (w.1, (w.2.1, w.2.2)) = _ from init_eq h, ob_some, ixp (by simp only [ni_def, len_def, rowAt_len]; omega), br_t, ob_some]; have e0 : rd (rowAt w 0) (tn (k : Int)) ([] : Str) = val (fillS w) (w.2.2.take 0) k T := by
   rw [tn_nat]; show (rowAt w 0).getD k [] = _; rw [getD_lt (by rw [rowAt_len]; exact hk)]; simp [rowAt, val]
  have st := steps_rule (X := Str) h (f := F_vcd_At_l0 w (k : Int) T (chk w) (rowAt w 0) (rowAt w 0)) (fun i s x => (i, (s, (x, ())))) (fun t x => if t ≤ T then valW w k t else x)
   (fun x => .inl ((w.2.2.length : Int), (rowAt w w.2.2.length, (x, ())))) (fun i x => x = val (fillS w) (w.2.2.take i) k T)
   (fun i j x j1 j2 hb j3 j4 hI => by
    have e2 := rowAt_after h j1 j2 j3 j4; refine ⟨?_, ?_⟩
    ·unfold F_vcd_At_l0
     simp only; rw [ltl (by omega), br_t, ixl (by omega), br_t, clone_eq _ (by rw [rowAt_len]; omega), ob_some]; rw [show iterS (F_vcd_At_l1 w (k : Int) T (chk w) (rowAt w 0) (rowAt w 0) ((i : Int), (rowAt w i, (x, ()))) (rowAt w i)) ((i : Int), (rowAt w i, ())) = _ from inner_eq h j1 j2 j3 j4, oj_inl]; have hr : (rd w.2.2 (tn (i : Int)) d0).1 = tAt w i := rfl; rw [hr]; by_cases q : tAt w i ≤ T
     ·rw [show le (tAt w i) T = true from decide_eq_true q, br_t, ixp (by simp only [ni_def, len_def, rowAt_len]; omega), br_t, if_pos q, tn_nat]
      have g1 : rd (rowAt w j) k ([] : Str) = valW w k (tAt w i) := by rw [e2]; exact rowV_get hk _
      rw [g1]
     ·rw [show le (tAt w i) T = false from decide_eq_false q, br_f, if_neg q]
    ·show (if tAt w i ≤ T then valW w k (tAt w i) else x) = _
     have et : w.2.2.take j = w.2.2.take i ++ (w.2.2.drop i).take (j - i) := by
      conv => lhs; rw [show j = i + (j - i) by omega, List.take_add]
     by_cases q : tAt w i ≤ T
     ·rw [if_pos q, val_early _ (w.2.2.take j)]
      ·have this : (rowAt w j).getD k [] = (rowV w (tAt w i)).getD k [] := by rw [e2]
       rw [rowV_get hk, getD_lt (by rw [rowAt_len]; exact hk)] at this; rw [← this]; simp [rowAt]
      ·intro c hc
       obtain ⟨m, hm, rfl⟩ := List.mem_take_iff_getElem.1 hc; have h1 := h.mono' (i := m) (j := j - 1) (by omega) (by omega); rw [j3 (j - 1) (by omega) (by omega)] at h1; unfold tAt at *; rw [getD_lt (by omega)] at h1; omega
     ·rw [if_neg q, hI, et, val_append]
      refine (val_late (fun _ => val (fillS w) (w.2.2.take i) k T) _ k T fun c hc _ => ?_).symm; obtain ⟨m, hm, rfl⟩ := List.mem_take_iff_getElem.1 hc; rw [List.getElem_drop]; have h1 := j3 (i + m) (by omega) (by omega); unfold tAt at *; rw [getD_lt (i := i + m) (by simp at hm; omega)] at h1; omega)
   (fun x hI => by
    unfold F_vcd_At_l0; rw [lnl (by omega), br_f])
   _ e0
  rw [show iterS (F_vcd_At_l0 w (k : Int) T (chk w) (rowAt w 0) (rowAt w 0)) (0, (rowAt w 0, (rd (rowAt w 0) (tn (k : Int)) ([] : Str), ()))) = _ from st.1, oj_inl]; have e3 := st.2; simp only at e3 ⊢; rw [e3, List.take_length]; rfl
 ·rw [if_neg hc, show ne (chk w) 0 = true by simp [ne_def, hc], br_t]
theorem flat_take {α : Type} (a : List (List α)) (i : Nat) (hi : i < a.length) : (a.take i).flatten ++ a[i] = (a.take (i + 1)).flatten := by
 rw [← List.take_append_getElem hi, List.flatten_append, List.flatten_singleton]
theorem flat_le {α : Type} (a : List (List α)) (i : Nat) : (a.take i).flatten.length ≤ a.flatten.length := by
 conv => rhs; rw [← List.take_append_drop i a, List.flatten_append, List.length_append]
 omega
theorem F_slices_Concat_Change_Change_eq (a : List (List TChg)) (h : a.length ≤ 4000000000000) (h2 : a.flatten.length ≤ 4000000000000) : F_slices_Concat_Change_Change a = some a.flatten := by
 have l0 := iterS_upto (f := F_slices_Concat_Change_Change_l0 a) (fun i => ((i : Int), ((a.take i).flatten.length : Int), ())) a.length (r := .inl ((a.length : Int), (a.flatten.length : Int), ()))
  (fun i hi => by
   have e := flat_take a i hi; have e2 := flat_le a (i + 1); have e3 := congrArg List.length e; rw [List.length_append] at e3; simp only [F_slices_Concat_Change_Change_l0, br_def, lt_def, ni_def, len_def, ix_def, tn_nat, rd_lt hi, decide_eq_true_eq, ad_def]; rw [if_pos (by omega), if_pos (by omega), wr64 (by omega) (by omega), if_neg (by omega), wr64 (by omega) (by omega), ← e3]; rfl)
  (by simp [F_slices_Concat_Change_Change_l0])
 have l1 : ∀ y0, iterS (F_slices_Concat_Change_Change_l1 a y0) (0, ([], ())) = some (.inl ((a.length : Int), a.flatten, ())) := fun y0 => by
  have := iterS_upto (f := F_slices_Concat_Change_Change_l1 a y0) (fun i => ((i : Int), (a.take i).flatten, ())) a.length (r := .inl ((a.length : Int), a.flatten, ()))
   (fun i hi => by
    have e := flat_take a i hi; have e2 := flat_le a (i + 1); have e3 := congrArg List.length e; rw [List.length_append] at e3; simp only [F_slices_Concat_Change_Change_l1, br_def, lt_def, ni_def, len_def, ix_def, tn_nat, rd_lt hi, decide_eq_true_eq, ad_def, fits_def, app_def]; rw [if_pos (by omega), if_pos (by omega), if_pos (by omega), wr64 (by omega) (by omega), e]; rfl)
   (by simp [F_slices_Concat_Change_Change_l1])
  simpa using this
 have l2 : ∀ y0, iterS (F_slices_Concat_Change_Change_l2 a y0) (0, ([], ())) = some (.inl ((a.length : Int), a.flatten, ())) := l1
 unfold F_slices_Concat_Change_Change
 rw [show ((0 : Int), ((0 : Int), ())) = (((0 : Nat) : Int), ((a.take 0).flatten.length : Int), ()) by simp, l0, oj_inl]
 simp only [br_def, lt_def, sb_def, ni_def, len_def, rept_def, cut_def, rg_def, fits_def, decide_eq_true_eq]
 rw [if_neg (by omega), show wr .i64 (0 - ((0 : Nat) : Int)) = 0 from wr64 (by decide) (by decide), wr64 (by omega) (by omega)]
 by_cases h0 : a.flatten.length = 0
 ·rw [if_neg (by omega), l2]
 ·have e : tn ((a.flatten.length : Int) - 0) = a.flatten.length := by
   show Int.toNat _ = _; omega
  rw [if_pos (by omega), if_pos (by omega), e, if_pos (by omega), if_pos (by simp)]; rw [show tn (((0 : Nat) : Int)) = 0 from rfl, List.take_zero, l1]
def fd : List TChg → List TChg → Int × (Int × (Bool × Int))
 | c :: x, d :: y => if c = d then fd x y else if d.1 < c.1 ∨ (d.1 = c.1 ∧ d.2.1 < c.2.1) then (d.1, (d.2.1, (true, 0))) else (c.1, (c.2.1, (true, 0)))
 | [], [] => (0, (0, (false, 0)))
 | c :: _, [] => (c.1, (c.2.1, (true, 0)))
 | [], d :: _ => (d.1, (d.2.1, (true, 0)))
def cp : List TChg → List TChg → Nat
 | c :: x, d :: y => if c = d then cp x y + 1 else 0
 | _, _ => 0
theorem cp_spec : ∀ (x y : List TChg), cp x y ≤ x.length ∧ cp x y ≤ y.length ∧ (∀ i, i < cp x y → x.getD i d0 = y.getD i d0) ∧ (cp x y < x.length → cp x y < y.length → x.getD (cp x y) d0 ≠ y.getD (cp x y) d0) ∧ fd x y = fd (x.drop (cp x y)) (y.drop (cp x y)) := by
 intro x
 induction x with
 | nil => intro y; cases y <;> simp [cp]
 | cons c x ih =>
  intro y; cases y with
  | nil => simp [cp]
  | cons d y =>
   unfold cp; by_cases e : c = d
   ·rw [if_pos e]
    subst e; obtain ⟨h1, h2, h3, h4, h5⟩ := ih y; refine ⟨by simp; omega, by simp; omega, fun i hi => ?_, fun a b => ?_, ?_⟩
    ·cases i with
     | zero => rfl
     | succ i => simpa using h3 i (by omega)
    ·simp at a b
     simpa using h4 a b
    ·rw [fd, if_pos rfl, h5]; rfl
   ·rw [if_neg e]
    exact ⟨Nat.zero_le _, Nat.zero_le _, fun i hi => absurd hi (Nat.not_lt_zero _), fun _ _ => by simpa using e, rfl⟩
theorem chg_eq (c d : TChg) : ba (eq c.1 d.1) (ba (eq c.2.1 d.2.1) (sq c.2.2 d.2.2)) = decide (c = d) := by
 obtain ⟨a, b, s⟩ := c
 obtain ⟨a', b', s'⟩ := d
 simp only [ba_def, eq_def, sq, Prod.mk.injEq]
 by_cases h1 : a = a' <;> by_cases h2 : b = b' <;> by_cases h3 : s = s' <;> simp [h1, h2, h3]
theorem cut1 {α : Type} (x : List α) (p : Nat) (hp : p ≤ x.length) (hl : x.length ≤ 4000000000000) : rg (p : Int) (mn (wr .i64 (ad (p : Int) 1)) (ni (len x))) (ni (len x)) = true ∧
  TM.cut x (tn (p : Int)) (nsub (tn (mn (wr .i64 (ad (p : Int) 1)) (ni (len x)))) (tn (p : Int))) = (x.drop p).take 1 := by
 rw [wr64 (by simp only [ad_def]; omega) (by simp only [ad_def]; omega), mn_def, ad_def]
 simp only [ni_def, len_def]
 by_cases q : (x.length : Int) < (p : Int) + 1
 ·have e : p = x.length := by omega
  rw [if_pos q]; refine ⟨by rw [rg_def]; simp only [decide_eq_true_eq]; omega, ?_⟩; rw [tn_nat, tn_nat, cut_def, nsub_def, e]; simp
 ·rw [if_neg q]
  refine ⟨by rw [rg_def]; simp only [decide_eq_true_eq]; omega, ?_⟩; rw [show tn ((p : Int) + 1) = p + 1 by rw [tn_def]; omega, tn_nat, cut_def, nsub_def, show p + 1 - p = 1 by omega]
theorem fd_heads (X Y z : List TChg) (hz : z = X.take 1 ++ Y.take 1) (h : ∀ c x d y, X = c :: x → Y = d :: y → c ≠ d) : (br (eq (ni (len z)) 0) (some ((0 : Int), ((0 : Int), (false, (0 : Int))))) (br (ix 0 (ni (len z))) (br (ix (wr .i64 (sb (ni (len z)) 1)) (ni (len z)))
  (br (lt (rd z (tn (wr .i64 (sb (ni (len z)) 1))) d0).1 (rd z (tn 0) (0, (0, []))).1) (some ((rd z (tn (wr .i64 (sb (ni (len z)) 1))) d0).1, ((rd z (tn (wr .i64 (sb (ni (len z)) 1))) d0).2.1, (true, 0))))
   (br (eq (rd z (tn (wr .i64 (sb (ni (len z)) 1))) d0).1 (rd z (tn 0) (0, (0, []))).1) (br (lt (rd z (tn (wr .i64 (sb (ni (len z)) 1))) d0).2.1 (rd z (tn 0) (0, (0, []))).2.1)
    (some ((rd z (tn (wr .i64 (sb (ni (len z)) 1))) d0).1, ((rd z (tn (wr .i64 (sb (ni (len z)) 1))) d0).2.1, (true, 0)))) (some ((rd z (tn 0) (0, (0, []))).1, ((rd z (tn 0) (0, (0, []))).2.1, (true, 0)))))
    (some ((rd z (tn 0) (0, (0, []))).1, ((rd z (tn 0) (0, (0, []))).2.1, (true, 0)))))) none) none)) = some (fd X Y) := by
 subst hz
 have z1 : wr .i64 (sb (1 : Int) 1) = 0 := wr64 (by decide) (by decide)
 have z2 : wr .i64 (sb (2 : Int) 1) = 1 := wr64 (by decide) (by decide)
 cases X with
 | nil =>
  cases Y with
  | nil => rfl
  | cons d y =>
   show br (eq 1 0) _ (br (ix 0 1) (br (ix (wr .i64 (sb (1 : Int) 1)) 1) (br (lt (rd [d] (tn (wr .i64 (sb (1 : Int) 1))) (0, (0, []))).1 d.1) (some ((rd [d] (tn (wr .i64 (sb (1 : Int) 1))) (0, (0, []))).1, _)) _) none) none) = _; rw [z1, show ix 0 1 = true from rfl, show eq 1 0 = false from rfl, br_f, br_t, br_t, show tn 0 = 0 from rfl]; rw [show lt (rd [d] 0 d0).1 d.1 = false from decide_eq_false (by show ¬ d.1 < d.1; omega), br_f]
   show br (eq (rd [d] (tn (wr .i64 (sb (1 : Int) 1))) (0, (0, []))).1 d.1) (br (lt (rd [d] (tn (wr .i64 (sb (1 : Int) 1))) (0, (0, []))).2.1 d.2.1) _ (some (d.1, (d.2.1, (true, 0))))) (some (d.1, (d.2.1, (true, 0)))) = _; rw [z1, show tn 0 = 0 from rfl, show lt (rd [d] 0 d0).2.1 d.2.1 = false from decide_eq_false (by show ¬ d.2.1 < d.2.1; omega), br_f]; cases eq (rd [d] 0 d0).1 d.1 <;> rfl
 | cons c x =>
  cases Y with
  | nil =>
   show br (eq 1 0) _ (br (ix 0 1) (br (ix (wr .i64 (sb (1 : Int) 1)) 1) (br (lt (rd [c] (tn (wr .i64 (sb (1 : Int) 1))) (0, (0, []))).1 c.1) (some ((rd [c] (tn (wr .i64 (sb (1 : Int) 1))) (0, (0, []))).1, _)) _) none) none) = _; rw [z1, show ix 0 1 = true from rfl, show eq 1 0 = false from rfl, br_f, br_t, br_t, show tn 0 = 0 from rfl]; rw [show lt (rd [c] 0 d0).1 c.1 = false from decide_eq_false (by show ¬ c.1 < c.1; omega), br_f]
   show br (eq (rd [c] (tn (wr .i64 (sb (1 : Int) 1))) (0, (0, []))).1 c.1) (br (lt (rd [c] (tn (wr .i64 (sb (1 : Int) 1))) (0, (0, []))).2.1 c.2.1) _ (some (c.1, (c.2.1, (true, 0))))) (some (c.1, (c.2.1, (true, 0)))) = _; rw [z1, show tn 0 = 0 from rfl, show lt (rd [c] 0 d0).2.1 c.2.1 = false from decide_eq_false (by show ¬ c.2.1 < c.2.1; omega), br_f]; cases eq (rd [c] 0 d0).1 c.1 <;> rfl
  | cons d y =>
   have hne := h c x d y rfl rfl; have hl : (wr .i64 (sb (ni (len ((c :: x).take 1 ++ (d :: y).take 1))) 1)) = 1 := z2; have hn : ni (len ((c :: x).take 1 ++ (d :: y).take 1)) = 2 := rfl; have r1 : rd ((c :: x).take 1 ++ (d :: y).take 1) (tn 1) d0 = d := rfl; have r0 : rd ((c :: x).take 1 ++ (d :: y).take 1) (tn 0) d0 = c := rfl; rw [hl, hn, r1, r0, show ix 0 2 = true from rfl, show ix 1 2 = true from rfl, show eq 2 0 = false from rfl, br_f, br_t, br_t, fd, if_neg hne]; by_cases q1 : d.1 < c.1
   ·rw [ltp q1, br_t, if_pos (.inl q1)]
   ·rw [ltn q1, br_f]
    by_cases q2 : d.1 = c.1
    ·rw [show eq d.1 c.1 = true from decide_eq_true q2, br_t]
     by_cases q3 : d.2.1 < c.2.1
     ·rw [ltp q3, br_t, if_pos (.inr ⟨q2, q3⟩)]
     ·rw [ltn q3, br_f, if_neg (by omega)]
    ·rw [show eq d.1 c.1 = false from decide_eq_false q2, br_f, if_neg (by omega)]
theorem diff1 (a b : TVar) (h : a.1.length ≤ 9000000000000 ∨ b.1.length ≤ 9000000000000) : F_vcd_Diff_1 a b = some (decide (a = b)) := by
 unfold F_vcd_Diff_1
 rw [show F_vcd_same (a.1, (a.2.1, a.2.2)) (b.1, (b.2.1, b.2.2)) = some (sameB a b) from same_eq a b h, ob_some]
 obtain ⟨s, n, k⟩ := a
 obtain ⟨s', n', k'⟩ := b
 unfold sameB
 simp only [br_def, eq_def, decide_eq_true_eq, Prod.mk.injEq]
 by_cases h1 : n = n' <;> by_cases h2 : s = s' <;> simp [h1, h2]
theorem nf_len {w : TWave} (h : Good w) : (NF w).length ≤ 2000000 := by
 have hnv := h.nv
 have hnc := h.nc
 have hd : ∀ T, (diffs w T).length ≤ 256 := fun T => Nat.le_trans (List.length_filterMap_le ..) (by simpa using hnv)
 have hl : ∀ (l : List Int) (x : List TChg), (l.foldl (fun x T => x ++ diffs w T) x).length ≤ x.length + l.length * 256 := by
  intro l; induction l with
  | nil => intro x; simp
  | cons T l ih =>
   intro x; have h1 := ih (x ++ diffs w T); have h2 := hd T; rw [List.length_append] at h1; simp only [List.foldl_cons, List.length_cons]; omega
 have h1 := hl (tms w.2.2 w.2.2.length) []
 have h2 : (tms w.2.2 w.2.2.length).length ≤ 4096 := Nat.le_trans (List.length_filterMap_le ..) (by simpa using hnc)
 unfold NF
 simp only [List.length_nil] at h1
 omega
theorem diff_eq (a b : TWave) (ha : WfT .str a.1) (hb : WfT .str b.1) : F_vcd_Diff a b = some (if chk a = 0 then if chk b = 0 then if a.1 = b.1 ∧ a.2.1 = b.2.1 then fd (NF a) (NF b) else (0, (0, (false, 12))) else (0, (0, (false, chk b))) else (0, (0, (false, chk a)))) := by
 unfold F_vcd_Diff
 rw [show F_vcd_Normal (a.1, (a.2.1, a.2.2)) = _ from normal_eq a ha, ob_some]
 by_cases hc : chk a = 0
 ·rw [if_pos hc, if_pos hc, show ne (((a.1, (a.2.1, NF a)), (0 : Int)) : TWave × Int).2 0 = false from rfl, br_f, show F_vcd_Normal (b.1, (b.2.1, b.2.2)) = _ from normal_eq b hb, ob_some]
  by_cases hd : chk b = 0
  ·rw [if_pos hd, if_pos hd, show ne (((b.1, (b.2.1, NF b)), (0 : Int)) : TWave × Int).2 0 = false from rfl, br_f]
   have ga := chk_zero.1 hc; have gb := chk_zero.1 hd; have na := ga.nv; have nb := gb.nv; simp only; by_cases e1 : a.1 = b.1
   ·rw [show nt (sq a.1 b.1) = false by simp [nt_def, sq, e1], br_f]
    by_cases e2 : a.2.1.length = b.2.1.length
    ·rw [show ne (ni (len a.2.1)) (ni (len b.2.1)) = false from decide_eq_false (by simp only [ni_def, len_def, ne_eq]; omega), br_f]
     have l := iterS_findR (f := F_vcd_Diff_l0 a b ((a.1, (a.2.1, NF a)), 0) ((b.1, (b.2.1, NF b)), 0)) a.2.1.length (fun i => ((i : Int), ())) (fun i => if decide (a.2.1.getD i v0 = b.2.1.getD i v0) = true then none else some ()) (.inl ((a.2.1.length : Int), ())) (fun _ => .inr (0, (0, (false, 12))))
      (fun i hi => by
       have hs := (vErr_zero (ga.var i hi)).2.2.1; unfold F_vcd_Diff_l0; simp only [tn_nat]; rw [show F_vcd_Diff_1 ((rd a.2.1 i v0).1, ((rd a.2.1 i v0).2.1, (rd a.2.1 i v0).2.2)) ((rd b.2.1 i v0).1, ((rd b.2.1 i v0).2.1, (rd b.2.1 i v0).2.2)) = _ from
        diff1 (a.2.1.getD i v0) (b.2.1.getD i v0) (.inl (by omega)), ob_some, ltl (by omega), br_t, ixl (by omega), br_t, ixl (by omega), br_t, wra (by omega)]
       by_cases q : a.2.1.getD i v0 = b.2.1.getD i v0
       ·rw [decide_eq_true q, if_pos rfl]; rfl
       ·rw [decide_eq_false q, if_neg (by simp)]; rfl)
      (by
       unfold F_vcd_Diff_l0; rw [ltn (by simp only [ni_def, len_def]; omega), br_f])
     rw [show iterS (F_vcd_Diff_l0 a b ((a.1, (a.2.1, NF a)), 0) ((b.1, (b.2.1, NF b)), 0)) (0, ()) = _ from l, find_all', eq_all _ _ _ e2]; by_cases e3 : a.2.1 = b.2.1
     ·rw [if_pos (by simpa using e3), if_pos ⟨e1, e3⟩, Option.elim, oj_inl]
      obtain ⟨p1, p2, p3, p4, p5⟩ := cp_spec (NF a) (NF b); have la := nf_len ga; have lb := nf_len gb; have l1 := iterS_upto (f := F_vcd_Diff_l1 a b ((a.1, (a.2.1, NF a)), 0) ((b.1, (b.2.1, NF b)), 0) ((a.2.1.length : Int), ())) (fun i => ((i : Int), ())) (cp (NF a) (NF b)) (r := .inl (((cp (NF a) (NF b) : Nat) : Int), ()))
       (fun i hi => by
        unfold F_vcd_Diff_l1; simp only [tn_nat]; rw [chg_eq, show rd (NF a) i d0 = (NF a).getD i d0 from rfl, show rd (NF b) i d0 = (NF b).getD i d0 from rfl, ltl (by omega), br_t, ltl (by omega), br_t, ixl (by omega), br_t, ixl (by omega), br_t, wra (by omega), decide_eq_true (p3 i hi), br_t]; rfl)
       (by
        unfold F_vcd_Diff_l1; simp only [tn_nat]; by_cases q1 : cp (NF a) (NF b) < (NF a).length
        ·rw [ltl (by omega), br_t]
         by_cases q2 : cp (NF a) (NF b) < (NF b).length
         ·rw [chg_eq, show rd (NF a) (cp (NF a) (NF b)) d0 = (NF a).getD (cp (NF a) (NF b)) d0 from rfl, show rd (NF b) (cp (NF a) (NF b)) d0 = (NF b).getD (cp (NF a) (NF b)) d0 from rfl, ltl (by omega), br_t, ixl (by omega), br_t, ixl (by omega), br_t, decide_eq_false (p4 q1 q2), br_f]
         ·rw [lnl (by omega), br_f]
        ·rw [lnl (by omega), br_f])
      rw [show iterS (F_vcd_Diff_l1 a b ((a.1, (a.2.1, NF a)), 0) ((b.1, (b.2.1, NF b)), 0) ((a.2.1.length : Int), ())) (0, ()) = _ from l1, oj_inl]; simp only; obtain ⟨c1, c2⟩ := cut1 (NF a) (cp (NF a) (NF b)) p1 (by omega); obtain ⟨c3, c4⟩ := cut1 (NF b) (cp (NF a) (NF b)) p2 (by omega); rw [c1, br_t, c3, br_t, c2, c4, F_slices_Concat_Change_Change_eq _ (by simp) (by simp; omega), ob_some, p5]
      have ef : ([((NF a).drop (cp (NF a) (NF b))).take 1, ((NF b).drop (cp (NF a) (NF b))).take 1] : List (List TChg)).flatten = ((NF a).drop (cp (NF a) (NF b))).take 1 ++ ((NF b).drop (cp (NF a) (NF b))).take 1 := by simp
      rw [ef]; refine fd_heads _ _ _ rfl fun c x d y hx hy => ?_
      have k1 : cp (NF a) (NF b) < (NF a).length := by have := congrArg List.length hx; simp at this; omega
      have k2 : cp (NF a) (NF b) < (NF b).length := by have := congrArg List.length hy; simp at this; omega
      have := p4 k1 k2; rw [List.drop_eq_getElem_cons k1] at hx; rw [List.drop_eq_getElem_cons k2] at hy; rw [getD_lt k1, getD_lt k2] at this
      rwa [(List.cons.inj hx).1, (List.cons.inj hy).1] at this
     ·rw [if_neg (by simpa using e3), if_neg (fun q => e3 q.2), Option.elim, oj_inr]
    ·rw [show ne (ni (len a.2.1)) (ni (len b.2.1)) = true from decide_eq_true (by simp only [ni_def, len_def, ne_eq]; omega), br_t, if_neg fun q => e2 (by rw [q.2])]
   ·rw [show nt (sq a.1 b.1) = true by simp [nt_def, sq, e1], br_t, if_neg fun q => e1 q.1]
  ·rw [if_neg hd, if_neg hd, show ne ((([], ([], [])), chk b) : TWave × Int).2 0 = true from decide_eq_true hd, br_t]
 ·rw [if_neg hc, if_neg hc, show ne ((([], ([], [])), chk a) : TWave × Int).2 0 = true from decide_eq_true hc, br_t]
end Go.Proofs.YtgpligmjbecbjaaGreatDoor

namespace Go.AM.Wv
def lex (c d : Chg) : Prop := c.1 < d.1 ∨ (c.1 = d.1 ∧ c.2.1 < d.2.1)
theorem lex_as (a b : Chg) : lex a b → ¬ lex b a := by unfold lex; omega
def Lex (l : List Chg) : Prop := l.Pairwise lex
theorem Lex.sorted {l : List Chg} (h : Lex l) : Sorted l := h.imp fun q => by unfold lex at q; omega
theorem val_stillv (f : Nat → BS) (ch : List Chg) (v : Nat) (T : Int) (h : ∀ c ∈ ch, c.2.1 = (v : Int) → c.1 ≠ T) : val f ch v T = val f ch v (T - 1) := by
 unfold val
 generalize f v = s
 induction ch generalizing s with
 | nil => rfl
 | cons c r ih =>
  rw [List.foldl_cons, List.foldl_cons, ih (fun c hc => h c (List.mem_cons_of_mem _ hc))]
  congr 1
  have := h c (List.mem_cons_self ..); by_cases e : c.2.1 = (v : Int) ∧ c.1 ≤ T
  ·have := this e.1
   rw [if_pos e, if_pos ⟨e.1, by omega⟩]
  ·rw [if_neg e, if_neg fun q => e ⟨q.1, by omega⟩]
theorem val_keep (b : List Chg) (v : Nat) (T : Int) (s : BS) (h : ∀ c ∈ b, c.2.1 = (v : Int) → c.1 ≤ T → c.2.2 = s) : val (fun _ => s) b v T = s := by
 unfold val
 induction b with
 | nil => rfl
 | cons c r ih =>
  rw [List.foldl_cons]; by_cases e : c.2.1 = (v : Int) ∧ c.1 ≤ T
  ·rw [if_pos e, h c (List.mem_cons_self ..) e.1 e.2]
   exact ih fun c hc => h c (List.mem_cons_of_mem _ hc)
  ·rw [if_neg e]
   exact ih fun c hc => h c (List.mem_cons_of_mem _ hc)
theorem val_hit (f : Nat → BS) {l r : List Chg} {c : Chg} {v : Nat} (hs : Lex (l ++ c :: r)) (hv : c.2.1 = (v : Int)) : val f (l ++ c :: r) v c.1 = c.2.2 := by
 have h2 := (List.pairwise_append.1 hs).2.1
 have h3 := List.pairwise_cons.1 h2
 rw [show l ++ c :: r = (l ++ [c]) ++ r by simp, val_append]
 have e : val f (l ++ [c]) v c.1 = c.2.2 := by
  unfold val; rw [List.foldl_append, List.foldl_cons, if_pos ⟨hv, Int.le_refl _⟩]; rfl
 rw [e]
 refine val_keep r v c.1 c.2.2 fun d hd hdv hdt => ?_
 have := h3.1 d hd
 unfold lex at this
 omega
def Real (f : Nat → BS) (X : List Chg) : Prop := ∀ c ∈ X, ∀ v : Nat, c.2.1 = (v : Int) → c.2.2 ≠ val f X v (c.1 - 1)
theorem nodup_le {α : Type} [DecidableEq α] : ∀ (l l' : List α), l.Nodup → (∀ x ∈ l, x ∈ l') → l.length ≤ l'.length := by
 intro l
 induction l with
 | nil => intro l' _ _; exact Nat.zero_le _
 | cons a r ih =>
  intro l' hn hs; have ha := hs a (List.mem_cons_self ..); have h1 := List.nodup_cons.1 hn; have := ih (l'.erase a) h1.2 fun x hx => (List.mem_erase_of_ne fun e => h1.1 (by rw [← e]; exact hx)).2 (hs x (List.mem_cons_of_mem _ hx))
  rw [List.length_erase_of_mem ha] at this; have : 0 < l'.length := List.length_pos_of_mem ha; simp; omega
theorem val_prop (f : Nat → BS) (ch : List Chg) (v : Nat) (T : Int) (P : BS → Prop) (h0 : P (f v)) (h : ∀ c ∈ ch, c.2.1 = (v : Int) → P c.2.2) : P (val f ch v T) := by
 unfold val
 generalize f v = s at h0
 induction ch generalizing s with
 | nil => exact h0
 | cons c r ih =>
  rw [List.foldl_cons]; refine ih (fun c hc => h c (List.mem_cons_of_mem _ hc)) _ ?_; split
  ·rename_i q; exact h c (List.mem_cons_self ..) q.1
  ·exact h0
end Go.AM.Wv

open Go Go.AM Go.TM Go.AM.Wv
namespace Go.Proofs.YtgpligmjbecbjaaGreatDoor
abbrev times (w : TWave) : List Int := tms w.2.2 w.2.2.length
theorem times_mem {w : TWave} (h : Good w) (T : Int) : T ∈ times w ↔ ∃ c ∈ w.2.2, c.1 = T := by
 rw [(tms_mem h.sorted _ (Nat.le_refl _)).2, List.take_length]
theorem times_sorted {w : TWave} (h : Good w) : (times w).Pairwise (· < ·) := (tms_mem h.sorted _ (Nat.le_refl _)).1
theorem times_of {w : TWave} (h : Good w) {v : Nat} {T : Int} (hne : valW w v T ≠ valW w v (T - 1)) : T ∈ times w := by
 rw [times_mem h]
 exact Decidable.byContradiction fun q => hne (val_still _ _ _ _ fun c hc e => q ⟨c, hc, e⟩)
theorem NF_flat (w : TWave) : NF w = (times w).flatMap (diffs w) := by
 unfold NF
 have : ∀ (l : List Int) (x : List TChg), l.foldl (fun x T => x ++ diffs w T) x = x ++ l.flatMap (diffs w) := by
  intro l; induction l with
  | nil => intro x; simp
  | cons T l ih => intro x; rw [List.foldl_cons, ih, List.flatMap_cons, List.append_assoc]
 rw [this]; rfl
theorem diffs_mem {w : TWave} {T : Int} {c : TChg} : c ∈ diffs w T ↔ ∃ v, v < w.2.1.length ∧ valW w v T ≠ valW w v (T - 1) ∧ c = (T, ((v : Int), valW w v T)) := by
 unfold diffs
 rw [List.mem_filterMap]
 constructor
 ·rintro ⟨v, hv, he⟩
  unfold dif at he; split at he
  ·cases he
  ·exact ⟨v, List.mem_range.1 hv, by assumption, (Option.some.inj he).symm⟩
 ·rintro ⟨v, hv, hne, rfl⟩
  exact ⟨v, List.mem_range.2 hv, by unfold dif; rw [if_neg hne]⟩
theorem NF_mem {w : TWave} (h : Good w) {c : TChg} : c ∈ NF w ↔ ∃ (T : Int) (v : Nat), v < w.2.1.length ∧ valW w v T ≠ valW w v (T - 1) ∧ c = (T, ((v : Int), valW w v T)) := by
 rw [NF_flat, List.mem_flatMap]
 constructor
 ·rintro ⟨T, hT, hc⟩
  obtain ⟨v, h1, h2, h3⟩ := diffs_mem.1 hc; exact ⟨T, v, h1, h2, h3⟩
 ·rintro ⟨T, v, h1, h2, h3⟩
  exact ⟨T, times_of h h2, diffs_mem.2 ⟨v, h1, h2, h3⟩⟩
theorem diffs_lex (w : TWave) (T : Int) : (diffs w T).Pairwise lex := by
 unfold diffs
 rw [List.pairwise_filterMap]
 refine List.Pairwise.imp (R := (· < ·)) ?_ List.pairwise_lt_range
 intro a b hab c hc d hd
 unfold dif at hc hd
 split at hc
 ·cases hc
 split at hd
 ·cases hd
 cases hc
 cases hd
 exact .inr ⟨rfl, by show (a : Int) < b; omega⟩
theorem NF_lex {w : TWave} (h : Good w) : Lex (NF w) := by
 unfold Lex
 rw [NF_flat, List.pairwise_flatMap]
 refine ⟨fun T _ => diffs_lex w T, (times_sorted h).imp fun {T U} hTU c hc d hd => ?_⟩
 obtain ⟨v, -, -, rfl⟩ := diffs_mem.1 hc
 obtain ⟨u, -, -, rfl⟩ := diffs_mem.1 hd
 exact .inl hTU
theorem valW_neg {w : TWave} (h : Good w) {v : Nat} {T : Int} (hT : T < 0) : valW w v T = fillS w v := val_late _ _ _ _ fun c hc _ => by
 obtain ⟨i, hi, rfl⟩ := List.getElem_of_mem hc
 have := (h.time hi).1
 unfold tAt at this
 rw [getD_lt hi] at this
 omega
theorem NF_val {w : TWave} (h : Good w) {v : Nat} (hv : v < w.2.1.length) : ∀ T : Int, val (fillS w) (NF w) v T = valW w v T := by
 have neg : ∀ T : Int, T < 0 → val (fillS w) (NF w) v T = valW w v T := fun T hT => by
  rw [valW_neg h hT]; refine val_late _ _ _ _ fun c hc _ => ?_
  obtain ⟨T', v', h1, h2, rfl⟩ := (NF_mem h).1 hc; obtain ⟨d, hd, e⟩ := (times_mem h T').1 (times_of h h2); obtain ⟨i, hi, rfl⟩ := List.getElem_of_mem hd; have := (h.time hi).1; unfold tAt at this; rw [getD_lt hi] at this; show T < T'; omega
 have key : ∀ n : Nat, val (fillS w) (NF w) v ((n : Int) - 1) = valW w v ((n : Int) - 1) := by
  intro n; induction n with
  | zero => exact neg _ (by omega)
  | succ n ih =>
   rw [show ((n + 1 : Nat) : Int) - 1 = (n : Int) by omega]; by_cases q : valW w v (n : Int) = valW w v ((n : Int) - 1)
   ·rw [q, ← ih]
    refine val_stillv _ _ _ _ fun c hc hcv e => ?_
    obtain ⟨T', v', h1, h2, rfl⟩ := (NF_mem h).1 hc; have e1 : v' = v := by have : (v' : Int) = v := hcv; omega
    have e2 : T' = (n : Int) := e; subst e1; subst e2; exact h2 q
   ·have hc : (((n : Int), ((v : Int), valW w v (n : Int))) : TChg) ∈ NF w := (NF_mem h).2 ⟨_, v, hv, q, rfl⟩
    obtain ⟨l, r, e⟩ := List.append_of_mem hc; have hl := NF_lex h; rw [e] at hl ⊢; exact val_hit (fillS w) hl rfl
 intro T
 by_cases q : T < 0
 ·exact neg T q
 ·have := key (T + 1).toNat
  rwa [show (((T + 1).toNat : Nat) : Int) - 1 = T by omega] at this
theorem fill_vars {a b : TWave} (e : a.2.1 = b.2.1) : fillS a = fillS b := by funext v; unfold fillS; rw [e]
theorem NF_inj {a b : TWave} (ga : Good a) (gb : Good b) (e : a.2.1 = b.2.1) : NF a = NF b ↔ ∀ v, v < a.2.1.length → ∀ T, valW a v T = valW b v T := by
 constructor
 ·intro h v hv T
  rw [← NF_val ga hv, ← NF_val gb (e ▸ hv), h, fill_vars e]
 ·intro h
  refine sorted_eq lex lex_as _ _ (NF_lex ga) (NF_lex gb) fun c => ?_
  rw [NF_mem ga, NF_mem gb]; constructor
  ·rintro ⟨T, v, h1, h2, h3⟩
   exact ⟨T, v, e ▸ h1, by rwa [← h v h1, ← h v h1], by rw [h3, h v h1]⟩
  ·rintro ⟨T, v, h1, h2, h3⟩
   have h1' : v < a.2.1.length := by rw [e]; exact h1
   exact ⟨T, v, h1', by rwa [h v h1', h v h1'], by rw [h3, h v h1']⟩
theorem NF_le {w : TWave} (h : Good w) : (NF w).length ≤ w.2.2.length := by
 have h1 : ((NF w).map fun c => (c.1, c.2.1)).Nodup := by
  unfold List.Nodup; rw [List.pairwise_map]; exact (NF_lex h).imp fun {a b} q e => by
   unfold lex at q; have e1 := congrArg Prod.fst e; have e2 := congrArg Prod.snd e; simp only at e1 e2; omega
 have := nodup_le _ (w.2.2.map fun c => (c.1, c.2.1)) h1 fun x hx => by
  obtain ⟨c, hc, rfl⟩ := List.mem_map.1 hx; obtain ⟨T, v, h1, h2, rfl⟩ := (NF_mem h).1 hc; refine Decidable.byContradiction fun q => h2 (val_stillv _ _ _ _ fun d hd hdv hdt => q ?_)
  exact List.mem_map.2 ⟨d, hd, by rw [hdt, hdv]⟩
 simpa using this
theorem repl_all (p : UInt8 → Bool) (b : UInt8) (hb : p b = true) : ∀ n, (Lib.repeatL [b] n).all p = true := by
 intro n
 induction n with
 | zero => rfl
 | succ n ih => unfold Lib.repeatL; rw [List.all_append, ih]; simp [hb]
def nfW (w : TWave) : TWave := (w.1, (w.2.1, NF w))
theorem nf_good {w : TWave} (h : Good w) : Good (nfW w) := by
 refine ⟨h.nv, Nat.le_trans (NF_le h) h.nc, h.unit, h.var, fun i hi => ?_⟩
 have hi' : i < (NF w).length := hi
 have hc : (nfW w).2.2.getD i d0 = (NF w)[i] := getD_lt hi' _
 obtain ⟨T, v, h1, h2, h3⟩ := (NF_mem h).1 (List.getElem_mem hi')
 have hT : 0 ≤ T ∧ T ≤ 1000000000000 := by
  obtain ⟨d, hd, e⟩ := (times_mem h T).1 (times_of h h2); obtain ⟨k, hk, rfl⟩ := List.getElem_of_mem hd; have := h.time hk; unfold tAt at this; rw [getD_lt hk] at this; omega
 have hP : ((valW w v T).length : Int) = (w.2.1.getD v v0).2.2 ∧ (valW w v T).all digB = true := by
  refine val_prop (fillS w) w.2.2 v T (fun s => ((s.length : Int) = (w.2.1.getD v v0).2.2 ∧ s.all digB = true)) ?_ fun c hc hcv => ?_
  ·have := h.width h1
   refine ⟨?_, repl_all _ _ (by decide) _⟩; unfold fillS; rw [Lib.repeatL_length]; show (((w.2.1.getD v v0).2.2.toNat * 1 : Nat) : Int) = _; omega
  ·obtain ⟨k, hk, rfl⟩ := List.getElem_of_mem hc
   have := cErr_zero (h.chg k hk); rw [getD_lt hk] at this; have e : w.2.2[k].2.1.toNat = v := by omega
   rw [e] at this; exact ⟨this.2.2.2.2.1, this.2.2.2.2.2.1⟩
 unfold cErr
 rw [hc, h3]
 simp only
 rw [if_neg (by omega), if_neg (by omega), if_neg (by omega), if_neg (by show ¬ (w.2.1.length : Int) ≤ v; omega)]
 rw [if_neg (by show ¬ ((valW w v T).length : Int) ≠ (w.2.1.getD (v : Int).toNat v0).2.2; rw [Int.toNat_natCast]; exact fun q => q hP.1), if_pos hP.2, if_neg]
 rintro ⟨q1, q2⟩
 have hl : i - 1 < (NF w).length := by omega
 have := List.pairwise_iff_getElem.1 (NF_lex h).sorted (i - 1) i hl hi' (by omega)
 rw [h3] at this
 have q3 : (nfW w).2.2.getD (i - 1) d0 = (NF w)[i - 1] := getD_lt hl _
 rw [q3] at q2
 omega
theorem nf_val {w : TWave} (h : Good w) {v : Nat} (hv : v < w.2.1.length) (T : Int) : valW (nfW w) v T = valW w v T := NF_val h hv T
theorem nf_nf {w : TWave} (h : Good w) : NF (nfW w) = NF w := (NF_inj (nf_good h) h rfl).2 fun v hv T => nf_val h hv T
structure Dif (a b : TWave) (t : Int) (k : Nat) : Prop where
 lt : k < a.2.1.length
 ne : valW a k t ≠ valW b k t
 first : ∀ (T : Int) (k' : Nat), k' < a.2.1.length → T < t ∨ (T = t ∧ k' < k) → valW a k' T = valW b k' T
 time : t ∈ times a ∨ t ∈ times b
theorem fd_same (X : List TChg) : fd X X = (0, (0, (false, 0))) := by
 induction X with
 | nil => rfl
 | cons c x ih => rw [fd, if_pos rfl, ih]
def nm (i : Nat) : Str := [110, UInt8.ofNat (33 + i)]
theorem u8nat {n : Nat} (h : n < 256) : (UInt8.ofNat n).toNat = n := by simp [UInt8.toNat_ofNat, Nat.mod_eq_of_lt h]
theorem id_eq (i : Nat) (h : i < 94) : F_vcd_Id (i : Int) = some [UInt8.ofNat (33 + i)] := by
 have e1 : wr .u8 (wr .i64 (ad 33 (md (i : Int) 94))) = 33 + (i : Int) := by
  have : md (i : Int) 94 = (i : Int) := by show (i : Int).tmod 94 = _; rw [Int.tmod_eq_emod_of_nonneg (by omega)]; omega
  rw [this, wra (by omega), wr8 (by omega) (by omega)]
 have e2 : wr .i64 (sb (wr .i64 (dv (i : Int) 94)) 1) = -1 := by
  have : dv (i : Int) 94 = 0 := by show (i : Int).tdiv 94 = _; rw [Int.tdiv_eq_ediv_of_nonneg (by omega)]; omega
  rw [this]; rfl
 have l1 : F_vcd_Id_l0 (i : Int) ((i : Int), (([] : LI), ())) = some (.inl ((-1 : Int), ([33 + (i : Int)], ()))) := by
  unfold F_vcd_Id_l0; simp only; rw [show le 0 (i : Int) = true from decide_eq_true (by omega), br_t, fitsp (by simp [len_def]), br_t, e1, e2]; rfl
 have l2 : F_vcd_Id_l0 (i : Int) ((-1 : Int), ([33 + (i : Int)], ())) = some (.inr (.inl ((-1 : Int), ([33 + (i : Int)], ())))) := rfl
 unfold F_vcd_Id
 rw [iterS_inl l1, iterS_inr l2, oj_inl]
 simp only
 have e3 : isb [33 + (i : Int)] = true := by
  simp [isb]; omega
 rw [e3, br_t]
 show some [UInt8.ofNat (33 + (i : Int)).toNat] = _
 rw [show (33 + (i : Int)).toNat = 33 + i by omega]
theorem nm_inj {i k : Nat} (hi : i < 94) (hk : k < 94) (h : nm i = nm k) : i = k := by
 unfold nm at h
 have h1 : UInt8.ofNat (33 + i) = UInt8.ofNat (33 + k) := by simpa using h
 have h2 := congrArg UInt8.toNat h1
 rw [u8nat (by omega), u8nat (by omega)] at h2
 omega
theorem nm_word {i : Nat} (hi : i < 94) : wordB (nm i) = true := by
 unfold wordB nm
 simp only [List.length_cons, List.length_nil, List.all_cons, List.all_nil, Bool.and_true, Bool.and_eq_true, decide_eq_true_eq]
 refine ⟨by omega, by decide, ?_⟩
 unfold chOk
 rw [u8nat (by omega), decide_eq_true_eq]
 omega
def nms (o n : Nat) : LStr := (List.range n).map fun k => nm (o + k)
theorem nms_succ (o n : Nat) : nms o (n + 1) = nms o n ++ [nm (o + n)] := by unfold nms; rw [List.range_succ, List.map_append]; rfl
theorem nms_len (o n : Nat) : (nms o n).length = n := by simp [nms]
theorem names_loop (a0 : TAig) (a1 : LI) (x : TAig) (y1 : LLB) (a : Nat) (ha : x.1 = (a : Int)) (h1 : a ≤ 12) (h2 : x.2.1.length ≤ 12) (h3 : x.2.2.2.length ≤ 12) :
  iterS (F_w36_TraceShows_l0 a0 a1 x y1) (0, ([], ([], ([], ())))) = some (.inl ((36 : Int), (nms 0 a, (nms a x.2.1.length, (nms (a + x.2.1.length) x.2.2.2.length, ()))))) := by
 have l := iterS_upto (f := F_w36_TraceShows_l0 a0 a1 x y1) (fun i => ((i : Int), (nms 0 (min i a), (nms a (min (i - a) x.2.1.length), (nms (a + x.2.1.length) (min (i - a - x.2.1.length) x.2.2.2.length), ()))))) 36
  (r := .inl ((36 : Int), (nms 0 a, (nms a x.2.1.length, (nms (a + x.2.1.length) x.2.2.2.length, ())))))
  (fun i hi => by
   unfold F_w36_TraceShows_l0; simp only; rw [ltp (by omega), br_t, id_eq i (by omega), ob_some, fitsp (by simp [len_def]), br_t, ha, wra (by omega)]; have eL : wr .i64 (ad (a : Int) (ni (len x.2.1))) = ((a + x.2.1.length : Nat) : Int) := by rw [wra (by simp only [ni_def, len_def]; omega)]; simp [ni_def, len_def]
   rw [eL]; have eO : wr .i64 (ad ((a + x.2.1.length : Nat) : Int) (ni (len x.2.2.2))) = ((a + x.2.1.length + x.2.2.2.length : Nat) : Int) := by rw [wra (by simp only [ni_def, len_def]; omega)]; simp [ni_def, len_def]
   rw [eO]; have en : app ([110] : Str) [UInt8.ofNat (33 + i)] = nm i := rfl; rw [en]; by_cases q1 : i < a
   ·rw [ltp (by omega), br_t, fitsp (by simp [len_def, nms_len]; omega), br_t, app_def]
    have g1 : nms 0 (min i a) ++ [nm i] = nms 0 (min (i + 1) a) := by
     rw [show min i a = i by omega, show min (i + 1) a = i + 1 by omega, nms_succ, Nat.zero_add]
    rw [g1, show i + 1 - a = i - a by omega]; rfl
   ·rw [ltn (by omega), br_f, show min (i + 1) a = min i a by omega]
    by_cases q2 : i < a + x.2.1.length
    ·rw [ltp (by omega), br_t, fitsp (by simp [len_def, nms_len]; omega), br_t, app_def]
     have g1 : nms a (min (i - a) x.2.1.length) ++ [nm i] = nms a (min (i + 1 - a) x.2.1.length) := by
      rw [show min (i - a) x.2.1.length = i - a by omega, show min (i + 1 - a) x.2.1.length = i - a + 1 by omega, nms_succ, show a + (i - a) = i by omega]
     rw [g1, show i + 1 - a - x.2.1.length = i - a - x.2.1.length by omega]; rfl
    ·rw [ltn (by omega), br_f, show min (i + 1 - a) x.2.1.length = min (i - a) x.2.1.length by omega]
     by_cases q3 : i < a + x.2.1.length + x.2.2.2.length
     ·rw [ltp (by omega), br_t, fitsp (by simp [len_def, nms_len]; omega), br_t, app_def]
      have g1 : nms (a + x.2.1.length) (min (i - a - x.2.1.length) x.2.2.2.length) ++ [nm i] = nms (a + x.2.1.length) (min (i + 1 - a - x.2.1.length) x.2.2.2.length) := by
       rw [show min (i - a - x.2.1.length) x.2.2.2.length = i - a - x.2.1.length by omega, show min (i + 1 - a - x.2.1.length) x.2.2.2.length = i - a - x.2.1.length + 1 by omega, nms_succ, show a + x.2.1.length + (i - a - x.2.1.length) = i by omega]
      rw [g1]; rfl
     ·rw [ltn (by omega), br_f, show min (i + 1 - a - x.2.1.length) x.2.2.2.length = min (i - a - x.2.1.length) x.2.2.2.length by omega]; rfl)
  (by
   unfold F_w36_TraceShows_l0; rw [ltn (by omega), br_f, show min 36 a = a by omega, show min (36 - a) x.2.1.length = x.2.1.length by omega, show min (36 - a - x.2.1.length) x.2.2.2.length = x.2.2.2.length by omega]; rfl)
 simpa [nms] using l
theorem nms_app (o a b : Nat) : nms o a ++ nms (o + a) b = nms o (a + b) := by
 unfold nms
 rw [List.range_add, List.map_append, List.map_map]
 congr 1
 refine List.map_congr_left fun k _ => ?_
 show nm (o + a + k) = nm (o + (a + k))
 rw [Nat.add_assoc]
section
variable (t s o : LLB) (n wd : Nat)
def wv : TWave := ([49, 110, 115], ((nms 0 wd).map fun x => (([] : LStr), (x, (1 : Int))), W36.chUp t s o n))
theorem up_mem : ∀ n (c : TChg), c ∈ W36.chUp t s o n ↔ ∃ k, k < n ∧ ∃ i, i < (W36.rowK t s o k).length ∧ W36.chg k (W36.wasK t s o k) (W36.rowK t s o k) i = true ∧ c = ((k : Int), ((i : Int), W36.cs ((W36.rowK t s o k).getD i false))) := by
 intro n
 induction n with
 | zero => intro c; simp [W36.chUp]
 | succ n ih =>
  intro c; unfold W36.chUp; rw [List.mem_append, ih]; constructor
  ·rintro (⟨k, hk, h⟩ | h)
   ·exact ⟨k, by omega, h⟩
   ·unfold W36.chgs at h
    obtain ⟨i, hi, he⟩ := List.mem_filterMap.1 h; unfold W36.chgI at he; split at he
    ·rename_i q
     exact ⟨n, by omega, i, List.mem_range.1 hi, q, (Option.some.inj he).symm⟩
    ·cases he
  ·rintro ⟨k, hk, i, hi, hc, rfl⟩
   by_cases e : k = n
   ·subst e
    refine .inr (List.mem_filterMap.2 ⟨i, List.mem_range.2 hi, ?_⟩); unfold W36.chgI; rw [if_pos hc]
   ·exact .inl ⟨k, by omega, i, hi, hc, rfl⟩
theorem up_lex : ∀ n, Lex (W36.chUp t s o n) := by
 intro n
 induction n with
 | zero => exact List.Pairwise.nil
 | succ n ih =>
  unfold W36.chUp; refine List.pairwise_append.2 ⟨ih, ?_, fun c hc d hd => ?_⟩
  ·unfold W36.chgs
   rw [List.pairwise_filterMap]; refine List.Pairwise.imp (R := (· < ·)) ?_ List.pairwise_lt_range; intro a b hab c hc d hd; unfold W36.chgI at hc hd; split at hc
   ·split at hd
    ·cases hc
     cases hd; exact .inr ⟨rfl, by show (a : Int) < b; omega⟩
    ·cases hd
   ·cases hc
  ·obtain ⟨k, hk, i, hi, hc, rfl⟩ := (up_mem t s o n c).1 hc
   unfold W36.chgs at hd; obtain ⟨j, hj, he⟩ := List.mem_filterMap.1 hd; unfold W36.chgI at he; split at he
   ·cases he
    exact .inl (by show (k : Int) < n; omega)
   ·cases he
variable (hr : ∀ k, k < n → (W36.rowK t s o k).length = wd)
include hr
theorem wv_val (i : Nat) (hi : i < wd) : ∀ k, k < n → valW (wv t s o n wd) i (k : Int) = W36.cs ((W36.rowK t s o k).getD i false) := by
 intro k
 induction k with
 | zero =>
  intro hk; have hc : ((((0 : Nat) : Int), ((i : Int), W36.cs ((W36.rowK t s o 0).getD i false))) : TChg) ∈ W36.chUp t s o n := (up_mem t s o n _).2 ⟨0, hk, i, by rw [hr 0 hk]; exact hi, by simp [W36.chg], rfl⟩; obtain ⟨l, r, e⟩ := List.append_of_mem hc; have hl := up_lex t s o n; unfold valW; rw [show (wv t s o n wd).2.2 = W36.chUp t s o n from rfl]; rw [e] at hl ⊢; exact val_hit _ hl rfl
 | succ k ih =>
  intro hk; have h0 := ih (by omega); by_cases hc : W36.chg (k + 1) (W36.wasK t s o (k + 1)) (W36.rowK t s o (k + 1)) i = true
  ·have hm : ((((k + 1 : Nat) : Int), ((i : Int), W36.cs ((W36.rowK t s o (k + 1)).getD i false))) : TChg) ∈ W36.chUp t s o n := (up_mem t s o n _).2 ⟨k + 1, hk, i, by rw [hr _ hk]; exact hi, hc, rfl⟩
   obtain ⟨l, r, e⟩ := List.append_of_mem hm; have hl := up_lex t s o n; unfold valW; rw [show (wv t s o n wd).2.2 = W36.chUp t s o n from rfl]; rw [e] at hl ⊢; exact val_hit _ hl rfl
  ·have hc2 := (W36.chg_false.1 (by simpa using hc)).2
   have e1 : valW (wv t s o n wd) i ((k + 1 : Nat) : Int) = valW (wv t s o n wd) i (((k + 1 : Nat) : Int) - 1) := val_stillv _ _ _ _ fun c hcm hcv e => by
    obtain ⟨k', hk', i', hi', hc', rfl⟩ := (up_mem t s o n c).1 hcm; have q1 : (i' : Int) = (i : Int) := hcv; have q2 : (k' : Int) = ((k + 1 : Nat) : Int) := e; have q3 : i' = i := by omega
    have q4 : k' = k + 1 := by omega
    subst q3; subst q4; exact hc hc'
   rw [e1, show ((k + 1 : Nat) : Int) - 1 = (k : Int) by omega, h0, hc2]; rfl
theorem wv_good (hn : n ≤ 12) (hw : wd ≤ 36) : Good (wv t s o n wd) := by
 have hlen : (W36.chUp t s o n).length ≤ n * 36 := by
  have : ∀ m, m ≤ n → (W36.chUp t s o m).length ≤ m * 36 := by
   intro m; induction m with
   | zero => intro _; simp [W36.chUp]
   | succ m ih =>
    intro hm; unfold W36.chUp; rw [List.length_append]; have h1 : (W36.chgs m (W36.wasK t s o m) (W36.rowK t s o m) (W36.rowK t s o m).length).length ≤ 36 := Nat.le_trans (List.length_filterMap_le ..) (by rw [List.length_range, hr m (by omega)]; exact hw); have := ih (by omega); omega
  exact this n (Nat.le_refl _)
 have hvn : (wv t s o n wd).2.1.length = wd := by show ((nms 0 wd).map _).length = wd; rw [List.length_map, nms_len]
 have hvg : ∀ i, i < wd → (wv t s o n wd).2.1.getD i v0 = ([], (nm i, 1)) := fun i hi => by
  rw [getD_lt (by rw [hvn]; exact hi)]; show ((nms 0 wd).map fun x => (([] : LStr), (x, (1 : Int))))[i]'_ = _; simp [nms]
 refine ⟨by rw [hvn]; omega, by show (W36.chUp t s o n).length ≤ 4096; omega, by show unitB [49, 110, 115] = true; decide, fun i hi => ?_, fun i hi => ?_⟩
 ·rw [hvn] at hi
  rw [hvg i hi]; unfold vErr; rw [if_neg (by show ¬ (1 : Int) < 1; omega), if_neg (by show ¬ 128 < (1 : Int); omega), if_neg (by show ¬ 8 < ((([] : LStr).length : Nat) : Int); simp), if_pos (show (([], (nm i, 1)) : TVar).1.all wordB = true from rfl), if_pos (show wordB (([], (nm i, 1)) : TVar).2.1 = true from nm_word (by omega)), if_neg]; rw [List.any_eq_true]
  rintro ⟨x, hx, hs⟩
  obtain ⟨k, hk, rfl⟩ := List.mem_take_iff_getElem.1 hx; have hk' : k < wd := by rw [hvn] at hk; omega
  have e := hvg k hk'; rw [getD_lt (by rw [hvn]; exact hk')] at e; rw [e] at hs; unfold sameB at hs; simp only [decide_eq_true_eq] at hs; have := nm_inj (by omega) (by omega) hs.1; omega
 ·have hi' : i < (W36.chUp t s o n).length := hi
  have hc : (wv t s o n wd).2.2.getD i d0 = (W36.chUp t s o n)[i] := getD_lt hi' _; obtain ⟨k, hk, j, hj, hch, he⟩ := (up_mem t s o n _).1 (List.getElem_mem hi'); have hj' : j < wd := by rw [← hr k hk]; exact hj
  have hv := hvg j hj'; have hcs : (W36.cs ((W36.rowK t s o k).getD j false)).length = 1 ∧ (W36.cs ((W36.rowK t s o k).getD j false)).all digB = true := by
   unfold W36.cs; split <;> exact ⟨rfl, by decide⟩
  unfold cErr; rw [hc, he]; simp only; rw [if_neg (by omega), if_neg (by omega), if_neg (by omega), if_neg (by rw [hvn]; omega), if_neg (by rw [Int.toNat_natCast, hv, hcs.1]; simp), if_pos hcs.2, if_neg]
  rintro ⟨q1, q2⟩
  have hl : i - 1 < (W36.chUp t s o n).length := by omega
  have := List.pairwise_iff_getElem.1 (up_lex t s o n).sorted (i - 1) i hl hi' (by omega); rw [he] at this; have q3 : (wv t s o n wd).2.2.getD (i - 1) d0 = (W36.chUp t s o n)[i - 1] := getD_lt hl _; rw [q3] at q2; omega
theorem wv_nf (hn : n ≤ 12) (hw : wd ≤ 36) : NF (wv t s o n wd) = W36.chUp t s o n := by
 have h := wv_good t s o n wd hr hn hw
 have hvn : (wv t s o n wd).2.1.length = wd := by show ((nms 0 wd).map _).length = wd; rw [List.length_map, nms_len]
 refine sorted_eq lex lex_as _ _ (NF_lex h) (up_lex t s o n) fun c => ?_
 rw [NF_mem h, up_mem, hvn]
 have hfill : ∀ i, i < wd → valW (wv t s o n wd) i (-1) = [120] := fun i hi => by
  rw [valW_neg h (by omega)]; unfold fillS; have : (wv t s o n wd).2.1.getD i v0 = ([], (nm i, 1)) := by
   rw [getD_lt (by rw [hvn]; exact hi)]; show ((nms 0 wd).map fun x => (([] : LStr), (x, (1 : Int))))[i]'_ = _; simp [nms]
  rw [this]; rfl
 constructor
 ·rintro ⟨T, v, h1, h2, h3⟩
  obtain ⟨d, hd, e⟩ := (times_mem h T).1 (times_of h h2); obtain ⟨k, hk, j, hj, hch, rfl⟩ := (up_mem t s o n d).1 hd; have e' : (k : Int) = T := e; subst e'; refine ⟨k, hk, v, by rw [hr k hk]; exact h1, ?_, by rw [h3, wv_val t s o n wd hr v h1 k hk]⟩; cases k with
  | zero => simp [W36.chg]
  | succ k =>
   rw [wv_val t s o n wd hr v h1 _ hk, show ((k + 1 : Nat) : Int) - 1 = (k : Int) by omega, wv_val t s o n wd hr v h1 k (by omega)] at h2; cases q : W36.chg (k + 1) (W36.wasK t s o (k + 1)) (W36.rowK t s o (k + 1)) v with
   | true => rfl
   | false => exact absurd (congrArg W36.cs (W36.chg_false.1 q).2) h2
 ·rintro ⟨k, hk, i, hi, hch, rfl⟩
  have hi' : i < wd := by rw [← hr k hk]; exact hi
  refine ⟨(k : Int), i, hi', ?_, by rw [wv_val t s o n wd hr i hi' k hk]⟩; rw [wv_val t s o n wd hr i hi' k hk]; cases k with
  | zero =>
   rw [show ((0 : Nat) : Int) - 1 = -1 from rfl, hfill i hi']; unfold W36.cs; split <;> decide
  | succ k =>
   rw [show ((k + 1 : Nat) : Int) - 1 = (k : Int) by omega, wv_val t s o n wd hr i hi' k (by omega)]; intro e; have e2 := W36.cs_inj.1 e; have e3 := W36.chg_false.2 ⟨Nat.succ_ne_zero k, e2⟩; rw [show W36.wasK t s o (k + 1) = W36.rowK t s o k from rfl, e3] at hch; cases hch
end
theorem eq2n {a b : Int} (h : a = b) : ne a b = false := decide_eq_false (by simp [h])
theorem shows_main (x : TAig) (t : LLB) (a : Nat) (ha : x.1 = (a : Int)) (h1 : a ≤ 12) (h2 : x.2.1.length ≤ 12) (h3 : x.2.2.2.length ≤ 12) (hB : W36.AigB x) (hc : W36.chk x = 0) (hn : t.length ≤ 12) (ht : ∀ r ∈ t, (r.length : Int) = x.1) (a0 : TAig) (a1 : LI) :
  (oj (iterS (F_w36_TraceShows_l0 a0 a1 x t) (0, ([], ([], ([], ()))))) fun y3 => (ob (F_trace_Wave ((x.1, (x.2.1, (x.2.2.1, x.2.2.2))), (y3.2.1, (y3.2.2.1, y3.2.2.2.1))) t) fun y4 => (ob (F_vcd_Normal (y4.1.1, (y4.1.2.1, y4.1.2.2))) fun y5 => (ob (F_vcd_Diff (y4.1.1, (y4.1.2.1, y4.1.2.2)) (y5.1.1, (y5.1.2.1, y5.1.2.2))) fun y6 => (ob (F_aig_Run (x.1, (x.2.1, (x.2.2.1, x.2.2.2))) t) fun y7 => (br (ne y4.2 0) (some false) (br (ne y5.2 0) (some false) (br (ne y6.2.2.2 0) (some false) (br y6.2.2.1 (some false) (br (ne (ni (len y5.1.2.2)) (ni (len y4.1.2.2))) (some false) (br (ne y7.2.2 0) (some false) (br (ne (ni (len y7.1)) (ni (len t))) (some false) (br (lt (ni (len y7.2.1)) (ni (len t))) (some false) (oj (iterS (F_w36_TraceShows_l1 a0 a1 x t y3 y4 y5 y6 y7) (0, ())) fun y11 => (ob (F_w36_awake) fun y12 => (some y12)))))))))))))))) = some true := by
 rw [names_loop a0 a1 x t a ha h1 h2 h3, oj_inl]
 simp only
 have hrun := W36.run2_wide hc (show t.length ≤ 64 by omega) ht
 have hE : (W36.run2 x t).2.2 = 0 := by rw [hrun]
 have ro := W36.run_ok hE hc
 have wvP : F_trace_Wave ((x.1, (x.2.1, (x.2.2.1, x.2.2.2))), (nms 0 a, (nms a x.2.1.length, nms (a + x.2.1.length) x.2.2.2.length))) t = some (W36.wave (x, (nms 0 a, (nms a x.2.1.length, nms (a + x.2.1.length) x.2.2.2.length))) t) :=
  W36.wave_prog (m := (x, (nms 0 a, (nms a x.2.1.length, nms (a + x.2.1.length) x.2.2.2.length)))) hB ⟨by show (nms 0 a).length ≤ 1000; rw [nms_len]; omega, by show (nms a x.2.1.length).length ≤ 1000; rw [nms_len]; omega, by show (nms (a + x.2.1.length) x.2.2.2.length).length ≤ 1000; rw [nms_len]; omega⟩ t
 have wvE : W36.wave (x, (nms 0 a, (nms a x.2.1.length, nms (a + x.2.1.length) x.2.2.2.length))) t = (wv t (W36.run2 x t).2.1 (W36.run2 x t).1 t.length (a + x.2.1.length + x.2.2.2.length), 0) := by
  unfold W36.wave; rw [if_neg (by simp [hc]), if_neg (by show ¬ ((nms 0 a).length : Int) ≠ x.1; rw [nms_len, ha]; simp), if_neg (by show ¬ (nms a x.2.1.length).length ≠ x.2.1.length; rw [nms_len]; simp), if_neg (by show ¬ (nms (a + x.2.1.length) x.2.2.2.length).length ≠ x.2.2.2.length; rw [nms_len]; simp), if_neg (by simp [hE])]; unfold wv W36.vars W36.names; simp only; have e1 : nms 0 a ++ nms a x.2.1.length = nms 0 (a + x.2.1.length) := by have := nms_app 0 a x.2.1.length; rwa [Nat.zero_add] at this
  have e2 : nms 0 (a + x.2.1.length) ++ nms (a + x.2.1.length) x.2.2.2.length = nms 0 (a + x.2.1.length + x.2.2.2.length) := by have := nms_app 0 (a + x.2.1.length) x.2.2.2.length; rwa [Nat.zero_add] at this
  rw [e1, e2]
 have hr : ∀ k, k < t.length → (W36.rowK t (W36.run2 x t).2.1 (W36.run2 x t).1 k).length = a + x.2.1.length + x.2.2.2.length := fun k hk => by
  rw [ro.row k hk, ha]; simp
 have hw : a + x.2.1.length + x.2.2.2.length ≤ 36 := by omega
 have g := wv_good t (W36.run2 x t).2.1 (W36.run2 x t).1 t.length _ hr hn hw
 have nf := wv_nf t (W36.run2 x t).2.1 (W36.run2 x t).1 t.length _ hr hn hw
 have vv := wv_val t (W36.run2 x t).2.1 (W36.run2 x t).1 t.length _ hr
 rw [wvP, wvE, ob_some]
 have hrl : F_aig_Run (x.1, (x.2.1, (x.2.2.1, x.2.2.2))) t = some (W36.run2 x t) := W36.run_prog hB t
 rw [hrl]
 have wf : WfT .str (wv t (W36.run2 x t).2.1 (W36.run2 x t).1 t.length (a + x.2.1.length + x.2.2.2.length)).1 := by show (3 : Nat) ≤ 140737488351232; omega
 have hvn : (wv t (W36.run2 x t).2.1 (W36.run2 x t).1 t.length (a + x.2.1.length + x.2.2.2.length)).2.1.length = a + x.2.1.length + x.2.2.2.length := by show ((nms 0 _).map _).length = _; rw [List.length_map, nms_len]
 have hch : (wv t (W36.run2 x t).2.1 (W36.run2 x t).1 t.length (a + x.2.1.length + x.2.2.2.length)).2.2 = W36.chUp t (W36.run2 x t).2.1 (W36.run2 x t).1 t.length := rfl
 generalize hW : wv t (W36.run2 x t).2.1 (W36.run2 x t).1 t.length (a + x.2.1.length + x.2.2.2.length) = W at g nf vv wf hvn hch
 simp only
 rw [show F_vcd_Normal (W.1, (W.2.1, W.2.2)) = _ from normal_eq W wf, ob_some, if_pos (chk_zero.2 g)]
 simp only
 rw [show F_vcd_Diff (W.1, (W.2.1, W.2.2)) (W.1, (W.2.1, NF W)) = _ from diff_eq W (nfW W) wf wf, ob_some, if_pos (chk_zero.2 g), if_pos (chk_zero.2 (nf_good g)), if_pos (show W.1 = (nfW W).1 ∧ W.2.1 = (nfW W).2.1 from ⟨rfl, rfl⟩), nf_nf g, fd_same, ob_some]
 simp only
 rw [show ne (0 : Int) 0 = false from rfl, br_f, br_f, br_f, br_f, eq2n (by rw [nf, hch]), br_f, eq2n hE, br_f, eq2n (by simp only [ni_def, len_def]; rw [ro.lo]), br_f, show lt (ni (len (W36.run2 x t).2.1)) (ni (len t)) = false from decide_eq_false (by simp only [ni_def, len_def]; rw [ro.ls]; omega), br_f]
 have row : ∀ k, k < t.length → (app (app (rd t (tn (k : Int)) []) (rd (W36.run2 x t).2.1 (tn (k : Int)) [])) (rd (W36.run2 x t).1 (tn (k : Int)) [])) = W36.rowK t (W36.run2 x t).2.1 (W36.run2 x t).1 k := fun k hk => rfl
 have inner : ∀ y3 y4 y5 y6 k, k < t.length → y4 = (W, (0 : Int)) → iterS (F_w36_TraceShows_l2 a0 a1 x t y3 y4 y5 y6 (W36.run2 x t) ((k : Int), ())) (0, ()) = some (.inl (((a + x.2.1.length + x.2.2.2.length : Nat) : Int), ())) := by
  intro y3 y4 y5 y6 k hk e4; subst e4; have l := iterS_upto (f := F_w36_TraceShows_l2 a0 a1 x t y3 (W, (0 : Int)) y5 y6 (W36.run2 x t) ((k : Int), ())) (fun i => ((i : Int), ())) (a + x.2.1.length + x.2.2.2.length) (r := .inl (((a + x.2.1.length + x.2.2.2.length : Nat) : Int), ()))
   (fun i hi => by
    have hrk := hr k hk; have at' : F_vcd_At (W.1, (W.2.1, W.2.2)) (i : Int) (k : Int) = some (W36.cs ((W36.rowK t (W36.run2 x t).2.1 (W36.run2 x t).1 k).getD i false), 0) := by
     rw [show F_vcd_At (W.1, (W.2.1, W.2.2)) (i : Int) (k : Int) = _ from vat_eq W wf i k, if_pos (chk_zero.2 g), if_neg (by rw [hvn]; omega), Int.toNat_natCast, vv i hi k hk]
    unfold F_w36_TraceShows_l2; simp only; rw [row k hk, ltp (by simp only [ni_def, len_def]; omega), br_t, ixp (by simp only [ni_def, len_def]; omega), br_t, at', ob_some, ob_some, wra (by omega), show rd (W36.rowK t (W36.run2 x t).2.1 (W36.run2 x t).1 k) (tn (i : Int)) false = (W36.rowK t (W36.run2 x t).2.1 (W36.run2 x t).1 k).getD i false by rw [tn_nat, rd_def]]; cases (W36.rowK t (W36.run2 x t).2.1 (W36.run2 x t).1 k).getD i false <;> rfl)
   (by
    have hrk := hr k hk; unfold F_w36_TraceShows_l2; simp only; rw [row k hk, ltn (by simp only [ni_def, len_def]; omega), br_f])
  exact l
 have outer : ∀ y3 y4 y5 y6, y4 = (W, (0 : Int)) → iterS (F_w36_TraceShows_l1 a0 a1 x t y3 y4 y5 y6 (W36.run2 x t)) (0, ()) = some (.inl ((t.length : Int), ())) := by
  intro y3 y4 y5 y6 e4; have l := iterS_upto (f := F_w36_TraceShows_l1 a0 a1 x t y3 y4 y5 y6 (W36.run2 x t)) (fun k => ((k : Int), ())) t.length (r := .inl ((t.length : Int), ()))
   (fun k hk => by
    have hrk := hr k hk; have hlo := ro.lo; have hls := ro.ls; have e1 : (W36.rowK t (W36.run2 x t).2.1 (W36.run2 x t).1 k).length = ((t.getD k []).length + ((W36.run2 x t).2.1.getD k []).length) + ((W36.run2 x t).1.getD k []).length := by
     unfold W36.rowK; rw [List.length_append, List.length_append]
    unfold F_w36_TraceShows_l1; simp only; rw [inner y3 y4 y5 y6 k hk e4, oj_inl]; simp only [tn_nat]; rw [show rd t k [] = t.getD k [] from rfl, show rd (W36.run2 x t).2.1 k [] = (W36.run2 x t).2.1.getD k [] from rfl, show rd (W36.run2 x t).1 k [] = (W36.run2 x t).1.getD k [] from rfl]
    rw [ltp (by simp only [ni_def, len_def]; omega), br_t, ixp (by simp only [ni_def, len_def]; omega), br_t, fitsp (by simp only [len_def]; omega), br_t, ixp (by simp only [ni_def, len_def]; omega), br_t, fitsp (by simp only [len_def]; omega), br_t, ixp (by simp only [ni_def, len_def]; omega), br_t, fitsp (by simp only [len_def, app_def, List.length_append]; omega), br_t, wra (by omega)]; rfl)
   (by
    unfold F_w36_TraceShows_l1; rw [ltn (by simp only [ni_def, len_def]; omega), br_f])
  exact l
 rw [outer _ _ _ _ rfl, oj_inl]; rfl
theorem shows_law (x : Tys [W36.yAig, .slice (.int .u64)]) (h : WfTs [W36.yAig, .slice (.int .u64)] x) : F_w36_TraceShows x.1 x.2 = some true := by
 obtain ⟨g0, l⟩ := x
 obtain ⟨h1, -⟩ := h
 have hg := W36.aig_len h1
 have z1 : g0.2.1.length ≤ 8796093021952 := hg.1
 have z2 : g0.2.2.1.length ≤ 8796093021952 := hg.2.1
 have z3 : g0.2.2.2.length ≤ 17592186043904 := hg.2.2
 show F_w36_TraceShows g0 l = some true
 have efit : F_r20_Fit (g0.1, (g0.2.1, (g0.2.2.1, g0.2.2.2))) 12 = some (W36.fit g0 12) := W36.fit_eq g0 (by omega) (by omega) (by omega) (n := 12) (by omega)
 have hc := W36.fit_chk g0 (n := 12) (by omega)
 have hb := W36.fit_B g0 (n := 12) (by omega)
 obtain ⟨l1, l2, l3⟩ := W36.fit_len g0 12
 have b := W36.bring_range (x := g0.1) (n := 13) (by omega)
 have hi : (W36.fit g0 12).1 = W36.bring g0.1 13 := rfl
 rw [List.length_take] at l1 l3
 generalize W36.fit g0 12 = g at efit hc hb l1 l3 hi
 obtain ⟨a, ha⟩ : ∃ a : Nat, g.1 = a := ⟨g.1.toNat, by omega⟩
 have hcy := W36.cycles_eq (g := g) (l := l) (by omega) (by omega)
 obtain ⟨c1, c2⟩ := W36.cyc_ok (g := g) (l := l) (by omega)
 unfold F_w36_TraceShows
 rw [efit, ob_some, show F_w36_cycles (g.1, (g.2.1, (g.2.2.1, g.2.2.2))) l = _ from hcy, ob_some]
 exact shows_main g (W36.cyc g l) a ha (by omega) (by omega) (by omega) hb hc c1 c2 g0 l
end Go.Proofs.YtgpligmjbecbjaaGreatDoor
