/- Plain laws of the chapter's functions. -/
import Derived.Test.YtiiancghhloalaaGreatDoorD20
import Derived.Test.YtiiancghhloalaaGreatDoorPl
set_option linter.unusedSectionVars false
set_option linter.unusedSimpArgs false
set_option linter.unusedVariables false

open Go Go.AM Go.TM
namespace Go.Proofs.YtiiancghhloalaaGreatDoor
theorem find_ne {α : Type} [DecidableEq α] {a b : List α} (h : a.length = b.length) {R : Type} (r : R) :
  (List.range a.length).findSome? (fun i => if a[i]? = b[i]? then none else some r) = if a = b then none else some r := by
 split
 ·rename_i e; subst e
  simp
 ·rename_i e
  cases hf : (List.range a.length).findSome? (fun i => if a[i]? = b[i]? then none else some r) with
  | none =>
   refine absurd (List.ext_getElem? fun i => ?_) e
   rw [List.findSome?_eq_none_iff] at hf
   by_cases hi : i < a.length
   ·have := hf i (by simpa using hi)
    by_cases q : a[i]? = b[i]?
    ·exact q
    ·simp [q] at this
   ·rw [List.getElem?_eq_none (by omega), List.getElem?_eq_none (by omega)]
  | some x =>
   obtain ⟨l1, i, l2, -, h2, -⟩ := List.findSome?_eq_some_iff.1 hf
   split at h2
   ·cases h2
   ·cases h2; rfl
theorem foldl_snoc {α β : Type} (f : α → β) (l : List α) (out : List β) : l.foldl (fun out x => out ++ [f x]) out = out ++ l.map f := by
 induction l generalizing out with
 | nil => simp
 | cons x l ih => simp [ih]
theorem EqBools_eq (a b : LB) (h : a.length ≤ 140737488355328) : F_r20_EqBools a b = some (decide (a = b)) := by
 unfold F_r20_EqBools
 simp only [br_def, ne_def, ni_def, len_def, decide_eq_true_eq]
 split
 ·rename_i hne
  rw [decide_eq_false (by intro e; subst e; exact hne rfl)]
 ·rename_i hne
  have hlen : a.length = b.length := by omega
  have outer := iterS_findR (f := F_r20_EqBools_l0 a b) a.length (fun i => ((i : Int), ())) (fun i => if a[i]? = b[i]? then none else some ()) (.inl ((a.length : Int), ())) (fun _ => .inr false)
   (fun i hi => by
    have hb : i < b.length := by omega
    simp (disch := omega) only [F_r20_EqBools_l0, br_def, lt_def, ni_def, len_def, ix_def, tn_nat, rd_lt hi, rd_lt hb, ad_def, inR_some', decide_eq_true_eq, List.getElem?_eq_getElem hi, List.getElem?_eq_getElem hb]
    rw [if_pos (by omega), if_pos (by omega), if_pos (by omega), wr64 (by omega) (by omega)]
    cases a[i] <;> cases b[i] <;> simp)
   (by simp [F_r20_EqBools_l0, br_def, lt_def, ni_def, len_def])
  rw [find_ne hlen] at outer
  rw [show ((0 : Int), ()) = (((0 : Nat) : Int), ()) from rfl, outer]
  by_cases e : a = b
  ·simp [e, oj_inl]
  ·simp [e, oj_inr]
theorem EqStates_eq (a b : LLB) (h : a.length ≤ 140737488355328) (h2 : ∀ r ∈ a, r.length ≤ 140737488355328) : F_r20_EqStates a b = some (decide (a = b)) := by
 unfold F_r20_EqStates
 simp only [br_def, ne_def, ni_def, len_def, decide_eq_true_eq]
 split
 ·rename_i hne
  rw [decide_eq_false (by intro e; subst e; exact hne rfl)]
 ·rename_i hne
  have hlen : a.length = b.length := by omega
  have outer := iterS_findR (f := F_r20_EqStates_l0 a b) a.length (fun i => ((i : Int), ())) (fun i => if a[i]? = b[i]? then none else some ()) (.inl ((a.length : Int), ())) (fun _ => .inr false)
   (fun i hi => by
    have hb : i < b.length := by omega
    simp (disch := omega) only [F_r20_EqStates_l0, br_def, lt_def, ni_def, len_def, ix_def, tn_nat, rd_lt hi, rd_lt hb, ad_def, inR_some', decide_eq_true_eq, List.getElem?_eq_getElem hi, List.getElem?_eq_getElem hb, EqBools_eq _ b[i] (h2 a[i] (List.getElem_mem hi)), ob_some]
    rw [if_pos (by omega), if_pos (by omega), if_pos (by omega), wr64 (by omega) (by omega)]
    by_cases e : a[i] = b[i] <;> simp [e])
   (by simp [F_r20_EqStates_l0, br_def, lt_def, ni_def, len_def])
  rw [find_ne hlen] at outer
  rw [show ((0 : Int), ()) = (((0 : Nat) : Int), ()) from rfl, outer]
  by_cases e : a = b
  ·simp [e, oj_inl]
  ·simp [e, oj_inr]
end Go.Proofs.YtiiancghhloalaaGreatDoor

open Go Go.AM Go.TM
namespace Go.Proofs.YtiiancghhloalaaGreatDoor
def AigB (g : TAig) : Prop := g.2.1.length ≤ 140737488355328 ∧ g.2.2.1.length ≤ 140737488355328 ∧ g.2.2.2.length ≤ 140737488355328
def fst0 (g : TAig) : Int := 1 + g.1 + g.2.1.length
def siz (g : TAig) : Int := fst0 g + g.2.2.1.length
def litB (x n : Int) : Bool := decide (0 ≤ x ∧ x < 2 * n)
def andB (g : TAig) (i : Nat) : Option Unit := if litB (g.2.2.1.getD i (0, 0)).1 (fst0 g + i) && litB (g.2.2.1.getD i (0, 0)).2 (fst0 g + i) then none else some ()
def latB (g : TAig) (x : Int × Int) : Option Unit := if litB x.1 (siz g) && decide (x.2 ≤ 1) then none else some ()
def outB (g : TAig) (x : Int) : Option Unit := if litB x (siz g) then none else some ()
def chk (g : TAig) : Int :=
 if g.1 < 0 then 1 else if 4096 < g.1 then 5 else if 4096 < siz g then 5 else if 4096 < (g.2.2.2.length : Int) then 5 else
 ((List.range g.2.2.1.length).findSome? (andB g)).elim ((g.2.1.findSome? (latB g)).elim ((g.2.2.2.findSome? (outB g)).elim 0 fun _ => 1) fun _ => 1) fun _ => 1

theorem F_aig_first_eq (g : TAig) (h : AigB g) (h0 : 0 ≤ g.1) (h1 : g.1 ≤ 4096) : F_aig_first g = some (fst0 g) := by
 obtain ⟨a, b, c⟩ := h
 simp (disch := omega) [F_aig_first, wr64, fst0]
theorem F_aig_size_eq (g : TAig) (h : AigB g) (h0 : 0 ≤ g.1) (h1 : g.1 ≤ 4096) : F_aig_size g = some (siz g) := by
 have e : F_aig_first (g.1, (g.2.1, (g.2.2.1, g.2.2.2))) = some (fst0 g) := F_aig_first_eq g h h0 h1
 obtain ⟨a, b, c⟩ := h
 have : fst0 g = 1 + g.1 + g.2.1.length := rfl
 simp (disch := omega) [F_aig_size, e, wr64, siz]
theorem F_aig_Check_1_eq (x n : Int) (h : -4611686018427387904 ≤ n) (h2 : n ≤ 4611686018427387903) : F_aig_Check_1 x n = some (litB x n) := by
 unfold F_aig_Check_1 litB
 by_cases e : 0 ≤ x <;> simp (disch := omega) [e, wr64]
theorem F_aig_Check_eq (g : TAig) (h : AigB g) : F_aig_Check g = some (chk g) := by
 unfold F_aig_Check chk
 simp only [br_def, lt_def, decide_eq_true_eq]
 by_cases h0 : g.1 < 0
 ·simp [h0]
 rw [if_neg h0, if_neg h0]
 by_cases h1 : 4096 < g.1
 ·simp [h1]
 rw [if_neg h1, if_neg h1, show F_aig_size (g.1, (g.2.1, (g.2.2.1, g.2.2.2))) = some (siz g) from F_aig_size_eq g h (by omega) (by omega), ob_some]
 by_cases h2 : 4096 < siz g
 ·simp [h2]
 rw [if_neg h2, if_neg h2]
 by_cases h3 : 4096 < (g.2.2.2.length : Int)
 ·simp [h3]
 rw [if_neg (by simpa using h3), if_neg h3]
 have hs : siz g = fst0 g + g.2.2.1.length := rfl
 have hf : fst0 g = 1 + g.1 + g.2.1.length := rfl
 have e89 : F_aig_first (g.1, (g.2.1, (g.2.2.1, g.2.2.2))) = some (fst0 g) := F_aig_first_eq g h (by omega) (by omega)
 have e87 : F_aig_size (g.1, (g.2.1, (g.2.2.1, g.2.2.2))) = some (siz g) := F_aig_size_eq g h (by omega) (by omega)
 have l0 := iterS_findR (f := F_aig_Check_l0 g (siz g)) g.2.2.1.length (fun i => ((i : Int), ())) (andB g) (.inl ((g.2.2.1.length : Int), ())) (fun _ => .inr 1)
  (fun i hi => by
   have q1 : F_aig_Check_1 (g.2.2.1[i]).1 (fst0 g + i) = some (litB (g.2.2.1[i]).1 (fst0 g + i)) := F_aig_Check_1_eq _ _ (by omega) (by omega)
   have q2 : F_aig_Check_1 (g.2.2.1[i]).2 (fst0 g + i) = some (litB (g.2.2.1[i]).2 (fst0 g + i)) := F_aig_Check_1_eq _ _ (by omega) (by omega)
   simp (disch := omega) [F_aig_Check_l0, rd_lt hi, hi, e89, wr64, q1, q2, andB]
   cases litB (g.2.2.1[i]).1 (fst0 g + i) <;> cases litB (g.2.2.1[i]).2 (fst0 g + i) <;> simp)
  (by simp [F_aig_Check_l0])
 have l1 := iterS_find (f := F_aig_Check_l1 g (siz g) ((g.2.2.1.length : Int), ())) g.2.1 (fun i => ((i : Int), ())) (latB g) (.inl ((g.2.1.length : Int), ())) (fun _ => .inr 1)
  (fun i hi => by
   have q1 : F_aig_Check_1 (g.2.1[i]).1 (siz g) = some (litB (g.2.1[i]).1 (siz g)) := F_aig_Check_1_eq _ _ (by omega) (by omega)
   simp (disch := omega) [F_aig_Check_l1, rd_lt hi, hi, e87, wr64, q1, latB]
   cases litB (g.2.1[i]).1 (siz g) <;> by_cases q : (g.2.1[i]).2 ≤ 1 <;> simp [q] <;> omega)
  (by simp [F_aig_Check_l1])
 have l2 := iterS_find (f := F_aig_Check_l2 g (siz g) ((g.2.2.1.length : Int), ()) ((g.2.1.length : Int), ())) g.2.2.2 (fun i => ((i : Int), ())) (outB g) (.inl ((g.2.2.2.length : Int), ())) (fun _ => .inr 1)
  (fun i hi => by
   have q1 : F_aig_Check_1 (g.2.2.2[i]) (siz g) = some (litB (g.2.2.2[i]) (siz g)) := F_aig_Check_1_eq _ _ (by omega) (by omega)
   simp (disch := omega) [F_aig_Check_l2, rd_lt hi, hi, e87, wr64, q1, outB]
   cases litB (g.2.2.2[i]) (siz g) <;> simp)
  (by simp [F_aig_Check_l2])
 rw [show ((0 : Int), ()) = (((0 : Nat) : Int), ()) from rfl, l0]
 cases (List.range g.2.2.1.length).findSome? (andB g) with
 | some _ => rfl
 | none =>
  simp only [Option.elim_none]
  rw [oj_inl, l1]
  cases g.2.1.findSome? (latB g) with
  | some _ => rfl
  | none =>
   simp only [Option.elim_none]
   rw [oj_inl, l2]
   cases g.2.2.2.findSome? (outB g) <;> rfl
structure AigV (g : TAig) : Prop where
 i0 : 0 ≤ g.1
 sz : siz g ≤ 4096
 outs : g.2.2.2.length ≤ 4096
 and : ∀ (i : Nat) (h : i < g.2.2.1.length), 0 ≤ (g.2.2.1[i]).1 ∧ (g.2.2.1[i]).1 < 2 * (fst0 g + i) ∧ 0 ≤ (g.2.2.1[i]).2 ∧ (g.2.2.1[i]).2 < 2 * (fst0 g + i)
 lat : ∀ x ∈ g.2.1, 0 ≤ x.1 ∧ x.1 < 2 * siz g ∧ x.2 ≤ 1
 out : ∀ x ∈ g.2.2.2, 0 ≤ x ∧ x < 2 * siz g
theorem elim0 {o : Option Unit} {a : Int} (h : o.elim a (fun _ => 1) = 0) : o = none ∧ a = 0 := by
 cases o with
 | none => exact ⟨rfl, h⟩
 | some _ => cases h
theorem chk_ok {g : TAig} (h : chk g = 0) : AigV g := by
 unfold chk at h
 split at h
 ·cases h
 split at h
 ·cases h
 split at h
 ·cases h
 split at h
 ·cases h
 obtain ⟨h1, h⟩ := elim0 h
 obtain ⟨h2, h⟩ := elim0 h
 obtain ⟨h3, -⟩ := elim0 h
 refine ⟨by omega, by omega, by omega, fun i hi => ?_, fun x hx => ?_, fun x hx => ?_⟩
 ·have := List.findSome?_eq_none_iff.1 h1 i (by simpa using hi)
  unfold andB litB at this
  rw [getD_lt hi] at this
  simp at this
  exact this
 ·have := List.findSome?_eq_none_iff.1 h2 x hx
  unfold latB litB at this
  simp at this
  exact this
 ·have := List.findSome?_eq_none_iff.1 h3 x hx
  unfold outB litB at this
  simp at this
  exact this
end Go.Proofs.YtiiancghhloalaaGreatDoor

open Go Go.AM Go.TM
namespace Go.Proofs.YtiiancghhloalaaGreatDoor
abbrev yAig : Ty := .st (.pair (.int .i64) (.pair (.slice (.st (.pair (.int .i64) (.int .u8)))) (.pair (.slice (.st (.pair (.int .i64) (.int .i64)))) (.slice (.int .i64)))))
abbrev yTrace : Ty := .slice (.slice .bool)
theorem cut_eq {α : Type} (l : List α) (n : Nat) : cut l 0 n = l.take n := by simp
theorem mn_take {α : Type} (l : List α) (n : Nat) : cut l 0 (tn (mn (ni (len l)) n)) = l.take n := by
 rw [cut_eq]
 simp only [mn_def, ni_def, len_def, tn_def]
 split
 ·rw [show ((n : Nat) : Int).toNat = n from Int.toNat_natCast n]
 ·rw [Int.toNat_natCast, List.take_length, List.take_of_length_le (by omega)]
theorem mn_rg {α : Type} (l : List α) (n : Nat) : rg 0 (mn (ni (len l)) n) (ni (len l)) = true := by
 simp only [rg_def, mn_def, ni_def, len_def, decide_eq_true_eq]
 split <;> omega
def small (g : TAig) (n : Nat) : TAig := (g.1, g.2.1.take n, g.2.2.1.take n, g.2.2.2.take n)
theorem aig_len {g : TAig} (h : WfT yAig g) : g.2.1.length ≤ 8796093021952 ∧ g.2.2.1.length ≤ 8796093021952 ∧ g.2.2.2.length ≤ 17592186043904 := by
 obtain ⟨-, h1, h2, h3⟩ := h
 have h1 := h1.1
 have h2 := h2.1
 have h3 := h3.1
 simp [Ty.bytes, Ty.ends, Ty.align, kindBytes, IntKind.bits, up] at h1 h2 h3
 omega
end Go.Proofs.YtiiancghhloalaaGreatDoor

open Go Go.AM Go.TM
namespace Go.Proofs.YtiiancghhloalaaGreatDoor
def of2 (b : LB) (x : Int) : Bool := b.getD (x / 2).toNat false != decide (x % 2 = 1)
def step2 (b : LB) (x : Int × Int) : LB := b ++ [of2 b x.1 && of2 b x.2]
def all2 (g : TAig) (inp st : LB) : LB := g.2.2.1.foldl step2 (([false] ++ inp) ++ st)
def outs2 (g : TAig) (b : LB) : LB := g.2.2.2.map (of2 b)
def next2 (g : TAig) (b : LB) : LB := g.2.1.map fun l => of2 b l.1
def start2 (g : TAig) : LB := g.2.1.map fun l => decide (l.2 = 1)
theorem of_prog {b : LB} {x : Int} (h0 : 0 ≤ x) (h1 : x / 2 < b.length) (h2 : x ≤ 9223372036854775807) : F_aig_values_of b x = some (of2 b x) := by
 have hi : (x / 2).toNat < b.length := by omega
 unfold F_aig_values_of
 simp only [eq_def, shr1, band1 h0 h2, br_def, ix_def, ni_def, len_def, decide_eq_true_eq, tn_def, rd_lt hi, nt_def, bq_def]
 rw [if_pos (by omega)]
 unfold of2
 rw [getD_lt hi]; rfl
def ValsI (g : TAig) (i : Nat) (b : LB) : Prop := (b.length : Int) = fst0 g + i
theorem ValsI.step {g : TAig} {i : Nat} {b : LB} (h : ValsI g i b) (x : Int × Int) : ValsI g (i + 1) (step2 b x) := by
 unfold ValsI at *
 simp only [step2, List.length_append, List.length_singleton]; omega
theorem ValsI.all {g : TAig} : ∀ (l : List (Int × Int)) (i : Nat) (b : LB), ValsI g i b → ValsI g (i + l.length) (l.foldl step2 b) := by
 intro l
 induction l with
 | nil => intro i b h; exact h
 | cons x l ih => intro i b h; have := ih (i + 1) _ (h.step x); rw [show i + (x :: l).length = i + 1 + l.length by simp; omega]; exact this
theorem vals0 {g : TAig} {inp st : LB} (h1 : (inp.length : Int) = g.1) (h3 : st.length = g.2.1.length) : ValsI g 0 (([false] ++ inp) ++ st) := by
 have hf : fst0 g = 1 + g.1 + g.2.1.length := rfl
 unfold ValsI
 simp only [List.length_append, List.length_singleton]; omega
theorem vals_end {g : TAig} {inp st : LB} (h : ValsI g 0 (([false] ++ inp) ++ st)) : ((all2 g inp st).length : Int) = siz g := by
 have := ValsI.all g.2.2.1 0 _ h
 rw [Nat.zero_add] at this
 exact this
theorem all_prog {g : TAig} (v : AigV g) (hb : AigB g) {inp st : LB} (h1 : (inp.length : Int) = g.1) (h3 : st.length = g.2.1.length) : F_aig_all g inp st = some (all2 g inp st) := by
 have hs : siz g = fst0 g + g.2.2.1.length := rfl
 have hf : fst0 g = 1 + g.1 + g.2.1.length := rfl
 have vs := v.sz
 have v0 := v.i0
 obtain ⟨b1, b2, b3⟩ := hb
 have l := iterS_fold (f := F_aig_all_l0 g inp st (siz g)) g.2.2.1 (fun i b => ((i : Int), b, ())) step2 (fun out => .inl ((g.2.2.1.length : Int), out, ())) (ValsI g)
  (fun i b hi ho => by
   refine ⟨?_, ho.step _⟩
   have ho : (b.length : Int) = fst0 g + i := ho
   obtain ⟨a1, a2, a3, a4⟩ := v.and i hi
   have e : b.length + 1 ≤ 140737488355328 := by omega
   have q1 := of_prog (b := b) a1 (by omega) (by omega)
   have q2 := of_prog (b := b) a3 (by omega) (by omega)
   simp (disch := omega) only [F_aig_all_l0, br_def, lt_def, ni_def, len_def, ix_def, tn_nat, rd_lt hi, q1, q2, ob_some, fits_def, ad_def, wr64, app_def, decide_eq_true_eq, List.length_singleton, e, if_true]
   rw [if_pos (by omega), if_pos (by omega)]
   unfold step2
   cases of2 b (g.2.2.1[i]).1 <;> rfl)
  (fun out ho => by simp [F_aig_all_l0]) (vals0 h1 h3)
 unfold F_aig_all
 rw [show F_aig_size (g.1, (g.2.1, (g.2.2.1, g.2.2.2))) = some (siz g) from F_aig_size_eq g ⟨b1, b2, b3⟩ v.i0 (by omega), ob_some]
 simp only [br_def, rg_def, le_def, ml_def, fits_def, len_def, rept_def, app_def, decide_eq_true_eq, show tn 1 = 1 from rfl, List.replicate_one, List.length_append, List.length_singleton]
 rw [if_pos (by omega), if_pos (by omega), if_pos (by omega), if_pos (by omega), if_pos (by omega), show ((0 : Int), ((([false] ++ inp) ++ st), ())) = (((0 : Nat) : Int), (([false] ++ inp) ++ st), ()) from rfl, l]
 rfl
theorem ends_prog {g : TAig} (v : AigV g) (hb : AigB g) {b : LB} (hl : (b.length : Int) = siz g) : F_aig_ends g b = some (outs2 g b, next2 g b) := by
 have vs := v.sz
 have vo := v.outs
 obtain ⟨b1, b2, b3⟩ := hb
 have l0 := iterS_fold (f := F_aig_ends_l0 g b) g.2.2.2 (fun i out => ((i : Int), out, ())) (fun out x => out ++ [of2 b x]) (fun out => .inl ((g.2.2.2.length : Int), out, ())) (fun i out => out.length = i)
  (fun i out hi ho => by
   refine ⟨?_, by simp [ho]⟩
   obtain ⟨a1, a2⟩ := v.out _ (List.getElem_mem hi)
   have e : i + 1 ≤ 140737488355328 := by omega
   have q := of_prog (b := b) a1 (by omega) (by omega)
   simp (disch := omega) [F_aig_ends_l0, rd_lt hi, wr64, hi, ho, e, q])
  (fun out ho => by simp [F_aig_ends_l0]) (b := []) rfl
 have l1 : ∀ y1, _ := fun y1 => iterS_fold (f := F_aig_ends_l1 g b y1) g.2.1 (fun i out => ((i : Int), out, ())) (fun out x => out ++ [of2 b x.1]) (fun out => .inl ((g.2.1.length : Int), out, ())) (fun i out => out.length = i)
  (fun i out hi ho => by
   refine ⟨?_, by simp [ho]⟩
   obtain ⟨a1, a2, a3⟩ := v.lat _ (List.getElem_mem hi)
   have e : i + 1 ≤ 140737488355328 := by omega
   have q := of_prog (b := b) a1 (by omega) (by omega)
   simp (disch := omega) [F_aig_ends_l1, rd_lt hi, wr64, hi, ho, e, q])
  (fun out ho => by simp [F_aig_ends_l1]) (b := []) rfl
 rw [foldl_snoc] at l0
 unfold F_aig_ends
 rw [show ((0 : Int), (([] : LB), ())) = ((((0 : Nat) : Int)), ([], ())) from rfl, l0, oj_inl, l1, oj_inl, foldl_snoc]; rfl
theorem start_prog {g : TAig} (hc : chk g = 0) (hb : AigB g) : F_aig_Start g = some (start2 g) := by
 have vs := (chk_ok hc).sz
 have hs : siz g = fst0 g + g.2.2.1.length := rfl
 have hf : fst0 g = 1 + g.1 + g.2.1.length := rfl
 have v0 := (chk_ok hc).i0
 have hb' := hb
 obtain ⟨b1, b2, b3⟩ := hb
 have l := iterS_upto (f := F_aig_Start_l0 g (chk g)) (fun j => ((j : Int), ((g.2.1.take j).map (fun l : Int × Int => decide (l.2 = 1)) ++ List.replicate (g.2.1.length - j) false, ()))) g.2.1.length (r := .inl ((g.2.1.length : Int), (start2 g, ())))
  (fun j hj => by
   have e : j < ((g.2.1.take j).map (fun l : Int × Int => decide (l.2 = 1)) ++ List.replicate (g.2.1.length - j) false).length := by simp; omega
   simp only [F_aig_Start_l0, br_def, lt_def, ni_def, len_def, ix_def, tn_nat, rd_lt hj, decide_eq_true_eq, ad_def, put_def, eq_def]
   rw [if_pos (by omega), if_pos (by omega), if_pos (by omega), wr64 (by omega) (by omega)]
   rw [show (decide ((g.2.1[j]).2 = 1)) = (fun l : Int × Int => decide (l.2 = 1)) g.2.1[j] from rfl, set_map _ _ _ _ hj]; rfl)
  (by simp [F_aig_Start_l0, start2])
 unfold F_aig_Start
 rw [show F_aig_Check (g.1, (g.2.1, (g.2.2.1, g.2.2.2))) = some (chk g) from F_aig_Check_eq g hb', ob_some]
 simp only [br_def, ne_def, rg_def, le_def, ml_def, ni_def, len_def, rept_def, decide_eq_true_eq]
 rw [if_neg (by omega), if_pos (by omega), if_pos (by omega), if_pos (by omega), tn_nat]
 simp only [List.take_zero, List.map_nil, List.nil_append, Nat.sub_zero] at l
 rw [show ((0 : Int), (List.replicate g.2.1.length false, ())) = (((0 : Nat) : Int), (List.replicate g.2.1.length false, ())) from rfl, l, oj_inl]
def sim2 (g : TAig) : LLB → LB → LLB × LLB
 | [], _ => ([], [])
 | inp :: r, st => (outs2 g (all2 g inp st) :: (sim2 g r (next2 g (all2 g inp st))).1, next2 g (all2 g inp st) :: (sim2 g r (next2 g (all2 g inp st))).2)
def wide (g : TAig) (r : LB) : Option Unit := if (r.length : Int) = g.1 then none else some ()
def run2 (g : TAig) (t : LLB) : LLB × (LLB × Int) := if chk g ≠ 0 then ([], ([], chk g)) else if 64 < (t.length : Int) then ([], ([], 5)) else
 (t.findSome? (wide g)).elim ((sim2 g t (start2 g)).1, (start2 g :: (sim2 g t (start2 g)).2, 0)) fun _ => ([], ([], 12))
theorem wide_ok {g : TAig} {t : LLB} (h : t.findSome? (wide g) = none) : ∀ r ∈ t, (r.length : Int) = g.1 := fun r hr => by
 have := List.findSome?_eq_none_iff.1 h r hr
 unfold wide at this
 split at this
 ·assumption
 ·cases this
def stp2 (g : TAig) (x : LB × LLB × LLB) (inp : LB) : LB × LLB × LLB := (next2 g (all2 g inp x.1), x.2.1 ++ [outs2 g (all2 g inp x.1)], x.2.2 ++ [next2 g (all2 g inp x.1)])
theorem fold2 (g : TAig) : ∀ (p : LLB) (st : LB) (o s : LLB), (p.foldl (stp2 g) (st, o, s)).2 = (o ++ (sim2 g p st).1, s ++ (sim2 g p st).2) := by
 intro p
 induction p with
 | nil => intro st o s; simp [sim2]
 | cons inp r ih => intro st o s; simp only [List.foldl_cons, stp2, ih, sim2, List.append_assoc, List.singleton_append]
theorem next2_len (g : TAig) (b : LB) : (next2 g b).length = g.2.1.length := by simp [next2]
theorem loop_prog {g : TAig} (hc : chk g = 0) (hb : AigB g) {t : LLB} (ht : ∀ r ∈ t, (r.length : Int) = g.1) (hn : t.length ≤ 64) {y5 y6} {o s : LLB} (ho : o.length ≤ 1) (hs : s.length ≤ 1) {st : LB} (hst : st.length = g.2.1.length) :
  iterS (F_aig_Run_l2 g t (chk g) y5 y6) (0, (st, (o, (s, ())))) = some (.inl ((t.length : Int), ((t.foldl (stp2 g) (st, o, s)).1, ((t.foldl (stp2 g) (st, o, s)).2.1, ((t.foldl (stp2 g) (st, o, s)).2.2, ()))))) := by
 have v := chk_ok hc
 exact iterS_fold (f := F_aig_Run_l2 g t (chk g) y5 y6) t (fun i (x : LB × LLB × LLB) => ((i : Int), x.1, x.2.1, x.2.2, ())) (stp2 g) (fun x => .inl ((t.length : Int), x.1, x.2.1, x.2.2, ()))
  (fun i x => x.1.length = g.2.1.length ∧ x.2.1.length ≤ i + 1 ∧ x.2.2.length ≤ i + 1)
  (fun i x hi ⟨q1, q2, q3⟩ => by
   refine ⟨?_, next2_len _ _, by simp [stp2]; omega, by simp [stp2]; omega⟩
   have h1 := ht _ (List.getElem_mem hi)
   have e1 : F_aig_all (g.1, (g.2.1, (g.2.2.1, g.2.2.2))) t[i] x.1 = some (all2 g t[i] x.1) := all_prog v hb h1 q1
   have e2 : F_aig_ends (g.1, (g.2.1, (g.2.2.1, g.2.2.2))) (all2 g t[i] x.1) = some (outs2 g (all2 g t[i] x.1), next2 g (all2 g t[i] x.1)) := ends_prog v hb (vals_end (vals0 h1 q1))
   simp only [F_aig_Run_l2, br_def, lt_def, ni_def, len_def, ix_def, tn_nat, rd_lt hi, decide_eq_true_eq, e1, e2, ob_some, fits_def, ad_def, app_def, List.length_singleton]
   rw [if_pos (by omega), if_pos (by omega), if_pos (by omega), if_pos (by omega), wr64 (by omega) (by omega)]; rfl)
  (fun x _ => by simp [F_aig_Run_l2]) (b := (st, o, s)) ⟨hst, by omega, by omega⟩
theorem start2_len (g : TAig) : (start2 g).length = g.2.1.length := by simp [start2]
theorem run_prog {g : TAig} (hb : AigB g) (t : LLB) : F_aig_Run g t = some (run2 g t) := by
 unfold F_aig_Run run2
 rw [show F_aig_Check (g.1, (g.2.1, (g.2.2.1, g.2.2.2))) = some (chk g) from F_aig_Check_eq g hb, ob_some]
 simp only [br_def, ne_def, lt_def, ni_def, len_def, decide_eq_true_eq]
 by_cases hc : chk g ≠ 0
 ·rw [if_pos hc, if_pos hc]
 rw [if_neg hc, if_neg hc]
 by_cases hl : 64 < (t.length : Int)
 ·rw [if_pos hl, if_pos hl]
 rw [if_neg hl, if_neg hl]
 have hc0 : chk g = 0 := by omega
 have outer := iterS_find (f := F_aig_Run_l0 g t (chk g)) t (fun i => ((i : Int), ())) (wide g) (.inl ((t.length : Int), ())) (fun _ => .inr ([], ([], 12)))
  (fun i hi => by
   simp only [F_aig_Run_l0, br_def, lt_def, ni_def, len_def, ix_def, tn_nat, rd_lt hi, decide_eq_true_eq, ne_def, inR_some', ad_def, le_def]
   rw [if_pos (by omega), if_pos (by omega), if_pos (show (0 : Int) ≤ (i : Int) by omega), wr64 (by omega) (by omega)]
   unfold wide
   by_cases e : (t[i].length : Int) = g.1
   ·rw [if_neg (by simpa using e), if_pos e]; rfl
   ·rw [if_pos e, if_neg e]; rfl)
  (by simp [F_aig_Run_l0])
 rw [show ((0 : Int), ()) = (((0 : Nat) : Int), ()) from rfl, outer]
 cases e : t.findSome? (wide g) with
 | some _ => rfl
 | none =>
  simp only [Option.elim_none]
  rw [oj_inl, show F_aig_Start (g.1, (g.2.1, (g.2.2.1, g.2.2.2))) = some (start2 g) from start_prog hc0 hb, ob_some]
  simp only [fits_def, List.length_singleton, decide_eq_true_eq]
  rw [if_pos (by omega), loop_prog hc0 hb (wide_ok e) (by omega) (by simp) (by simp) (start2_len g), oj_inl, fold2]
  rfl
end Go.Proofs.YtiiancghhloalaaGreatDoor

open Go Go.AM Go.TM
namespace Go.Proofs.YtiiancghhloalaaGreatDoor
theorem sim2_len (g : TAig) : ∀ (t : LLB) (st : LB), (sim2 g t st).1.length = t.length ∧ (sim2 g t st).2.length = t.length ∧ (∀ r ∈ (sim2 g t st).1, r.length = g.2.2.2.length) ∧ ∀ r ∈ (sim2 g t st).2, r.length = g.2.1.length := by
 intro t
 induction t with
 | nil => intro st; simp [sim2]
 | cons a t ih =>
  intro st
  obtain ⟨h1, h2, h3, h4⟩ := ih (next2 g (all2 g a st))
  refine ⟨by simp [sim2, h1], by simp [sim2, h2], fun r hr => ?_, fun r hr => ?_⟩
  ·rcases List.mem_cons.1 (show r ∈ outs2 g (all2 g a st) :: _ from hr) with e | e
   ·subst e; simp [outs2]
   ·exact h3 r e
  ·rcases List.mem_cons.1 (show r ∈ next2 g (all2 g a st) :: _ from hr) with e | e
   ·subst e; simp [next2]
   ·exact h4 r e
end Go.Proofs.YtiiancghhloalaaGreatDoor

open Go Go.AM Go.TM
namespace Go.Proofs.YtiiancghhloalaaGreatDoor
def bring (x n : Int) : Int := (x.tmod n + n).tmod n
theorem bring_range {x n : Int} (h : 0 < n) : 0 ≤ bring x n ∧ bring x n < n := by
 have h1 := Int.lt_tmod_of_pos x h
 unfold bring
 rw [Int.tmod_eq_emod_of_nonneg (by omega)]
 exact ⟨Int.emod_nonneg _ (by omega), Int.emod_lt_of_pos _ h⟩
theorem bring_eq {x n : Int} (h : 0 < n) (h2 : n ≤ 1000000000) : F_r20_Bring x n = some (bring x n) := by
 have h1 := Int.lt_tmod_of_pos x h
 have h3 := Int.tmod_lt_of_pos x h
 unfold F_r20_Bring
 simp only [br_def, ne_def, decide_eq_true_eq, ad_def]
 rw [if_pos (by omega), if_pos (by omega), show md x n = x.tmod n from rfl, wr64 (by omega) (by omega)]; rfl
theorem mn_tn {α : Type} (l : List α) (n : Nat) : tn (mn (ni (len l)) (n : Int)) = (l.take n).length := by
 simp only [mn_def, ni_def, len_def]
 split
 ·rw [tn_nat, List.length_take]; omega
 ·rw [tn_nat, List.length_take]; omega
def mixI {α : Type} (f : Nat → α) (r : List α) (i : Nat) : List α := (List.range i).map f ++ r.drop i
theorem mixI_len {α : Type} {f : Nat → α} {r : List α} {i : Nat} (hi : i ≤ r.length) : (mixI f r i).length = r.length := by simp [mixI]; omega
theorem mixI_get {α : Type} {f : Nat → α} {r : List α} {i : Nat} (hi : i < r.length) (d : α) : rd (mixI f r i) i d = r[i] := by
 unfold mixI
 rw [rd_def, List.getD_eq_getElem?_getD, List.getElem?_append_right (by simp), List.length_map, List.length_range, Nat.sub_self, List.getElem?_drop, Nat.add_zero, List.getElem?_eq_getElem hi]; rfl
theorem mixI_set {α : Type} {f : Nat → α} {r : List α} {i : Nat} (hi : i < r.length) : (mixI f r i).set i (f i) = mixI f r (i + 1) := by
 unfold mixI
 rw [List.set_append_right _ _ (by simp), List.length_map, List.length_range, Nat.sub_self, List.drop_eq_getElem_cons hi, List.range_succ, List.map_append, List.append_assoc]; rfl
theorem mixI_end {α : Type} (f : Nat → α) (r : List α) : mixI f r r.length = (List.range r.length).map f := by simp [mixI]
def fit (g : TAig) (n : Nat) : TAig :=
 (bring g.1 ((n : Int) + 1),
  ((List.range (g.2.1.take n).length).map fun i => (bring ((g.2.1.take n).getD i (0, 0)).1 (2 * (1 + bring g.1 ((n : Int) + 1) + (g.2.1.take n).length + (g.2.2.1.take n).length)), md ((g.2.1.take n).getD i (0, 0)).2 2)),
  ((List.range (g.2.2.1.take n).length).map fun i => (bring ((g.2.2.1.take n).getD i (0, 0)).1 (2 * (1 + bring g.1 ((n : Int) + 1) + (g.2.1.take n).length + i)), bring ((g.2.2.1.take n).getD i (0, 0)).2 (2 * (1 + bring g.1 ((n : Int) + 1) + (g.2.1.take n).length + i)))),
  ((List.range (g.2.2.2.take n).length).map fun i => bring ((g.2.2.2.take n).getD i 0) (2 * (1 + bring g.1 ((n : Int) + 1) + (g.2.1.take n).length + (g.2.2.1.take n).length))))
theorem fit_len (g : TAig) (n : Nat) : (fit g n).2.1.length = (g.2.1.take n).length ∧ (fit g n).2.2.1.length = (g.2.2.1.take n).length ∧ (fit g n).2.2.2.length = (g.2.2.2.take n).length := by
 refine ⟨?_, ?_, ?_⟩ <;> simp only [fit, List.length_map, List.length_range]
theorem fit_fst (g : TAig) (n : Nat) : fst0 (fit g n) = 1 + bring g.1 ((n : Int) + 1) + (g.2.1.take n).length := by
 unfold fst0
 rw [(fit_len g n).1]; rfl
theorem fit_siz (g : TAig) (n : Nat) : siz (fit g n) = 1 + bring g.1 ((n : Int) + 1) + (g.2.1.take n).length + (g.2.2.1.take n).length := by
 unfold siz
 rw [fit_fst, (fit_len g n).2.1]
theorem md_le (x : Int) : md x 2 ≤ 1 := by
 have := Int.tmod_lt_of_pos x (show (0 : Int) < 2 by omega)
 show x.tmod 2 ≤ 1
 omega
theorem fit_chk (g : TAig) {n : Nat} (hn : n ≤ 100) : chk (fit g n) = 0 := by
 obtain ⟨l1, l2, l3⟩ := fit_len g n
 have t1 := List.length_take (i := n) (l := g.2.1)
 have t2 := List.length_take (i := n) (l := g.2.2.1)
 have t3 := List.length_take (i := n) (l := g.2.2.2)
 obtain ⟨r1, r2⟩ := bring_range (x := g.1) (n := (n : Int) + 1) (by omega)
 have e1 : (fit g n).1 = bring g.1 ((n : Int) + 1) := rfl
 have hf := fit_fst g n
 have hs := fit_siz g n
 have c1 : (List.range (fit g n).2.2.1.length).findSome? (andB (fit g n)) = none := by
  rw [List.findSome?_eq_none_iff]
  intro i hi
  have hi' : i < (fit g n).2.2.1.length := by simpa using hi
  have hi2 : i < (g.2.2.1.take n).length := by omega
  unfold andB litB
  rw [getD_lt hi', hf]
  have q1 := bring_range (x := ((g.2.2.1.take n).getD i (0, 0)).1) (n := 2 * (1 + bring g.1 ((n : Int) + 1) + (g.2.1.take n).length + i)) (by omega)
  have q2 := bring_range (x := ((g.2.2.1.take n).getD i (0, 0)).2) (n := 2 * (1 + bring g.1 ((n : Int) + 1) + (g.2.1.take n).length + i)) (by omega)
  have e : (fit g n).2.2.1[i] = (bring ((g.2.2.1.take n).getD i (0, 0)).1 (2 * (1 + bring g.1 ((n : Int) + 1) + (g.2.1.take n).length + i)), bring ((g.2.2.1.take n).getD i (0, 0)).2 (2 * (1 + bring g.1 ((n : Int) + 1) + (g.2.1.take n).length + i))) := by
   simp only [fit, List.getElem_map, List.getElem_range]
  rw [e]
  simp only [decide_eq_true q1, decide_eq_true q2]
  rfl
 have c2 : (fit g n).2.1.findSome? (latB (fit g n)) = none := by
  rw [List.findSome?_eq_none_iff]
  intro x hx
  simp only [fit, List.mem_map] at hx
  obtain ⟨i, -, rfl⟩ := hx
  unfold latB litB
  rw [hs]
  have q1 := bring_range (x := ((g.2.1.take n).getD i (0, 0)).1) (n := 2 * (1 + bring g.1 ((n : Int) + 1) + (g.2.1.take n).length + (g.2.2.1.take n).length)) (by omega)
  simp only [decide_eq_true q1, decide_eq_true (md_le _)]
  rfl
 have c3 : (fit g n).2.2.2.findSome? (outB (fit g n)) = none := by
  rw [List.findSome?_eq_none_iff]
  intro x hx
  simp only [fit, List.mem_map] at hx
  obtain ⟨i, -, rfl⟩ := hx
  unfold outB litB
  rw [hs]
  have q1 := bring_range (x := (g.2.2.2.take n).getD i 0) (n := 2 * (1 + bring g.1 ((n : Int) + 1) + (g.2.1.take n).length + (g.2.2.1.take n).length)) (by omega)
  simp only [decide_eq_true q1]
  rfl
 unfold chk
 rw [if_neg (by omega), if_neg (by omega), if_neg (by omega), if_neg (by omega), c1, c2, c3]; rfl
theorem fit_B (g : TAig) {n : Nat} (hn : n ≤ 100) : AigB (fit g n) := by
 obtain ⟨l1, l2, l3⟩ := fit_len g n
 have t1 := List.length_take (i := n) (l := g.2.1)
 have t2 := List.length_take (i := n) (l := g.2.2.1)
 have t3 := List.length_take (i := n) (l := g.2.2.2)
 exact ⟨by omega, by omega, by omega⟩
def fA (g : TAig) (n : Nat) (b : Int) (i : Nat) : Int × Int := (bring ((g.2.2.1.take n).getD i (0, 0)).1 (2 * (1 + b + (g.2.1.take n).length + i)), bring ((g.2.2.1.take n).getD i (0, 0)).2 (2 * (1 + b + (g.2.1.take n).length + i)))
def fL (g : TAig) (n : Nat) (N : Int) (i : Nat) : Int × Int := (bring ((g.2.1.take n).getD i (0, 0)).1 (2 * N), md ((g.2.1.take n).getD i (0, 0)).2 2)
def fO (g : TAig) (n : Nat) (N : Int) (i : Nat) : Int := bring ((g.2.2.2.take n).getD i 0) (2 * N)
theorem fit_eq (g : TAig) (h1 : g.2.1.length ≤ 8796093022208) (h2 : g.2.2.1.length ≤ 8796093022208) (h3 : g.2.2.2.length ≤ 17592186044416) {n : Nat} (hn : n ≤ 100) : F_r20_Fit g (n : Int) = some (fit g n) := by
 have t1 := List.length_take (i := n) (l := g.2.1)
 have t2 := List.length_take (i := n) (l := g.2.2.1)
 have t3 := List.length_take (i := n) (l := g.2.2.2)
 obtain ⟨r1, r2⟩ := bring_range (x := g.1) (n := (n : Int) + 1) (by omega)
 have hfit : fit g n = (bring g.1 ((n : Int) + 1), ((List.range (g.2.1.take n).length).map (fL g n (1 + bring g.1 ((n : Int) + 1) + (g.2.1.take n).length + (g.2.2.1.take n).length))), ((List.range (g.2.2.1.take n).length).map (fA g n (bring g.1 ((n : Int) + 1)))), ((List.range (g.2.2.2.take n).length).map (fO g n (1 + bring g.1 ((n : Int) + 1) + (g.2.1.take n).length + (g.2.2.1.take n).length)))) := rfl
 rw [hfit]
 have hbring := bring_eq (x := g.1) (n := (n : Int) + 1) (by omega) (by omega)
 generalize bring g.1 ((n : Int) + 1) = b at r1 r2 hbring ⊢
 have k0 := iterS_upto (f := F_r20_Fit_l0 g (n : Int) b) (fun i => ((i : Int), (mixI (fA g n b) (g.2.2.1.take n) i, ()))) (g.2.2.1.take n).length (r := .inl (((g.2.2.1.take n).length : Int), ((List.range (g.2.2.1.take n).length).map (fA g n b), ())))
  (fun i hi => by
   have hl := mixI_len (f := fA g n b) (Nat.le_of_lt hi)
   have hs := mixI_set (f := fA g n b) hi
   have ha : fA g n b i = (bring (g.2.2.1.take n)[i].1 (2 * (1 + b + (g.2.1.take n).length + i)), bring (g.2.2.1.take n)[i].2 (2 * (1 + b + (g.2.1.take n).length + i))) := by unfold fA; rw [getD_lt hi]
   simp only [F_r20_Fit_l0, tn_nat, mixI_get hi, mn_tn, put_def, ad_def, ml_def, ni_def, len_def]
   rw [wr64 (show -9223372036854775808 ≤ 1 + b by omega) (by omega), wr64 (show -9223372036854775808 ≤ 1 + b + ((g.2.1.take n).length : Int) by omega) (by omega), wr64 (show -9223372036854775808 ≤ 1 + b + ((g.2.1.take n).length : Int) + (i : Int) by omega) (by omega), wr64 (show -9223372036854775808 ≤ 2 * (1 + b + ((g.2.1.take n).length : Int) + (i : Int)) by omega) (by omega)]
   rw [bring_eq (by omega) (by omega), bring_eq (by omega) (by omega), ob_some, ob_some, ← ha, hs]
   simp only [br_def, lt_def, ix_def, decide_eq_true_eq, hl]
   rw [if_pos (by omega), if_pos (by omega), if_pos (by omega), if_pos (by omega), wr64 (by omega) (by omega)]; rfl)
  (by rw [mixI_end]; simp only [F_r20_Fit_l0, br_def, lt_def, ni_def, len_def, List.length_map, List.length_range, decide_eq_true_eq]; rw [if_neg (by omega)])
 generalize hN : 1 + b + ((g.2.1.take n).length : Int) + ((g.2.2.1.take n).length : Int) = N
 have k1 : ∀ y3, iterS (F_r20_Fit_l1 g (n : Int) b y3 N) (0, (mixI (fL g n N) (g.2.1.take n) 0, ())) = some (.inl (((g.2.1.take n).length : Int), ((List.range (g.2.1.take n).length).map (fL g n N), ()))) := fun y3 => iterS_upto (f := F_r20_Fit_l1 g (n : Int) b y3 N) (fun i => ((i : Int), (mixI (fL g n N) (g.2.1.take n) i, ()))) (g.2.1.take n).length
  (fun i hi => by
   have hl := mixI_len (f := fL g n N) (Nat.le_of_lt hi)
   have hs := mixI_set (f := fL g n N) hi
   have ha : fL g n N i = (bring (g.2.1.take n)[i].1 (2 * N), md (g.2.1.take n)[i].2 2) := by unfold fL; rw [getD_lt hi]
   simp only [F_r20_Fit_l1, tn_nat, mixI_get hi, put_def, ad_def, ml_def]
   rw [wr64 (show -9223372036854775808 ≤ 2 * N by omega) (by omega)]
   rw [bring_eq (by omega) (by omega), ob_some, ← ha, hs]
   simp only [br_def, lt_def, ix_def, ni_def, len_def, decide_eq_true_eq, hl]
   rw [if_pos (by omega), if_pos (by omega), if_pos (by omega), if_pos (by omega), wr64 (by omega) (by omega)]; rfl)
  (by rw [mixI_end]; simp only [F_r20_Fit_l1, br_def, lt_def, ni_def, len_def, List.length_map, List.length_range, decide_eq_true_eq]; rw [if_neg (by omega)])
 have k2 : ∀ y3 y6, iterS (F_r20_Fit_l2 g (n : Int) b y3 N y6) (0, (mixI (fO g n N) (g.2.2.2.take n) 0, ())) = some (.inl (((g.2.2.2.take n).length : Int), ((List.range (g.2.2.2.take n).length).map (fO g n N), ()))) := fun y3 y6 => iterS_upto (f := F_r20_Fit_l2 g (n : Int) b y3 N y6) (fun i => ((i : Int), (mixI (fO g n N) (g.2.2.2.take n) i, ()))) (g.2.2.2.take n).length
  (fun i hi => by
   have hl := mixI_len (f := fO g n N) (Nat.le_of_lt hi)
   have hs := mixI_set (f := fO g n N) hi
   have ha : fO g n N i = bring (g.2.2.2.take n)[i] (2 * N) := by unfold fO; rw [getD_lt hi]
   simp only [F_r20_Fit_l2, tn_nat, mixI_get hi, put_def, ad_def, ml_def]
   rw [wr64 (show -9223372036854775808 ≤ 2 * N by omega) (by omega)]
   rw [bring_eq (by omega) (by omega), ob_some, ← ha, hs]
   simp only [br_def, lt_def, ix_def, ni_def, len_def, decide_eq_true_eq, hl]
   rw [if_pos (by omega), if_pos (by omega), if_pos (by omega), wr64 (by omega) (by omega)]; rfl)
  (by rw [mixI_end]; simp only [F_r20_Fit_l2, br_def, lt_def, ni_def, len_def, List.length_map, List.length_range, decide_eq_true_eq]; rw [if_neg (by omega)])
 have m0 : ∀ {α : Type} (f : Nat → α) (r : List α), mixI f r 0 = r := fun f r => by simp [mixI]
 rw [m0] at k0
 have k0' := k0
 have n20 : F_r20_Nodes (b, (g.2.1.take n, ((List.range (g.2.2.1.take n).length).map (fA g n b), g.2.2.2.take n))) = some N := by
  unfold F_r20_Nodes
  simp only [ad_def, ni_def, len_def, List.length_map, List.length_range]
  rw [wr64 (show -9223372036854775808 ≤ 1 + b by omega) (by omega), wr64 (show -9223372036854775808 ≤ 1 + b + ((g.2.1.take n).length : Int) by omega) (by omega), hN, wr64 (by omega) (by omega)]
 unfold F_r20_Fit
 simp only [mn_rg, mn_take]
 rw [show wr .i64 (ad (n : Int) 1) = (n : Int) + 1 by rw [ad_def, wr64 (by omega) (by omega)], hbring, ob_some, show ((0 : Int), (g.2.2.1.take n, ())) = ((((0 : Nat) : Int)), (g.2.2.1.take n, ())) from rfl, k0, oj_inl]
 rw [show F_r20_Nodes (b, (g.2.1.take n, (((((g.2.2.1.take n).length : Int), ((List.range (g.2.2.1.take n).length).map (fA g n b), ())) : Int × (List (Int × Int) × Unit)).2.1, g.2.2.2.take n))) = some N from n20, ob_some]
 have k1' := k1 (((g.2.2.1.take n).length : Int), ((List.range (g.2.2.1.take n).length).map (fA g n b), ()))
 rw [m0] at k1'
 rw [k1', oj_inl]
 have k2' := k2 (((g.2.2.1.take n).length : Int), ((List.range (g.2.2.1.take n).length).map (fA g n b), ())) (((g.2.1.take n).length : Int), ((List.range (g.2.1.take n).length).map (fL g n N), ()))
 rw [m0] at k2'
 rw [k2', oj_inl]
 simp only [br_def, fits_def, len_def, decide_eq_true_eq]
 rw [if_pos (by omega), if_pos (by omega), if_pos (by omega), if_pos trivial, if_pos trivial, if_pos trivial]
def bitAt (x n : Int) : Bool := eq (md (shr .u64 x (md n 64)) 2) 1
def bitsR (v : Int) (n : Nat) : LB := (List.range n).map fun (i : Nat) => bitAt v (i : Int)
theorem md64 {n : Int} (h : 0 ≤ n) : le 0 (md n 64) = true := by
 have : 0 ≤ md n 64 := by
  show 0 ≤ n.tmod 64
  rw [Int.tmod_eq_emod_of_nonneg h]; omega
 simp [this]
theorem bits_eq {v : Int} {n : Int} (h0 : 0 ≤ n) (h1 : n ≤ 4096) : F_r20_Bits v n = some (bitsR v n.toNat) := by
 have := iterS_upto (f := F_r20_Bits_l0 v n) (fun i => ((i : Int), ((List.range i).map fun (i : Nat) => bitAt v (i : Int), ()))) n.toNat (r := .inl ((n.toNat : Int), (bitsR v n.toNat, ())))
  (fun i hi => by
   have hm := md64 (n := (i : Int)) (by omega)
   simp only [F_r20_Bits_l0, hm]
   rw [show eq (md (shr .u64 v (md (i : Int) 64)) 2) 1 = bitAt v (i : Int) from rfl, List.range_succ, List.map_append]
   simp only [br_def, lt_def, fits_def, decide_eq_true_eq, ad_def, app_def, len_def, List.length_map, List.length_range, List.length_singleton, if_true]
   rw [if_pos (by omega), if_pos (by omega), wr64 (by omega) (by omega)]; rfl)
  (by simp only [F_r20_Bits_l0, br_def, lt_def, decide_eq_true_eq]; rw [if_neg (by omega)]; rfl)
 unfold F_r20_Bits
 rw [show ((0 : Int), (([] : LB), ())) = ((((0 : Nat) : Int)), ((List.range 0).map fun (i : Nat) => bitAt v (i : Int), ())) from rfl, this, oj_inl]
theorem run2_wide {g : TAig} {t : LLB} (hc : chk g = 0) (hl : t.length ≤ 64) (hr : ∀ r ∈ t, (r.length : Int) = g.1) : run2 g t = ((sim2 g t (start2 g)).1, (start2 g :: (sim2 g t (start2 g)).2, 0)) := by
 unfold run2
 have : t.findSome? (wide g) = none := by
  rw [List.findSome?_eq_none_iff]
  intro r h
  unfold wide
  rw [if_pos (hr r h)]
 rw [if_neg (by omega), if_neg (by omega), this]; rfl
end Go.Proofs.YtiiancghhloalaaGreatDoor

open Go Go.AM Go.TM
namespace Go.Proofs.YtiiancghhloalaaGreatDoor
abbrev yNums : Ty := .slice (.int .u64)
def endS (g : TAig) (t : LLB) (st : LB) : LB := t.foldl (fun st inp => next2 g (all2 g inp st)) st
theorem sim2_app (g : TAig) : ∀ (a b : LLB) (st : LB), sim2 g (a ++ b) st = ((sim2 g a st).1 ++ (sim2 g b (endS g a st)).1, (sim2 g a st).2 ++ (sim2 g b (endS g a st)).2) := by
 intro a
 induction a with
 | nil => intro b st; rfl
 | cons x a ih =>
  intro b st
  have := ih b (next2 g (all2 g x st))
  show sim2 g (x :: (a ++ b)) st = _
  simp only [sim2, this, List.cons_append]
  rfl
theorem end_get (g : TAig) : ∀ (a : LLB) (st : LB), (st :: (sim2 g a st).2).getD a.length [] = endS g a st := by
 intro a
 induction a with
 | nil => intro st; rfl
 | cons x a ih =>
  intro st
  exact ih (next2 g (all2 g x st))
theorem end_len (g : TAig) : ∀ (a : LLB) (st : LB), st.length = g.2.1.length → (endS g a st).length = g.2.1.length := by
 intro a
 induction a with
 | nil => intro st h; exact h
 | cons x a ih => intro st h; exact ih _ (next2_len g _)
theorem drop_end {α : Type} (l : List α) (d : α) (k : Nat) (h : l.length = k + 1) : l.drop k = [l.getD k d] := by
 rw [getD_lt (by omega), List.drop_eq_getElem_cons (by omega), List.drop_eq_nil_of_le (by omega)]
def init2 (g : TAig) (l : List (Int × Int)) : TAig := (g.1, l, g.2.2.1, g.2.2.2)
theorem sim2_init {g : TAig} {l : List (Int × Int)} (h : l.map (·.1) = g.2.1.map (·.1)) : ∀ (t : LLB) (st : LB), sim2 (init2 g l) t st = sim2 g t st := by
 have n : ∀ b, next2 (init2 g l) b = next2 g b := fun b => by
  unfold next2 init2
  have := congrArg (List.map (of2 b)) h
  rw [List.map_map, List.map_map] at this
  exact this
 have a : ∀ inp st, all2 (init2 g l) inp st = all2 g inp st := fun _ _ => rfl
 have o : ∀ b, outs2 (init2 g l) b = outs2 g b := fun _ => rfl
 intro t
 induction t with
 | nil => intro st; rfl
 | cons x t ih => intro st; simp only [sim2, n, a, o, ih]
theorem chk_init {g : TAig} {l : List (Int × Int)} (hc : chk g = 0) (hl : l.length = g.2.1.length) (h : ∀ y ∈ l, latB g y = none) : chk (init2 g l) = 0 := by
 have e0 : fst0 (init2 g l) = fst0 g := by simp [fst0, init2, hl]
 have e1 : siz (init2 g l) = siz g := by unfold siz; rw [e0]; rfl
 have ea : andB (init2 g l) = andB g := by funext i; unfold andB; rw [e0]; rfl
 have eo : outB (init2 g l) = outB g := by funext i; unfold outB; rw [e1]
 have el : latB (init2 g l) = latB g := by funext i; unfold latB; rw [e1]
 have n : l.findSome? (latB g) = none := List.findSome?_eq_none_iff.2 h
 unfold chk at hc ⊢
 rw [e1, ea, eo, el]
 show (if g.1 < 0 then (1 : Int) else if 4096 < g.1 then 5 else if 4096 < siz g then 5 else if 4096 < (g.2.2.2.length : Int) then 5 else ((List.range g.2.2.1.length).findSome? (andB g)).elim ((l.findSome? (latB g)).elim ((g.2.2.2.findSome? (outB g)).elim 0 fun _ => 1) fun _ => 1) fun _ => 1) = 0
 split at hc
 ·cases hc
 split at hc
 ·cases hc
 split at hc
 ·cases hc
 split at hc
 ·cases hc
 obtain ⟨h1, h2⟩ := elim0 hc
 obtain ⟨-, h3⟩ := elim0 h2
 obtain ⟨h4, -⟩ := elim0 h3
 rw [if_neg ‹_›, if_neg ‹_›, if_neg ‹_›, if_neg ‹_›, h1, n, h4]
 rfl
theorem lat_bit {g : TAig} (v : AigV g) {y : Int × Int} (hy : y ∈ g.2.1) (b : Bool) : latB g (y.1, if b = true then 1 else 0) = none := by
 obtain ⟨h1, h2, -⟩ := v.lat y hy
 unfold latB litB
 cases b <;> simp [h1, h2]
def rowsOf (g : TAig) (t : LI) : LLB := (t.take 60).map fun v => bitsR v g.1.toNat
theorem rowsOf_ok {g : TAig} {l : LI} (h0 : 0 ≤ g.1) : (rowsOf g l).length ≤ 60 ∧ ∀ r ∈ rowsOf g l, (r.length : Int) = g.1 := by
 refine ⟨by simp [rowsOf]; omega, fun r hr => ?_⟩
 obtain ⟨v, -, rfl⟩ := List.mem_map.1 hr
 simp [bitsR]; omega
theorem rows_eq {g x : TAig} {l : LI} {at_ : Int} (h0 : 0 ≤ x.1) (h1 : x.1 ≤ 4096) : iterS (F_w20_AigParts_l0 g l at_ x) (0, ([], ())) = some (.inl (((l.take 60).length : Int), (rowsOf x l, ()))) := by
 have hl := List.length_take (i := 60) (l := l)
 have := iterS_upto (f := F_w20_AigParts_l0 g l at_ x) (fun i => ((i : Int), ((l.take i).map fun v => bitsR v x.1.toNat, ()))) (l.take 60).length (r := .inl (((l.take 60).length : Int), (rowsOf x l, ())))
  (fun i hi => by
   have hi' : i < l.length := by omega
   have e : (l.take (i + 1)).map (fun v => bitsR v x.1.toNat) = (l.take i).map (fun v => bitsR v x.1.toNat) ++ [bitsR l[i] x.1.toNat] := by rw [← List.take_append_getElem hi', List.map_append]; rfl
   simp only [F_w20_AigParts_l0, tn_nat, rd_lt hi', bits_eq h0 h1, ob_some, e]
   simp only [br_def, lt_def, ix_def, ni_def, fits_def, decide_eq_true_eq, ad_def, app_def, len_def, List.length_map, List.length_take, List.length_singleton]
   rw [if_pos (by omega), if_pos (by omega), if_pos (by omega), if_pos (by omega), wr64 (by omega) (by omega)]; rfl)
  (by
   have e : l.take (l.take 60).length = l.take 60 := by rw [hl, List.take_eq_take_iff]; omega
   simp only [F_w20_AigParts_l0, br_def, lt_def, ni_def, len_def, decide_eq_true_eq, e]
   by_cases q : ((l.take 60).length : Int) < l.length
   ·rw [if_pos q, if_neg (by omega)]; rfl
   ·rw [if_neg q]; rfl)
 rw [show ((0 : Int), (([] : LLB), ())) = ((((0 : Nat) : Int)), ((l.take 0).map fun v => bitsR v x.1.toNat, ())) from rfl, this]
def newI (r : List (Int × Int)) (st : LB) (i : Nat) : Int × Int := ((r.getD i (0, 0)).1, if st.getD i false = true then 1 else 0)
theorem init_loop {g x : TAig} {l : LI} {at_ : Int} {y2 : Int × (LLB × Unit)} {k : Nat} {y4 y5 : LLB × (LLB × Int)} {y6 : LB} {y7 y8 y9 : Bool} {r : List (Int × Int)} (hk : k < y5.2.1.length) (hr : r.length ≤ 4096) (hs : (y5.2.1.getD k []).length = r.length) :
  iterS (F_w20_AigParts_l1 g l at_ x y2 (k : Int) y4 y5 y6 y7 y8 y9) (0, (r, ())) = some (.inl ((r.length : Int), ((List.range r.length).map (newI r (y5.2.1.getD k [])), ()))) := by
 have hst : rd y5.2.1 k [] = y5.2.1.getD k [] := rfl
 generalize y5.2.1.getD k [] = st at hs hst
 have := iterS_upto (f := F_w20_AigParts_l1 g l at_ x y2 (k : Int) y4 y5 y6 y7 y8 y9) (fun i => ((i : Int), (mixI (newI r st) r i, ()))) r.length (r := .inl ((r.length : Int), ((List.range r.length).map (newI r st), ())))
  (fun i hi => by
   have hl := mixI_len (f := newI r st) (r := r) (i := i) (by omega)
   have hp : (put (mixI (newI r st) r i) i ((r[i]).1, 0)).length = r.length := by rw [put_def, List.length_set, hl]
   have hg : rd (put (mixI (newI r st) r i) i ((r[i]).1, 0)) i (0, 0) = ((r[i]).1, 0) := by
    rw [rd_lt (by omega), ]
    simp only [put_def]
    rw [List.getElem_set_self]
   have his : i < st.length := by omega
   simp only [F_w20_AigParts_l1, tn_nat, mixI_get hi, hst, rd_lt his, hg]
   simp only [br_def, lt_def, ix_def, ni_def, len_def, decide_eq_true_eq, ad_def, hl, hp, hst]
   rw [if_pos (by omega), if_pos (by omega), if_pos (by omega), if_pos (by omega)]
   rw [wr64 (by omega) (by omega)]
   have hf : newI r st i = ((r[i]).1, if st[i] = true then 1 else 0) := by unfold newI; rw [getD_lt hi, getD_lt his]
   by_cases hb : st[i] = true
   ·rw [if_pos hb, if_pos (by omega)]
    rw [hb, if_pos rfl] at hf
    rw [show put (put (mixI (newI r st) r i) i ((r[i]).1, 0)) i ((r[i]).1, 1) = mixI (newI r st) r (i + 1) by rw [← mixI_set hi, hf, put_def, put_def, List.set_set]]
    rfl
   ·rw [if_neg hb]
    rw [if_neg hb] at hf
    rw [show put (mixI (newI r st) r i) i ((r[i]).1, 0) = mixI (newI r st) r (i + 1) by rw [← mixI_set hi, hf]]
    rfl)
  (by
   have hl := mixI_len (f := newI r st) (r := r) (i := r.length) (by omega)
   simp only [F_w20_AigParts_l1, br_def, lt_def, ni_def, len_def, decide_eq_true_eq, hl]
   rw [if_neg (by omega), mixI_end])
 exact this
theorem cut_drop {α : Type} (l : List α) (k : Nat) : cut l (tn (k : Int)) (nsub (tn (ni (len l))) (tn (k : Int))) = l.drop k := by
 rw [tn_nat, cut_def, List.take_of_length_le]; simp
theorem parts_law (x : Tys [yAig, yNums, .int .i64]) (h : WfTs [yAig, yNums, .int .i64] x) : F_w20_AigParts x.1 x.2.1 x.2.2 = some true := by
 obtain ⟨g, t, at_⟩ := x
 obtain ⟨h1, -, -⟩ := h
 have hg := aig_len h1
 have a1 : g.2.1.length ≤ 8796093021952 := hg.1
 have a2 : g.2.2.1.length ≤ 8796093021952 := hg.2.1
 have a3 : g.2.2.2.length ≤ 17592186043904 := hg.2.2
 show F_w20_AigParts g t at_ = some true
 have ef : F_r20_Fit (g.1, (g.2.1, (g.2.2.1, g.2.2.2))) 40 = some (fit g 40) := fit_eq g (by omega) (by omega) (by omega) (by decide)
 have hc := fit_chk g (n := 40) (by decide)
 have hb := fit_B g (n := 40) (by decide)
 obtain ⟨q1, q2, q3⟩ := fit_len g 40
 have l1 : (fit g 40).2.1.length ≤ 40 := by rw [q1, List.length_take]; omega
 have l2 : (fit g 40).2.2.1.length ≤ 40 := by rw [q2, List.length_take]; omega
 have l3 : (fit g 40).2.2.2.length ≤ 40 := by rw [q3, List.length_take]; omega
 unfold F_w20_AigParts
 rw [ef, ob_some]
 generalize fit g 40 = x at hc hb l1 l2 l3
 have v := chk_ok hc
 have i0 := v.i0
 have i1 : x.1 ≤ 4096 := by have := v.sz; unfold siz fst0 at this; omega
 rw [rows_eq i0 i1, oj_inl]
 obtain ⟨w1, w2⟩ := rowsOf_ok (l := t) i0
 have hn : (t.take 60).length = (rowsOf x t).length := by simp [rowsOf]
 rw [hn]
 generalize rowsOf x t = all at w1 w2
 show ob (F_r20_Bring at_ (wr .i64 (ad (ni (len all)) 1))) _ = _
 rw [show wr .i64 (ad (ni (len all)) 1) = (all.length : Int) + 1 from wr64 (by simp; omega) (by simp; omega), bring_eq (by omega) (by omega), ob_some]
 obtain ⟨k0, k1⟩ := bring_range (x := at_) (n := (all.length : Int) + 1) (by omega)
 obtain ⟨k, hk⟩ : ∃ k : Nat, bring at_ ((all.length : Int) + 1) = (k : Int) := ⟨_, (Int.toNat_of_nonneg k0).symm⟩
 rw [hk] at k1 ⊢
 have hkl : k ≤ all.length := by omega
 have eT := List.take_append_drop k all
 have la : (all.take k).length = k := by rw [List.length_take]; omega
 have wt : ∀ r ∈ all.take k, (r.length : Int) = x.1 := fun r hr => w2 r (List.mem_of_mem_take hr)
 have wd : ∀ r ∈ all.drop k, (r.length : Int) = x.1 := fun r hr => w2 r (List.mem_of_mem_drop hr)
 have r1 := run2_wide hc (by omega : all.length ≤ 64) w2
 have r2 := run2_wide (t := all.take k) hc (by omega) wt
 have sp := sim2_app x (all.take k) (all.drop k) (start2 x)
 rw [eT] at sp
 obtain ⟨sa1, sa2, sa3, sa4⟩ := sim2_len x (all.take k) (start2 x)
 have hend := end_get x (all.take k) (start2 x)
 have hel := end_len x (all.take k) (start2 x) (start2_len x)
 obtain ⟨sb1, sb2, sb3, sb4⟩ := sim2_len x (all.drop k) (endS x (all.take k) (start2 x))
 rw [la] at hend sa1 sa2
 have lb : (all.drop k).length = all.length - k := List.length_drop
 rw [lb] at sb1 sb2
 simp only [show ((((t.take 60).length : Int), (all, ())) : Int × (LLB × Unit)).2.1 = all from rfl]
 have e1 : F_aig_Run (x.1, (x.2.1, (x.2.2.1, x.2.2.2))) all = some (run2 x all) := run_prog hb all
 have e2 : F_aig_Run (x.1, (x.2.1, (x.2.2.1, x.2.2.2))) (all.take k) = some (run2 x (all.take k)) := run_prog hb _
 have e3 : F_aig_Start (x.1, (x.2.1, (x.2.2.1, x.2.2.2))) = some (start2 x) := start_prog hc hb
 have ct : cut all 0 (tn (k : Int)) = all.take k := by rw [tn_nat, cut_eq]
 have cd : cut all (tn (k : Int)) (nsub (tn (ni (len all))) (tn (k : Int))) = all.drop k := by
  rw [tn_nat, cut_def, List.take_of_length_le]; simp
 show ob (F_aig_Run (x.1, (x.2.1, (x.2.2.1, x.2.2.2))) all) _ = _
 rw [e1, ob_some, br_def, if_pos (show rg 0 (k : Int) (ni (len all)) = true by simp only [rg_def, ni_def, len_def, decide_eq_true_eq]; omega)]
 show ob (F_aig_Run (x.1, (x.2.1, (x.2.2.1, x.2.2.2))) (cut all 0 (tn (k : Int)))) _ = _
 rw [ct, e2, ob_some, r1, r2, sp]
 generalize hA : sim2 x (all.take k) (start2 x) = A at sa1 sa2 sa3 sa4 hend
 generalize hE : endS x (all.take k) (start2 x) = E at hend hel sb1 sb2 sb3 sb4
 generalize hB : sim2 x (all.drop k) E = B at sb1 sb2 sb3 sb4
 have z0 : (start2 x).length = x.2.1.length := start2_len x
 have rows2 : ∀ r ∈ start2 x :: A.2, r.length ≤ 4096 := fun r hr => by
  rcases List.mem_cons.1 hr with e | e
  ·subst e; omega
  ·have := sa4 r e; omega
 have eb : F_r20_EqBools (start2 x) (start2 x) = some true := by rw [EqBools_eq _ _ (by omega)]; simp
 have es1 : F_r20_EqStates (start2 x :: A.2) (start2 x :: A.2) = some true := by
  rw [EqStates_eq _ _ (by simp; omega) (fun r hr => by have := rows2 r hr; omega)]; simp
 have es2 : F_r20_EqStates A.1 A.1 = some true := by
  rw [EqStates_eq _ _ (by omega) (fun r hr => by have := sa3 r hr; omega)]; simp
 have es3 : F_r20_EqStates B.1 B.1 = some true := by
  rw [EqStates_eq _ _ (by omega) (fun r hr => by have := sb3 r hr; omega)]; simp
 have es4 : F_r20_EqStates (E :: B.2) (E :: B.2) = some true := by
  rw [EqStates_eq _ _ (by simp; omega) (fun r hr => by
   rcases List.mem_cons.1 hr with e | e
   ·subst e; omega
   ·have := sb4 r e; omega)]; simp
 have t1 : cut (start2 x :: (A.2 ++ B.2)) 0 (tn (wr .i64 (ad (k : Int) 1))) = start2 x :: A.2 := by
  rw [show wr .i64 (ad (k : Int) 1) = ((k + 1 : Nat) : Int) from wr64 (by simp; omega) (by simp; omega), tn_nat, cut_eq, List.take_succ_cons, List.take_left' sa2]
 have t2 : cut (A.1 ++ B.1) 0 (tn (k : Int)) = A.1 := by rw [tn_nat, cut_eq, List.take_left' sa1]
 have t3 : cut (A.1 ++ B.1) (tn (k : Int)) (nsub (tn (ni (len (A.1 ++ B.1)))) (tn (k : Int))) = B.1 := by
  rw [cut_drop, List.drop_left' sa1]
 have t4 : cut (start2 x :: (A.2 ++ B.2)) (tn (k : Int)) (nsub (tn (ni (len (start2 x :: (A.2 ++ B.2))))) (tn (k : Int))) = E :: B.2 := by
  rw [cut_drop, show start2 x :: (A.2 ++ B.2) = (start2 x :: A.2) ++ B.2 from rfl, List.drop_append_of_le_length (by simp [sa2]), drop_end _ [] k (by simp [sa2]), hend]
  rfl
 have hil : (List.range x.2.1.length).map (newI x.2.1 E) = (List.range x.2.1.length).map (newI x.2.1 E) := rfl
 have hlen : ((List.range x.2.1.length).map (newI x.2.1 E)).length = x.2.1.length := by simp
 have hfst : ((List.range x.2.1.length).map (newI x.2.1 E)).map (·.1) = x.2.1.map (·.1) := by
  rw [List.map_map]
  refine List.ext_getElem (by simp) fun i p q => ?_
  have hi : i < x.2.1.length := by simpa using q
  simp only [List.getElem_map, List.getElem_range, Function.comp, newI, getD_lt hi]
 have hsnd : start2 (init2 x ((List.range x.2.1.length).map (newI x.2.1 E))) = E := by
  show ((List.range x.2.1.length).map (newI x.2.1 E)).map (fun l => decide (l.2 = 1)) = E
  rw [List.map_map]
  refine List.ext_getElem (by simp [hel]) fun i p q => ?_
  simp only [List.getElem_map, List.getElem_range, Function.comp, newI, getD_lt q]
  cases E[i] <;> rfl
 have hci : chk (init2 x ((List.range x.2.1.length).map (newI x.2.1 E))) = 0 := chk_init hc hlen fun y hy => by
  obtain ⟨i, hi, rfl⟩ := List.mem_map.1 hy
  have hi : i < x.2.1.length := by simpa using hi
  unfold newI
  rw [getD_lt hi]
  exact lat_bit v (List.getElem_mem hi) _
 have hbi : AigB (init2 x ((List.range x.2.1.length).map (newI x.2.1 E))) := ⟨by show ((List.range x.2.1.length).map (newI x.2.1 E)).length ≤ _; rw [hlen]; omega, by show x.2.2.1.length ≤ _; omega, by show x.2.2.2.length ≤ _; omega⟩
 have e5 : F_aig_Run (x.1, ((List.range x.2.1.length).map (newI x.2.1 E), (x.2.2.1, x.2.2.2))) (all.drop k) = some (B.1, (E :: B.2, 0)) := by
  have e := run_prog hbi (all.drop k)
  rw [run2_wide hci (by omega) wd, hsnd, sim2_init hfst, hB] at e
  exact e
 have lp := init_loop (g := g) (x := x) (l := t) (at_ := at_) (y2 := ((all.length : Int), (all, ()))) (k := k) (y4 := (A.1 ++ B.1, (start2 x :: (A.2 ++ B.2), 0))) (y5 := (A.1, (start2 x :: A.2, 0))) (y6 := start2 x) (y7 := true) (y8 := true) (y9 := true) (r := x.2.1) (by simp [sa2]) (by omega) (by
  show ((start2 x :: A.2).getD k []).length = _
  rw [hend, hel])
 rw [show ((A.1, (start2 x :: A.2, 0)) : LLB × (LLB × Int)).2.1.getD k [] = E from hend] at lp
 have c1 : wr .i64 (ad (ni (len all)) 1) = (all.length : Int) + 1 := wr64 (by simp; omega) (by simp; omega)
 have c2 : wr .i64 (ad (k : Int) 1) = (k : Int) + 1 := wr64 (by simp; omega) (by simp; omega)
 have ll : len (start2 x :: (A.2 ++ B.2)) = all.length + 1 := by simp only [len_def, List.length_cons, List.length_append, sa2, sb2]; omega
 have lA : len (start2 x :: A.2) = k + 1 := by simp only [len_def, List.length_cons, sa2]
 have lo : len (A.1 ++ B.1) = all.length := by simp only [len_def, List.length_append, sa1, sb1]; omega
 have f1 : fits 0 (len x.2.1) 8796093022208 = true := by simp only [fits_def, len_def, decide_eq_true_eq]; omega
 have f2 : fits 0 (len x.2.2.1) 8796093022208 = true := by simp only [fits_def, len_def, decide_eq_true_eq]; omega
 have f3 : fits 0 (len x.2.2.2) 17592186044416 = true := by simp only [fits_def, len_def, decide_eq_true_eq]; omega
 have b1 : ne (ni (len (start2 x :: (A.2 ++ B.2)))) ((all.length : Int) + 1) = false := by rw [ll, ne_def, ni_def]; exact decide_eq_false (by omega)
 have b2 : ne (ni (len (start2 x :: A.2))) (wr .i64 (ad (k : Int) 1)) = false := by rw [c2, lA, ne_def, ni_def]; exact decide_eq_false (by omega)
 have b3 : ix 0 (ni (len (start2 x :: (A.2 ++ B.2)))) = true := by rw [ll, ix_def, ni_def]; exact decide_eq_true (by omega)
 have b4 : rg 0 (wr .i64 (ad (k : Int) 1)) (ni (len (start2 x :: (A.2 ++ B.2)))) = true := by rw [c2, ll, rg_def, ni_def]; exact decide_eq_true (by omega)
 have b5 : rg 0 (k : Int) (ni (len (A.1 ++ B.1))) = true := by rw [lo, rg_def, ni_def]; exact decide_eq_true (by omega)
 have b6 : rg (k : Int) (ni (len all)) (ni (len all)) = true := by rw [rg_def, ni_def, len_def]; exact decide_eq_true (by omega)
 have b7 : rg (k : Int) (ni (len (A.1 ++ B.1))) (ni (len (A.1 ++ B.1))) = true := by rw [lo, rg_def, ni_def]; exact decide_eq_true (by omega)
 have b8 : rg (k : Int) (ni (len (start2 x :: (A.2 ++ B.2)))) (ni (len (start2 x :: (A.2 ++ B.2)))) = true := by rw [ll, rg_def, ni_def]; exact decide_eq_true (by omega)
 have n0 : ne 0 0 = false := rfl
 have q0 : eq 0 0 = true := rfl
 have rd0 : rd (start2 x :: (A.2 ++ B.2)) (tn 0) [] = start2 x := rfl
 have T : ∀ {R : Type} (u w : Option R), br true u w = u := fun _ _ => rfl
 have F : ∀ {R : Type} (u w : Option R), br false u w = w := fun _ _ => rfl
 simp only [n0, F, T, b1, b2, b3, e3, ob_some, rd0, eb, show nt true = false from rfl, b4, t1, es1, b5, t2, es2, f1, f2, f3, lp]
 erw [oj_inl]
 simp only [b6, T, cd, e5, ob_some, q0, b7, t3, es3, b8, t4, es4, F_w20_awake]
end Go.Proofs.YtiiancghhloalaaGreatDoor
