/- Plain laws of the chapter's functions. -/
import Derived.Test.YtiiancghhloalaaGreatDoorD20
import Derived.Test.YtiiancghhloalaaGreatDoorPl
set_option linter.unusedSectionVars false
set_option linter.unusedSimpArgs false
set_option linter.unusedVariables false

open Go Go.AM Go.TM
namespace Go.Proofs.YtiiancghhloalaaGreatDoor
theorem find_ne {α : Type} [DecidableEq α] {a b : List α} (h : a.length = b.length) {R : Type} (r : R) :
  (List.range a.length).findSome? (fun i => if a[i]? = b[i]? then none else some r) = if a = b then none else some r := by
 split
 ·rename_i e; subst e
  simp
 ·rename_i e
  cases hf : (List.range a.length).findSome? (fun i => if a[i]? = b[i]? then none else some r) with
  | none =>
   refine absurd (List.ext_getElem? fun i => ?_) e
   rw [List.findSome?_eq_none_iff] at hf
   by_cases hi : i < a.length
   ·have := hf i (by simpa using hi)
    by_cases q : a[i]? = b[i]?
    ·exact q
    ·simp [q] at this
   ·rw [List.getElem?_eq_none (by omega), List.getElem?_eq_none (by omega)]
  | some x =>
   obtain ⟨l1, i, l2, -, h2, -⟩ := List.findSome?_eq_some_iff.1 hf
   split at h2
   ·cases h2
   ·cases h2; rfl
theorem foldl_snoc {α β : Type} (f : α → β) (l : List α) (out : List β) : l.foldl (fun out x => out ++ [f x]) out = out ++ l.map f := by
 induction l generalizing out with
 | nil => simp
 | cons x l ih => simp [ih]
theorem EqBools_eq (a b : LB) (h : a.length ≤ 140737488355328) : F_r20_EqBools a b = some (decide (a = b)) := by
 unfold F_r20_EqBools
 simp only [br_def, ne_def, ni_def, len_def, decide_eq_true_eq]
 split
 ·rename_i hne
  rw [decide_eq_false (by intro e; subst e; exact hne rfl)]
 ·rename_i hne
  have hlen : a.length = b.length := by omega
  have outer := iterS_findR (f := F_r20_EqBools_l0 a b) a.length (fun i => ((i : Int), ())) (fun i => if a[i]? = b[i]? then none else some ()) (.inl ((a.length : Int), ())) (fun _ => .inr false)
   (fun i hi => by
    have hb : i < b.length := by omega
    simp (disch := omega) only [F_r20_EqBools_l0, br_def, lt_def, ni_def, len_def, ix_def, tn_nat, rd_lt hi, rd_lt hb, ad_def, inR_some', decide_eq_true_eq, List.getElem?_eq_getElem hi, List.getElem?_eq_getElem hb]
    rw [if_pos (by omega), if_pos (by omega), if_pos (by omega), wr64 (by omega) (by omega)]
    cases a[i] <;> cases b[i] <;> simp)
   (by simp [F_r20_EqBools_l0, br_def, lt_def, ni_def, len_def])
  rw [find_ne hlen] at outer
  rw [show ((0 : Int), ()) = (((0 : Nat) : Int), ()) from rfl, outer]
  by_cases e : a = b
  ·simp [e, oj_inl]
  ·simp [e, oj_inr]
end Go.Proofs.YtiiancghhloalaaGreatDoor

open Go Go.AM Go.TM
namespace Go.Proofs.YtiiancghhloalaaGreatDoor
def AigB (g : TAig) : Prop := g.2.1.length ≤ 140737488355328 ∧ g.2.2.1.length ≤ 140737488355328 ∧ g.2.2.2.length ≤ 140737488355328
def fst0 (g : TAig) : Int := 1 + g.1 + g.2.1.length
def siz (g : TAig) : Int := fst0 g + g.2.2.1.length
def litB (x n : Int) : Bool := decide (0 ≤ x ∧ x < 2 * n)
def andB (g : TAig) (i : Nat) : Option Unit := if litB (g.2.2.1.getD i (0, 0)).1 (fst0 g + i) && litB (g.2.2.1.getD i (0, 0)).2 (fst0 g + i) then none else some ()
def latB (g : TAig) (x : Int × Int) : Option Unit := if litB x.1 (siz g) && decide (x.2 ≤ 1) then none else some ()
def outB (g : TAig) (x : Int) : Option Unit := if litB x (siz g) then none else some ()
def chk (g : TAig) : Int :=
 if g.1 < 0 then 1 else if 4096 < g.1 then 5 else if 4096 < siz g then 5 else if 4096 < (g.2.2.2.length : Int) then 5 else
 ((List.range g.2.2.1.length).findSome? (andB g)).elim ((g.2.1.findSome? (latB g)).elim ((g.2.2.2.findSome? (outB g)).elim 0 fun _ => 1) fun _ => 1) fun _ => 1

theorem F_aig_first_eq (g : TAig) (h : AigB g) (h0 : 0 ≤ g.1) (h1 : g.1 ≤ 4096) : F_aig_first g = some (fst0 g) := by
 obtain ⟨a, b, c⟩ := h
 simp (disch := omega) [F_aig_first, wr64, fst0]
theorem F_aig_size_eq (g : TAig) (h : AigB g) (h0 : 0 ≤ g.1) (h1 : g.1 ≤ 4096) : F_aig_size g = some (siz g) := by
 have e : F_aig_first (g.1, (g.2.1, (g.2.2.1, g.2.2.2))) = some (fst0 g) := F_aig_first_eq g h h0 h1
 obtain ⟨a, b, c⟩ := h
 have : fst0 g = 1 + g.1 + g.2.1.length := rfl
 simp (disch := omega) [F_aig_size, e, wr64, siz]
theorem F_aig_Check_1_eq (x n : Int) (h : -4611686018427387904 ≤ n) (h2 : n ≤ 4611686018427387903) : F_aig_Check_1 x n = some (litB x n) := by
 unfold F_aig_Check_1 litB
 by_cases e : 0 ≤ x <;> simp (disch := omega) [e, wr64]
theorem F_aig_Check_eq (g : TAig) (h : AigB g) : F_aig_Check g = some (chk g) := by
 unfold F_aig_Check chk
 simp only [br_def, lt_def, decide_eq_true_eq]
 by_cases h0 : g.1 < 0
 ·simp [h0]
 rw [if_neg h0, if_neg h0]
 by_cases h1 : 4096 < g.1
 ·simp [h1]
 rw [if_neg h1, if_neg h1, show F_aig_size (g.1, (g.2.1, (g.2.2.1, g.2.2.2))) = some (siz g) from F_aig_size_eq g h (by omega) (by omega), ob_some]
 by_cases h2 : 4096 < siz g
 ·simp [h2]
 rw [if_neg h2, if_neg h2]
 by_cases h3 : 4096 < (g.2.2.2.length : Int)
 ·simp [h3]
 rw [if_neg (by simpa using h3), if_neg h3]
 have hs : siz g = fst0 g + g.2.2.1.length := rfl
 have hf : fst0 g = 1 + g.1 + g.2.1.length := rfl
 have e89 : F_aig_first (g.1, (g.2.1, (g.2.2.1, g.2.2.2))) = some (fst0 g) := F_aig_first_eq g h (by omega) (by omega)
 have e87 : F_aig_size (g.1, (g.2.1, (g.2.2.1, g.2.2.2))) = some (siz g) := F_aig_size_eq g h (by omega) (by omega)
 have l0 := iterS_findR (f := F_aig_Check_l0 g (siz g)) g.2.2.1.length (fun i => ((i : Int), ())) (andB g) (.inl ((g.2.2.1.length : Int), ())) (fun _ => .inr 1)
  (fun i hi => by
   have q1 : F_aig_Check_1 (g.2.2.1[i]).1 (fst0 g + i) = some (litB (g.2.2.1[i]).1 (fst0 g + i)) := F_aig_Check_1_eq _ _ (by omega) (by omega)
   have q2 : F_aig_Check_1 (g.2.2.1[i]).2 (fst0 g + i) = some (litB (g.2.2.1[i]).2 (fst0 g + i)) := F_aig_Check_1_eq _ _ (by omega) (by omega)
   simp (disch := omega) [F_aig_Check_l0, rd_lt hi, hi, e89, wr64, q1, q2, andB]
   cases litB (g.2.2.1[i]).1 (fst0 g + i) <;> cases litB (g.2.2.1[i]).2 (fst0 g + i) <;> simp)
  (by simp [F_aig_Check_l0])
 have l1 := iterS_find (f := F_aig_Check_l1 g (siz g) ((g.2.2.1.length : Int), ())) g.2.1 (fun i => ((i : Int), ())) (latB g) (.inl ((g.2.1.length : Int), ())) (fun _ => .inr 1)
  (fun i hi => by
   have q1 : F_aig_Check_1 (g.2.1[i]).1 (siz g) = some (litB (g.2.1[i]).1 (siz g)) := F_aig_Check_1_eq _ _ (by omega) (by omega)
   simp (disch := omega) [F_aig_Check_l1, rd_lt hi, hi, e87, wr64, q1, latB]
   cases litB (g.2.1[i]).1 (siz g) <;> by_cases q : (g.2.1[i]).2 ≤ 1 <;> simp [q] <;> omega)
  (by simp [F_aig_Check_l1])
 have l2 := iterS_find (f := F_aig_Check_l2 g (siz g) ((g.2.2.1.length : Int), ()) ((g.2.1.length : Int), ())) g.2.2.2 (fun i => ((i : Int), ())) (outB g) (.inl ((g.2.2.2.length : Int), ())) (fun _ => .inr 1)
  (fun i hi => by
   have q1 : F_aig_Check_1 (g.2.2.2[i]) (siz g) = some (litB (g.2.2.2[i]) (siz g)) := F_aig_Check_1_eq _ _ (by omega) (by omega)
   simp (disch := omega) [F_aig_Check_l2, rd_lt hi, hi, e87, wr64, q1, outB]
   cases litB (g.2.2.2[i]) (siz g) <;> simp)
  (by simp [F_aig_Check_l2])
 rw [show ((0 : Int), ()) = (((0 : Nat) : Int), ()) from rfl, l0]
 cases (List.range g.2.2.1.length).findSome? (andB g) with
 | some _ => rfl
 | none =>
  simp only [Option.elim_none]
  rw [oj_inl, l1]
  cases g.2.1.findSome? (latB g) with
  | some _ => rfl
  | none =>
   simp only [Option.elim_none]
   rw [oj_inl, l2]
   cases g.2.2.2.findSome? (outB g) <;> rfl
theorem F_r20_Nodes_eq (g : TAig) (h : AigB g) (h0 : 0 ≤ g.1) (h1 : g.1 ≤ 4096) : F_r20_Nodes g = some (siz g) := by
 obtain ⟨a, b, c⟩ := h
 simp (disch := omega) [F_r20_Nodes, wr64, siz, fst0]
theorem F_r20_Check_eq (g : TAig) (h : AigB g) : F_r20_Check g = some (chk g) := by
 unfold F_r20_Check chk
 simp only [br_def, lt_def, decide_eq_true_eq]
 by_cases h0 : g.1 < 0
 ·simp [h0]
 rw [if_neg h0, if_neg h0]
 by_cases h1 : 4096 < g.1
 ·simp [h1]
 have hs : siz g = fst0 g + g.2.2.1.length := rfl
 have hf : fst0 g = 1 + g.1 + g.2.1.length := rfl
 rw [if_neg h1, if_neg h1]
 by_cases h4 : 4096 < (g.2.1.length : Int)
 ·rw [if_pos (by simpa using h4), if_pos (by omega)]
 rw [if_neg (by simpa using h4)]
 by_cases h5 : 4096 < (g.2.2.1.length : Int)
 ·rw [if_pos (by simpa using h5), if_pos (by omega)]
 have e70 : F_r20_Nodes (g.1, (g.2.1, (g.2.2.1, g.2.2.2))) = some (siz g) := F_r20_Nodes_eq g h (by omega) (by omega)
 rw [if_neg (by simpa using h5), e70, ob_some]
 by_cases h2 : 4096 < siz g
 ·simp [h2]
 rw [if_neg h2, if_neg h2]
 by_cases h3 : 4096 < (g.2.2.2.length : Int)
 ·simp [h3]
 rw [if_neg (by simpa using h3), if_neg h3]
 have l0 := iterS_findR (f := F_r20_Check_l0 g (siz g)) g.2.2.1.length (fun i => ((i : Int), ())) (andB g) (.inl ((g.2.2.1.length : Int), ())) (fun _ => .inr 1)
  (fun i hi => by
   simp (disch := omega) [F_r20_Check_l0, rd_lt hi, hi, wr64, andB, litB, ← hf]
   by_cases a1 : (g.2.2.1[i]).1 < 0
   ·rw [if_pos a1, if_neg (by omega)]; rfl
   rw [if_neg a1]
   by_cases a2 : 2 * (fst0 g + i) ≤ (g.2.2.1[i]).1
   ·rw [if_pos a2, if_neg (by omega)]; rfl
   rw [if_neg a2]
   by_cases a3 : (g.2.2.1[i]).2 < 0
   ·rw [if_pos a3, if_neg (by omega)]; rfl
   rw [if_neg a3]
   by_cases a4 : 2 * (fst0 g + i) ≤ (g.2.2.1[i]).2
   ·rw [if_pos a4, if_neg (by omega)]; rfl
   rw [if_neg a4, if_pos (by omega)]; rfl)
  (by simp [F_r20_Check_l0])
 have l1 := iterS_find (f := F_r20_Check_l1 g (siz g) ((g.2.2.1.length : Int), ()) (siz g)) g.2.1 (fun i => ((i : Int), ())) (latB g) (.inl ((g.2.1.length : Int), ())) (fun _ => .inr 1)
  (fun i hi => by
   simp (disch := omega) [F_r20_Check_l1, rd_lt hi, hi, wr64, latB, litB]
   by_cases a1 : (g.2.1[i]).1 < 0
   ·rw [if_pos a1, if_neg (by omega)]; rfl
   rw [if_neg a1]
   by_cases a2 : 2 * siz g ≤ (g.2.1[i]).1
   ·rw [if_pos a2, if_neg (by omega)]; rfl
   rw [if_neg a2]
   by_cases a3 : 1 < (g.2.1[i]).2
   ·rw [if_pos a3, if_neg (by omega)]; rfl
   rw [if_neg a3, if_pos (by omega)]; rfl)
  (by simp [F_r20_Check_l1])
 have l2 := iterS_find (f := F_r20_Check_l2 g (siz g) ((g.2.2.1.length : Int), ()) (siz g) ((g.2.1.length : Int), ())) g.2.2.2 (fun i => ((i : Int), ())) (outB g) (.inl ((g.2.2.2.length : Int), ())) (fun _ => .inr 1)
  (fun i hi => by
   simp (disch := omega) [F_r20_Check_l2, rd_lt hi, hi, wr64, outB, litB]
   by_cases a1 : (g.2.2.2[i]) < 0
   ·rw [if_pos a1, if_neg (by omega)]; rfl
   rw [if_neg a1]
   by_cases a2 : 2 * siz g ≤ (g.2.2.2[i])
   ·rw [if_pos a2, if_neg (by omega)]; rfl
   rw [if_neg a2, if_pos (by omega)]; rfl)
  (by simp [F_r20_Check_l2])
 rw [show ((0 : Int), ()) = (((0 : Nat) : Int), ()) from rfl, l0]
 cases (List.range g.2.2.1.length).findSome? (andB g) with
 | some _ => rfl
 | none =>
  simp only [Option.elim_none]
  rw [oj_inl, ob_some, l1]
  cases g.2.1.findSome? (latB g) with
  | some _ => rfl
  | none =>
   simp only [Option.elim_none]
   rw [oj_inl, l2]
   cases g.2.2.2.findSome? (outB g) <;> rfl
structure AigV (g : TAig) : Prop where
 i0 : 0 ≤ g.1
 sz : siz g ≤ 4096
 outs : g.2.2.2.length ≤ 4096
 and : ∀ (i : Nat) (h : i < g.2.2.1.length), 0 ≤ (g.2.2.1[i]).1 ∧ (g.2.2.1[i]).1 < 2 * (fst0 g + i) ∧ 0 ≤ (g.2.2.1[i]).2 ∧ (g.2.2.1[i]).2 < 2 * (fst0 g + i)
 lat : ∀ x ∈ g.2.1, 0 ≤ x.1 ∧ x.1 < 2 * siz g ∧ x.2 ≤ 1
 out : ∀ x ∈ g.2.2.2, 0 ≤ x ∧ x < 2 * siz g
theorem elim0 {o : Option Unit} {a : Int} (h : o.elim a (fun _ => 1) = 0) : o = none ∧ a = 0 := by
 cases o with
 | none => exact ⟨rfl, h⟩
 | some _ => cases h
theorem chk_ok {g : TAig} (h : chk g = 0) : AigV g := by
 unfold chk at h
 split at h
 ·cases h
 split at h
 ·cases h
 split at h
 ·cases h
 split at h
 ·cases h
 obtain ⟨h1, h⟩ := elim0 h
 obtain ⟨h2, h⟩ := elim0 h
 obtain ⟨h3, -⟩ := elim0 h
 refine ⟨by omega, by omega, by omega, fun i hi => ?_, fun x hx => ?_, fun x hx => ?_⟩
 ·have := List.findSome?_eq_none_iff.1 h1 i (by simpa using hi)
  unfold andB litB at this
  rw [getD_lt hi] at this
  simp at this
  exact this
 ·have := List.findSome?_eq_none_iff.1 h2 x hx
  unfold latB litB at this
  simp at this
  exact this
 ·have := List.findSome?_eq_none_iff.1 h3 x hx
  unfold outB litB at this
  simp at this
  exact this
end Go.Proofs.YtiiancghhloalaaGreatDoor

open Go Go.AM Go.TM
namespace Go.Proofs.YtiiancghhloalaaGreatDoor
abbrev yAig : Ty := .st (.pair (.int .i64) (.pair (.slice (.st (.pair (.int .i64) (.int .u8)))) (.pair (.slice (.st (.pair (.int .i64) (.int .i64)))) (.slice (.int .i64)))))
abbrev yTrace : Ty := .slice (.slice .bool)
theorem cut_eq {α : Type} (l : List α) (n : Nat) : cut l 0 n = l.take n := by simp
theorem mn_take {α : Type} (l : List α) (n : Nat) : cut l 0 (tn (mn (ni (len l)) n)) = l.take n := by
 rw [cut_eq]
 simp only [mn_def, ni_def, len_def, tn_def]
 split
 ·rw [show ((n : Nat) : Int).toNat = n from Int.toNat_natCast n]
 ·rw [Int.toNat_natCast, List.take_length, List.take_of_length_le (by omega)]
theorem mn_rg {α : Type} (l : List α) (n : Nat) : rg 0 (mn (ni (len l)) n) (ni (len l)) = true := by
 simp only [rg_def, mn_def, ni_def, len_def, decide_eq_true_eq]
 split <;> omega
def small (g : TAig) (n : Nat) : TAig := (g.1, g.2.1.take n, g.2.2.1.take n, g.2.2.2.take n)
theorem small_B (g : TAig) (n : Nat) (h : n ≤ 140737488355328) : AigB (small g n) := by
 refine ⟨?_, ?_, ?_⟩ <;> simp [small] <;> omega
theorem aig_len {g : TAig} (h : WfT yAig g) : g.2.1.length ≤ 8796093021952 ∧ g.2.2.1.length ≤ 8796093021952 ∧ g.2.2.2.length ≤ 17592186043904 := by
 obtain ⟨-, h1, h2, h3⟩ := h
 have h1 := h1.1
 have h2 := h2.1
 have h3 := h3.1
 simp [Ty.bytes, Ty.ends, Ty.align, kindBytes, IntKind.bits, up] at h1 h2 h3
 omega
theorem small_eq (g : TAig) (h1 : g.2.1.length ≤ 8796093022208) (h2 : g.2.2.1.length ≤ 8796093022208) (h3 : g.2.2.2.length ≤ 17592186044416) (n : Nat) : F_r20_Small g (n : Int) = some (small g n) := by
 have e : F_r20_Copy g = some g := by
  unfold F_r20_Copy
  simp only [br_def, fits_def, len_def, decide_eq_true_eq]
  rw [if_pos (by omega), if_pos (by omega), if_pos (by omega)]
 unfold F_r20_Small
 rw [show F_r20_Copy (g.1, (g.2.1, (g.2.2.1, g.2.2.2))) = some g from e, ob_some]
 simp only [mn_rg, mn_take]
 rfl
end Go.Proofs.YtiiancghhloalaaGreatDoor

open Go Go.AM Go.TM
namespace Go.Proofs.YtiiancghhloalaaGreatDoor
def of2 (b : LB) (x : Int) : Bool := b.getD (x / 2).toNat false != decide (x % 2 = 1)
def step2 (b : LB) (x : Int × Int) : LB := b ++ [of2 b x.1 && of2 b x.2]
def all2 (g : TAig) (inp st : LB) : LB := g.2.2.1.foldl step2 (([false] ++ inp) ++ st)
def outs2 (g : TAig) (b : LB) : LB := g.2.2.2.map (of2 b)
def next2 (g : TAig) (b : LB) : LB := g.2.1.map fun l => of2 b l.1
def start2 (g : TAig) : LB := g.2.1.map fun l => decide (l.2 = 1)
theorem of_prog {b : LB} {x : Int} (h0 : 0 ≤ x) (h1 : x / 2 < b.length) (h2 : x ≤ 9223372036854775807) : F_aig_values_of b x = some (of2 b x) := by
 have hi : (x / 2).toNat < b.length := by omega
 unfold F_aig_values_of
 simp only [eq_def, shr1, band1 h0 h2, br_def, ix_def, ni_def, len_def, decide_eq_true_eq, tn_def, rd_lt hi, nt_def, bq_def]
 rw [if_pos (by omega)]
 unfold of2
 rw [getD_lt hi]; rfl
theorem of_ref {b : LB} {x : Int} (h0 : 0 ≤ x) (h1 : x / 2 < b.length) (h2 : x ≤ 9223372036854775807) : F_r20_of b x = some (of2 b x) := by
 have hi : (x / 2).toNat < b.length := by omega
 unfold F_r20_of
 simp only [eq_def, dv2 h0 h2, md2 h0, br_def, ix_def, ni_def, len_def, decide_eq_true_eq, tn_def, rd_lt hi, nt_def, bq_def]
 rw [if_pos (by omega)]
 unfold of2
 rw [getD_lt hi]; rfl
def ValsI (g : TAig) (i : Nat) (b : LB) : Prop := (b.length : Int) = fst0 g + i
theorem ValsI.step {g : TAig} {i : Nat} {b : LB} (h : ValsI g i b) (x : Int × Int) : ValsI g (i + 1) (step2 b x) := by
 unfold ValsI at *
 simp only [step2, List.length_append, List.length_singleton]; omega
theorem ValsI.all {g : TAig} : ∀ (l : List (Int × Int)) (i : Nat) (b : LB), ValsI g i b → ValsI g (i + l.length) (l.foldl step2 b) := by
 intro l
 induction l with
 | nil => intro i b h; exact h
 | cons x l ih => intro i b h; have := ih (i + 1) _ (h.step x); rw [show i + (x :: l).length = i + 1 + l.length by simp; omega]; exact this
theorem vals0 {g : TAig} {inp st : LB} (h1 : (inp.length : Int) = g.1) (h3 : st.length = g.2.1.length) : ValsI g 0 (([false] ++ inp) ++ st) := by
 have hf : fst0 g = 1 + g.1 + g.2.1.length := rfl
 unfold ValsI
 simp only [List.length_append, List.length_singleton]; omega
theorem vals_end {g : TAig} {inp st : LB} (h : ValsI g 0 (([false] ++ inp) ++ st)) : ((all2 g inp st).length : Int) = siz g := by
 have := ValsI.all g.2.2.1 0 _ h
 rw [Nat.zero_add] at this
 exact this
theorem all_prog {g : TAig} (v : AigV g) (hb : AigB g) {inp st : LB} (h1 : (inp.length : Int) = g.1) (h3 : st.length = g.2.1.length) : F_aig_all g inp st = some (all2 g inp st) := by
 have hs : siz g = fst0 g + g.2.2.1.length := rfl
 have hf : fst0 g = 1 + g.1 + g.2.1.length := rfl
 have vs := v.sz
 have v0 := v.i0
 obtain ⟨b1, b2, b3⟩ := hb
 have l := iterS_fold (f := F_aig_all_l0 g inp st (siz g)) g.2.2.1 (fun i b => ((i : Int), b, ())) step2 (fun out => .inl ((g.2.2.1.length : Int), out, ())) (ValsI g)
  (fun i b hi ho => by
   refine ⟨?_, ho.step _⟩
   have ho : (b.length : Int) = fst0 g + i := ho
   obtain ⟨a1, a2, a3, a4⟩ := v.and i hi
   have e : b.length + 1 ≤ 140737488355328 := by omega
   have q1 := of_prog (b := b) a1 (by omega) (by omega)
   have q2 := of_prog (b := b) a3 (by omega) (by omega)
   simp (disch := omega) only [F_aig_all_l0, br_def, lt_def, ni_def, len_def, ix_def, tn_nat, rd_lt hi, q1, q2, ob_some, fits_def, ad_def, wr64, app_def, decide_eq_true_eq, List.length_singleton, e, if_true]
   rw [if_pos (by omega), if_pos (by omega)]
   unfold step2
   cases of2 b (g.2.2.1[i]).1 <;> rfl)
  (fun out ho => by simp [F_aig_all_l0]) (vals0 h1 h3)
 unfold F_aig_all
 rw [show F_aig_size (g.1, (g.2.1, (g.2.2.1, g.2.2.2))) = some (siz g) from F_aig_size_eq g ⟨b1, b2, b3⟩ v.i0 (by omega), ob_some]
 simp only [br_def, rg_def, le_def, ml_def, fits_def, len_def, rept_def, app_def, decide_eq_true_eq, show tn 1 = 1 from rfl, List.replicate_one, List.length_append, List.length_singleton]
 rw [if_pos (by omega), if_pos (by omega), if_pos (by omega), if_pos (by omega), if_pos (by omega), show ((0 : Int), ((([false] ++ inp) ++ st), ())) = (((0 : Nat) : Int), (([false] ++ inp) ++ st), ()) from rfl, l]
 rfl
theorem all_ref {g : TAig} (v : AigV g) (hb : AigB g) {inp st : LB} (h1 : (inp.length : Int) = g.1) (h3 : st.length = g.2.1.length) : F_r20_All g inp st = some (all2 g inp st) := by
 have hs : siz g = fst0 g + g.2.2.1.length := rfl
 have hf : fst0 g = 1 + g.1 + g.2.1.length := rfl
 have vs := v.sz
 have v0 := v.i0
 obtain ⟨b1, b2, b3⟩ := hb
 have l := iterS_fold (f := F_r20_All_l0 g inp st) g.2.2.1 (fun i b => ((i : Int), b, ())) step2 (fun out => .inl ((g.2.2.1.length : Int), out, ())) (ValsI g)
  (fun i b hi ho => by
   refine ⟨?_, ho.step _⟩
   have ho : (b.length : Int) = fst0 g + i := ho
   obtain ⟨a1, a2, a3, a4⟩ := v.and i hi
   have e : b.length + 1 ≤ 140737488355328 := by omega
   have q1 := of_ref (b := b) a1 (by omega) (by omega)
   have q2 := of_ref (b := b) a3 (by omega) (by omega)
   simp (disch := omega) only [F_r20_All_l0, br_def, lt_def, ni_def, len_def, ix_def, tn_nat, rd_lt hi, q1, q2, ob_some, fits_def, ad_def, wr64, app_def, decide_eq_true_eq, List.length_singleton, e, if_true]
   rw [if_pos (by omega), if_pos (by omega), if_pos (by omega)]
   unfold step2
   cases of2 b (g.2.2.1[i]).1 <;> rfl)
  (fun out ho => by simp [F_r20_All_l0]) (vals0 h1 h3)
 unfold F_r20_All
 simp only [br_def, fits_def, len_def, app_def, decide_eq_true_eq, List.length_append, List.length_singleton]
 rw [if_pos (by omega), if_pos (by omega), show ((0 : Int), ((([false] ++ inp) ++ st), ())) = (((0 : Nat) : Int), (([false] ++ inp) ++ st), ()) from rfl, l]
 rfl
theorem ends_prog {g : TAig} (v : AigV g) (hb : AigB g) {b : LB} (hl : (b.length : Int) = siz g) : F_aig_ends g b = some (outs2 g b, next2 g b) := by
 have vs := v.sz
 have vo := v.outs
 obtain ⟨b1, b2, b3⟩ := hb
 have l0 := iterS_fold (f := F_aig_ends_l0 g b) g.2.2.2 (fun i out => ((i : Int), out, ())) (fun out x => out ++ [of2 b x]) (fun out => .inl ((g.2.2.2.length : Int), out, ())) (fun i out => out.length = i)
  (fun i out hi ho => by
   refine ⟨?_, by simp [ho]⟩
   obtain ⟨a1, a2⟩ := v.out _ (List.getElem_mem hi)
   have e : i + 1 ≤ 140737488355328 := by omega
   have q := of_prog (b := b) a1 (by omega) (by omega)
   simp (disch := omega) [F_aig_ends_l0, rd_lt hi, wr64, hi, ho, e, q])
  (fun out ho => by simp [F_aig_ends_l0]) (b := []) rfl
 have l1 : ∀ y1, _ := fun y1 => iterS_fold (f := F_aig_ends_l1 g b y1) g.2.1 (fun i out => ((i : Int), out, ())) (fun out x => out ++ [of2 b x.1]) (fun out => .inl ((g.2.1.length : Int), out, ())) (fun i out => out.length = i)
  (fun i out hi ho => by
   refine ⟨?_, by simp [ho]⟩
   obtain ⟨a1, a2, a3⟩ := v.lat _ (List.getElem_mem hi)
   have e : i + 1 ≤ 140737488355328 := by omega
   have q := of_prog (b := b) a1 (by omega) (by omega)
   simp (disch := omega) [F_aig_ends_l1, rd_lt hi, wr64, hi, ho, e, q])
  (fun out ho => by simp [F_aig_ends_l1]) (b := []) rfl
 rw [foldl_snoc] at l0
 unfold F_aig_ends
 rw [show ((0 : Int), (([] : LB), ())) = ((((0 : Nat) : Int)), ([], ())) from rfl, l0, oj_inl, l1, oj_inl, foldl_snoc]; rfl
theorem start_prog {g : TAig} (hc : chk g = 0) (hb : AigB g) : F_aig_Start g = some (start2 g) := by
 have vs := (chk_ok hc).sz
 have hs : siz g = fst0 g + g.2.2.1.length := rfl
 have hf : fst0 g = 1 + g.1 + g.2.1.length := rfl
 have v0 := (chk_ok hc).i0
 have hb' := hb
 obtain ⟨b1, b2, b3⟩ := hb
 have l := iterS_upto (f := F_aig_Start_l0 g (chk g)) (fun j => ((j : Int), ((g.2.1.take j).map (fun l : Int × Int => decide (l.2 = 1)) ++ List.replicate (g.2.1.length - j) false, ()))) g.2.1.length (r := .inl ((g.2.1.length : Int), (start2 g, ())))
  (fun j hj => by
   have e : j < ((g.2.1.take j).map (fun l : Int × Int => decide (l.2 = 1)) ++ List.replicate (g.2.1.length - j) false).length := by simp; omega
   simp only [F_aig_Start_l0, br_def, lt_def, ni_def, len_def, ix_def, tn_nat, rd_lt hj, decide_eq_true_eq, ad_def, put_def, eq_def]
   rw [if_pos (by omega), if_pos (by omega), if_pos (by omega), wr64 (by omega) (by omega)]
   rw [show (decide ((g.2.1[j]).2 = 1)) = (fun l : Int × Int => decide (l.2 = 1)) g.2.1[j] from rfl, set_map _ _ _ _ hj]; rfl)
  (by simp [F_aig_Start_l0, start2])
 unfold F_aig_Start
 rw [show F_aig_Check (g.1, (g.2.1, (g.2.2.1, g.2.2.2))) = some (chk g) from F_aig_Check_eq g hb', ob_some]
 simp only [br_def, ne_def, rg_def, le_def, ml_def, ni_def, len_def, rept_def, decide_eq_true_eq]
 rw [if_neg (by omega), if_pos (by omega), if_pos (by omega), if_pos (by omega), tn_nat]
 simp only [List.take_zero, List.map_nil, List.nil_append, Nat.sub_zero] at l
 rw [show ((0 : Int), (List.replicate g.2.1.length false, ())) = (((0 : Nat) : Int), (List.replicate g.2.1.length false, ())) from rfl, l, oj_inl]
theorem start_ref {g : TAig} (hc : chk g = 0) (hb : AigB g) : F_r20_Start g = some (start2 g) := by
 have hb' := hb
 obtain ⟨b1, b2, b3⟩ := hb
 have ec : F_r20_Check (g.1, (g.2.1, (g.2.2.1, g.2.2.2))) = some (chk g) := F_r20_Check_eq g hb'
 have l := iterS_fold (f := F_r20_Start_l0 g) g.2.1 (fun i out => ((i : Int), out, ())) (fun out x => out ++ [decide (x.2 = 1)]) (fun out => .inl ((g.2.1.length : Int), out, ())) (fun i out => out.length = i)
  (fun i out hi ho => by
   refine ⟨?_, by simp [ho]⟩
   have e : i + 1 ≤ 140737488355328 := by omega
   simp (disch := omega) [F_r20_Start_l0, ec, hc, rd_lt hi, wr64, hi, ho, e])
  (fun out ho => by simp [F_r20_Start_l0, ec, hc]) (b := []) rfl
 rw [foldl_snoc] at l
 unfold F_r20_Start
 rw [show ((0 : Int), (([] : LB), ())) = ((((0 : Nat) : Int)), ([], ())) from rfl, l, oj_inl]; rfl
theorem values_ref {g : TAig} (hc : chk g = 0) (hb : AigB g) {inp st : LB} (h1 : (inp.length : Int) = g.1) (h3 : st.length = g.2.1.length) : F_r20_Values g inp st = some (all2 g inp st, 0) := by
 unfold F_r20_Values
 rw [show F_r20_Check (g.1, (g.2.1, (g.2.2.1, g.2.2.2))) = some (chk g) from F_r20_Check_eq g hb, ob_some]
 simp only [br_def, ne_def, ni_def, len_def, decide_eq_true_eq]
 rw [if_neg (by omega), if_neg (by omega), if_neg (by omega), show F_r20_All (g.1, (g.2.1, (g.2.2.1, g.2.2.2))) inp st = some (all2 g inp st) from all_ref (chk_ok hc) hb h1 h3]; rfl
theorem eval_ref {g : TAig} (hc : chk g = 0) (hb : AigB g) {inp st : LB} (h1 : (inp.length : Int) = g.1) (h3 : st.length = g.2.1.length) : F_r20_Eval g inp st = some (outs2 g (all2 g inp st), (next2 g (all2 g inp st), 0)) := by
 have v := chk_ok hc
 have vs := v.sz
 have vo := v.outs
 have hl := vals_end (vals0 h1 h3)
 have hbb := hb
 obtain ⟨b1, b2, b3⟩ := hb
 generalize hB : all2 g inp st = b at hl
 have l0 := iterS_fold (f := F_r20_Eval_l0 g inp st (b, 0)) g.2.2.2 (fun i out => ((i : Int), out, ())) (fun out x => out ++ [of2 b x]) (fun out => .inl ((g.2.2.2.length : Int), out, ())) (fun i out => out.length = i)
  (fun i out hi ho => by
   refine ⟨?_, by simp [ho]⟩
   obtain ⟨a1, a2⟩ := v.out _ (List.getElem_mem hi)
   have e : i + 1 ≤ 140737488355328 := by omega
   have q := of_ref (b := b) a1 (by omega) (by omega)
   simp (disch := omega) [F_r20_Eval_l0, rd_lt hi, wr64, hi, ho, e, q])
  (fun out ho => by simp [F_r20_Eval_l0]) (b := []) rfl
 have l1 : ∀ y1, _ := fun y1 => iterS_fold (f := F_r20_Eval_l1 g inp st (b, 0) y1) g.2.1 (fun i out => ((i : Int), out, ())) (fun out x => out ++ [of2 b x.1]) (fun out => .inl ((g.2.1.length : Int), out, ())) (fun i out => out.length = i)
  (fun i out hi ho => by
   refine ⟨?_, by simp [ho]⟩
   obtain ⟨a1, a2, a3⟩ := v.lat _ (List.getElem_mem hi)
   have e : i + 1 ≤ 140737488355328 := by omega
   have q := of_ref (b := b) a1 (by omega) (by omega)
   simp (disch := omega) [F_r20_Eval_l1, rd_lt hi, wr64, hi, ho, e, q])
  (fun out ho => by simp [F_r20_Eval_l1]) (b := []) rfl
 rw [foldl_snoc] at l0
 unfold F_r20_Eval
 rw [show F_r20_Values (g.1, (g.2.1, (g.2.2.1, g.2.2.2))) inp st = some (b, 0) from hB ▸ values_ref hc hbb h1 h3, ob_some]
 simp only [br_def, ne_def, decide_eq_true_eq]
 rw [if_neg (by omega), show ((0 : Int), (([] : LB), ())) = ((((0 : Nat) : Int)), ([], ())) from rfl, l0, oj_inl, l1, oj_inl, foldl_snoc]; rfl
def sim2 (g : TAig) : LLB → LB → LLB × LLB
 | [], _ => ([], [])
 | inp :: r, st => (outs2 g (all2 g inp st) :: (sim2 g r (next2 g (all2 g inp st))).1, next2 g (all2 g inp st) :: (sim2 g r (next2 g (all2 g inp st))).2)
def wide (g : TAig) (r : LB) : Option Unit := if (r.length : Int) = g.1 then none else some ()
def run2 (g : TAig) (t : LLB) : LLB × (LLB × Int) := if chk g ≠ 0 then ([], ([], chk g)) else if 64 < (t.length : Int) then ([], ([], 5)) else
 (t.findSome? (wide g)).elim ((sim2 g t (start2 g)).1, (start2 g :: (sim2 g t (start2 g)).2, 0)) fun _ => ([], ([], 12))
def stp2 (g : TAig) (x : LB × LLB × LLB) (inp : LB) : LB × LLB × LLB := (next2 g (all2 g inp x.1), x.2.1 ++ [outs2 g (all2 g inp x.1)], x.2.2 ++ [next2 g (all2 g inp x.1)])
end Go.Proofs.YtiiancghhloalaaGreatDoor

open Go Go.AM Go.TM
namespace Go.Proofs.YtiiancghhloalaaGreatDoor
end Go.Proofs.YtiiancghhloalaaGreatDoor

open Go Go.AM Go.TM
namespace Go.Proofs.YtiiancghhloalaaGreatDoor
def bring (x n : Int) : Int := (x.tmod n + n).tmod n
def mixI {α : Type} (f : Nat → α) (r : List α) (i : Nat) : List α := (List.range i).map f ++ r.drop i
theorem mixI_len {α : Type} {f : Nat → α} {r : List α} {i : Nat} (hi : i ≤ r.length) : (mixI f r i).length = r.length := by simp [mixI]; omega
theorem mixI_get {α : Type} {f : Nat → α} {r : List α} {i : Nat} (hi : i < r.length) (d : α) : rd (mixI f r i) i d = r[i] := by
 unfold mixI
 rw [rd_def, List.getD_eq_getElem?_getD, List.getElem?_append_right (by simp), List.length_map, List.length_range, Nat.sub_self, List.getElem?_drop, Nat.add_zero, List.getElem?_eq_getElem hi]; rfl
theorem mixI_set {α : Type} {f : Nat → α} {r : List α} {i : Nat} (hi : i < r.length) : (mixI f r i).set i (f i) = mixI f r (i + 1) := by
 unfold mixI
 rw [List.set_append_right _ _ (by simp), List.length_map, List.length_range, Nat.sub_self, List.drop_eq_getElem_cons hi, List.range_succ, List.map_append, List.append_assoc]; rfl
def fit (g : TAig) (n : Nat) : TAig :=
 (bring g.1 ((n : Int) + 1),
  ((List.range (g.2.1.take n).length).map fun i => (bring ((g.2.1.take n).getD i (0, 0)).1 (2 * (1 + bring g.1 ((n : Int) + 1) + (g.2.1.take n).length + (g.2.2.1.take n).length)), md ((g.2.1.take n).getD i (0, 0)).2 2)),
  ((List.range (g.2.2.1.take n).length).map fun i => (bring ((g.2.2.1.take n).getD i (0, 0)).1 (2 * (1 + bring g.1 ((n : Int) + 1) + (g.2.1.take n).length + i)), bring ((g.2.2.1.take n).getD i (0, 0)).2 (2 * (1 + bring g.1 ((n : Int) + 1) + (g.2.1.take n).length + i)))),
  ((List.range (g.2.2.2.take n).length).map fun i => bring ((g.2.2.2.take n).getD i 0) (2 * (1 + bring g.1 ((n : Int) + 1) + (g.2.1.take n).length + (g.2.2.1.take n).length))))
def fA (g : TAig) (n : Nat) (b : Int) (i : Nat) : Int × Int := (bring ((g.2.2.1.take n).getD i (0, 0)).1 (2 * (1 + b + (g.2.1.take n).length + i)), bring ((g.2.2.1.take n).getD i (0, 0)).2 (2 * (1 + b + (g.2.1.take n).length + i)))
def fL (g : TAig) (n : Nat) (N : Int) (i : Nat) : Int × Int := (bring ((g.2.1.take n).getD i (0, 0)).1 (2 * N), md ((g.2.1.take n).getD i (0, 0)).2 2)
def fO (g : TAig) (n : Nat) (N : Int) (i : Nat) : Int := bring ((g.2.2.2.take n).getD i 0) (2 * N)
def bitAt (x n : Int) : Bool := eq (md (shr .u64 x (md n 64)) 2) 1
def bitsR (v : Int) (n : Nat) : LB := (List.range n).map fun (i : Nat) => bitAt v (i : Int)
end Go.Proofs.YtiiancghhloalaaGreatDoor

open Go Go.AM Go.TM
namespace Go.Proofs.YtiiancghhloalaaGreatDoor
abbrev yNums : Ty := .slice (.int .u64)
def endS (g : TAig) (t : LLB) (st : LB) : LB := t.foldl (fun st inp => next2 g (all2 g inp st)) st
def init2 (g : TAig) (l : List (Int × Int)) : TAig := (g.1, l, g.2.2.1, g.2.2.2)
def rowsOf (g : TAig) (t : LI) : LLB := (t.take 60).map fun v => bitsR v g.1.toNat
def newI (r : List (Int × Int)) (st : LB) (i : Nat) : Int × Int := ((r.getD i (0, 0)).1, if st.getD i false = true then 1 else 0)
end Go.Proofs.YtiiancghhloalaaGreatDoor

open Go Go.AM Go.TM
namespace Go.Proofs.YtiiancghhloalaaGreatDoor
theorem same_refl20 (g : TAig) (h1 : g.2.1.length ≤ 1000) (h2 : g.2.2.1.length ≤ 1000) (h3 : g.2.2.2.length ≤ 1000) : F_r20_Same g g = some true := by
 have k0 := iterS_upto (f := F_r20_Same_l0 g g) (fun i => ((i : Int), ())) g.2.1.length (r := .inl ((g.2.1.length : Int), ()))
  (fun i hi => by
   simp only [F_r20_Same_l0, tn_nat, rd_lt hi]
   simp only [br_def, lt_def, ni_def, len_def, ix_def, decide_eq_true_eq, ad_def, eq_def, ba_def, nt_def, decide_true, Bool.and_self, Bool.not_true]
   rw [if_pos (by omega), if_pos (by omega), if_pos (by omega), if_neg (by simp), wr64 (by omega) (by omega)]; rfl)
  (by simp [F_r20_Same_l0])
 have k1 := iterS_upto (f := F_r20_Same_l1 g g ((g.2.1.length : Int), ())) (fun i => ((i : Int), ())) g.2.2.1.length (r := .inl ((g.2.2.1.length : Int), ()))
  (fun i hi => by
   simp only [F_r20_Same_l1, tn_nat, rd_lt hi]
   simp only [br_def, lt_def, ni_def, len_def, ix_def, decide_eq_true_eq, ad_def, eq_def, ba_def, nt_def, decide_true, Bool.and_self, Bool.not_true]
   rw [if_pos (by omega), if_pos (by omega), if_pos (by omega), if_neg (by simp), wr64 (by omega) (by omega)]; rfl)
  (by simp [F_r20_Same_l1])
 have k2 := iterS_upto (f := F_r20_EqLits_l0 g.2.2.2 g.2.2.2) (fun i => ((i : Int), ())) g.2.2.2.length (r := .inl ((g.2.2.2.length : Int), ()))
  (fun i hi => by
   simp only [F_r20_EqLits_l0, tn_nat, rd_lt hi]
   simp only [br_def, lt_def, ni_def, len_def, ix_def, decide_eq_true_eq, ad_def, ne_def]
   rw [if_pos (by omega), if_pos (by omega), if_pos (by omega), if_neg (by simp), wr64 (by omega) (by omega)]; rfl)
  (by simp [F_r20_EqLits_l0])
 have e : F_r20_EqLits g.2.2.2 g.2.2.2 = some true := by
  unfold F_r20_EqLits
  rw [show ((0 : Int), ()) = (((0 : Nat) : Int), ()) from rfl, k2]
  simp
 unfold F_r20_Same
 rw [show ((0 : Int), ()) = (((0 : Nat) : Int), ()) from rfl, k0, oj_inl, k1, oj_inl, e]
 simp
abbrev yBools : Ty := .slice .bool
def vals2 (g : TAig) (inp st : LB) : LB × Int := if chk g ≠ 0 then ([], chk g) else if (inp.length : Int) ≠ g.1 then ([], 12) else if (st.length : Int) ≠ (g.2.1.length : Int) then ([], 12) else (all2 g inp st, 0)
def eval2 (g : TAig) (inp st : LB) : LB × (LB × Int) := if (vals2 g inp st).2 ≠ 0 then ([], ([], (vals2 g inp st).2)) else (outs2 g (vals2 g inp st).1, (next2 g (vals2 g inp st).1, 0))
def starts2 (g : TAig) : LB := if chk g ≠ 0 then [] else start2 g
theorem vals_prog {g : TAig} (hb : AigB g) (inp st : LB) : F_aig_Values g inp st = some (vals2 g inp st) := by
 unfold F_aig_Values vals2
 rw [show F_aig_Check (g.1, (g.2.1, (g.2.2.1, g.2.2.2))) = some (chk g) from F_aig_Check_eq g hb, ob_some]
 simp only [br_def, ne_def, ni_def, len_def, decide_eq_true_eq]
 by_cases h1 : chk g ≠ 0
 ·rw [if_pos h1, if_pos h1]
 rw [if_neg h1, if_neg h1]
 by_cases h2 : (inp.length : Int) ≠ g.1
 ·rw [if_pos h2, if_pos h2]
 rw [if_neg h2, if_neg h2]
 by_cases h3 : (st.length : Int) ≠ (g.2.1.length : Int)
 ·rw [if_pos h3, if_pos h3]
 rw [if_neg h3, if_neg h3, show F_aig_all (g.1, (g.2.1, (g.2.2.1, g.2.2.2))) inp st = some (all2 g inp st) from all_prog (chk_ok (by omega)) hb (by omega) (by omega)]; rfl
theorem vals_ref {g : TAig} (hb : AigB g) (inp st : LB) : F_r20_Values g inp st = some (vals2 g inp st) := by
 unfold F_r20_Values vals2
 rw [show F_r20_Check (g.1, (g.2.1, (g.2.2.1, g.2.2.2))) = some (chk g) from F_r20_Check_eq g hb, ob_some]
 simp only [br_def, ne_def, ni_def, len_def, decide_eq_true_eq]
 by_cases h1 : chk g ≠ 0
 ·rw [if_pos h1, if_pos h1]
 rw [if_neg h1, if_neg h1]
 by_cases h2 : (inp.length : Int) ≠ g.1
 ·rw [if_pos h2, if_pos h2]
 rw [if_neg h2, if_neg h2]
 by_cases h3 : (st.length : Int) ≠ (g.2.1.length : Int)
 ·rw [if_pos h3, if_pos h3]
 rw [if_neg h3, if_neg h3, show F_r20_All (g.1, (g.2.1, (g.2.2.1, g.2.2.2))) inp st = some (all2 g inp st) from all_ref (chk_ok (by omega)) hb (by omega) (by omega)]; rfl
theorem vals_ok {g : TAig} {inp st : LB} (h : (vals2 g inp st).2 = 0) : chk g = 0 ∧ (inp.length : Int) = g.1 ∧ st.length = g.2.1.length ∧ (vals2 g inp st).1 = all2 g inp st := by
 unfold vals2 at h ⊢
 by_cases h1 : chk g ≠ 0
 ·rw [if_pos h1] at h; exact absurd h h1
 rw [if_neg h1] at h ⊢
 by_cases h2 : (inp.length : Int) ≠ g.1
 ·rw [if_pos h2] at h; cases h
 rw [if_neg h2] at h ⊢
 by_cases h3 : (st.length : Int) ≠ (g.2.1.length : Int)
 ·rw [if_pos h3] at h; cases h
 rw [if_neg h3]
 exact ⟨by omega, by omega, by omega, rfl⟩
theorem evals_prog {g : TAig} (hb : AigB g) (inp st : LB) : F_aig_Eval g inp st = some (eval2 g inp st) := by
 unfold F_aig_Eval eval2
 rw [show F_aig_Values (g.1, (g.2.1, (g.2.2.1, g.2.2.2))) inp st = some (vals2 g inp st) from vals_prog hb inp st, ob_some]
 simp only [br_def, ne_def, decide_eq_true_eq]
 by_cases h : (vals2 g inp st).2 ≠ 0
 ·rw [if_pos h, if_pos h]
 rw [if_neg h, if_neg h]
 obtain ⟨h1, h2, h3, h4⟩ := vals_ok (by omega : (vals2 g inp st).2 = 0)
 rw [h4, show F_aig_ends (g.1, (g.2.1, (g.2.2.1, g.2.2.2))) (all2 g inp st) = some (outs2 g (all2 g inp st), next2 g (all2 g inp st)) from ends_prog (chk_ok h1) hb (vals_end (vals0 h2 h3))]; rfl
theorem evals_ref {g : TAig} (hb : AigB g) (inp st : LB) : F_r20_Eval g inp st = some (eval2 g inp st) := by
 by_cases h : (vals2 g inp st).2 ≠ 0
 ·unfold F_r20_Eval eval2
  rw [show F_r20_Values (g.1, (g.2.1, (g.2.2.1, g.2.2.2))) inp st = some (vals2 g inp st) from vals_ref hb inp st, ob_some]
  simp only [br_def, ne_def, decide_eq_true_eq]
  rw [if_pos h, if_pos h]
 ·obtain ⟨h1, h2, h3, h4⟩ := vals_ok (by omega : (vals2 g inp st).2 = 0)
  rw [eval_ref h1 hb h2 h3]
  unfold eval2
  rw [if_neg h, h4]
theorem starts_prog {g : TAig} (hb : AigB g) : F_aig_Start g = some (starts2 g) := by
 unfold starts2
 by_cases h : chk g ≠ 0
 ·rw [if_pos h]
  unfold F_aig_Start
  rw [show F_aig_Check (g.1, (g.2.1, (g.2.2.1, g.2.2.2))) = some (chk g) from F_aig_Check_eq g hb, ob_some]
  simp only [br_def, ne_def, decide_eq_true_eq]
  rw [if_pos h]
 ·rw [if_neg h]; exact start_prog (by omega) hb
theorem starts_ref {g : TAig} (hb : AigB g) : F_r20_Start g = some (starts2 g) := by
 unfold starts2
 by_cases h : chk g ≠ 0
 ·rw [if_pos h]
  have ec : F_r20_Check (g.1, (g.2.1, (g.2.2.1, g.2.2.2))) = some (chk g) := F_r20_Check_eq g hb
  unfold F_r20_Start
  rw [iterS_inr (f := F_r20_Start_l0 g) (s := (0, ([], ()))) (r := .inl (0, ([], ()))) (by
   unfold F_r20_Start_l0
   rw [ec, ob_some, br_def, eq_def, decide_eq_false h]; rfl)]
 ·rw [if_neg h]; exact start_ref (by omega) hb
theorem nodes_prog {g : TAig} (hb : AigB g) : F_aig_Nodes g = some (if chk g ≠ 0 then 0 else siz g) := by
 unfold F_aig_Nodes
 rw [show F_aig_Check (g.1, (g.2.1, (g.2.2.1, g.2.2.2))) = some (chk g) from F_aig_Check_eq g hb, ob_some]
 simp only [br_def, ne_def, decide_eq_true_eq]
 by_cases h : chk g ≠ 0
 ·rw [if_pos h, if_pos h]
 ·rw [if_neg h, if_neg h]
  have v := chk_ok (by omega : chk g = 0)
  have v0 := v.i0
  have v1 := v.sz
  have : g.1 ≤ 4096 := by unfold siz fst0 at v1; omega
  rw [show F_aig_size (g.1, (g.2.1, (g.2.2.1, g.2.2.2))) = some (siz g) from F_aig_size_eq g hb v0 this]; rfl
def flipB (v : LB) (i : Nat) : Bool := !(v.getD i false)
theorem flip_step {v : LB} {i : Nat} (hi : i < v.length) : put (mixI (flipB v) v i) i (nt (rd (mixI (flipB v) v i) i false)) = mixI (flipB v) v (i + 1) := by
 rw [mixI_get hi, ← mixI_set hi, put_def, nt_def]
 unfold flipB
 rw [getD_lt hi]
theorem flip0 {a0 a1 a2 y0 y1 y2 y3 y4 y5 y6 y7 y8 y9 y10} (v : LB) (h : v.length ≤ 1000000) : ∃ s, iterS (F_w20_AigMatches_l0 a0 a1 a2 y0 y1 y2 y3 y4 y5 y6 y7 y8 y9 y10) (0, (v, ())) = some (.inl s) := by
 have := iterS_upto (f := F_w20_AigMatches_l0 a0 a1 a2 y0 y1 y2 y3 y4 y5 y6 y7 y8 y9 y10) (fun i => ((i : Int), (mixI (flipB v) v i, ()))) v.length (r := .inl ((v.length : Int), (mixI (flipB v) v v.length, ())))
  (fun i hi => by
   have hl := mixI_len (f := flipB v) (r := v) (i := i) (by omega)
   unfold F_w20_AigMatches_l0
   simp only [br_def, lt_def, ix_def, ni_def, len_def, decide_eq_true_eq, ad_def, hl]
   rw [if_pos (by omega), if_pos (by omega), if_pos (by omega), wr64 (by omega) (by omega), tn_nat, flip_step hi]; rfl)
  (by
   have hl := mixI_len (f := flipB v) (r := v) (i := v.length) (by omega)
   unfold F_w20_AigMatches_l0
   simp only [br_def, lt_def, ni_def, len_def, decide_eq_true_eq, hl]
   rw [if_neg (by omega)])
 exact ⟨_, this⟩
theorem flip5 {a0 a1 a2 y0 y1 y2 y3 y4 y5 y6 y7 y8 y9} (v : LB) (h : v.length ≤ 1000000) : ∃ s, iterS (F_w20_AigMatches_l5 a0 a1 a2 y0 y1 y2 y3 y4 y5 y6 y7 y8 y9) (0, (v, ())) = some (.inl s) := by
 have := iterS_upto (f := F_w20_AigMatches_l5 a0 a1 a2 y0 y1 y2 y3 y4 y5 y6 y7 y8 y9) (fun i => ((i : Int), (mixI (flipB v) v i, ()))) v.length (r := .inl ((v.length : Int), (mixI (flipB v) v v.length, ())))
  (fun i hi => by
   have hl := mixI_len (f := flipB v) (r := v) (i := i) (by omega)
   unfold F_w20_AigMatches_l5
   simp only [br_def, lt_def, ix_def, ni_def, len_def, decide_eq_true_eq, ad_def, hl]
   rw [if_pos (by omega), if_pos (by omega), if_pos (by omega), wr64 (by omega) (by omega), tn_nat, flip_step hi]; rfl)
  (by
   have hl := mixI_len (f := flipB v) (r := v) (i := v.length) (by omega)
   unfold F_w20_AigMatches_l5
   simp only [br_def, lt_def, ni_def, len_def, decide_eq_true_eq, hl]
   rw [if_neg (by omega)])
 exact ⟨_, this⟩
theorem matches_law (x : Tys [yAig, yBools, yBools]) (h : WfTs [yAig, yBools, yBools] x) : F_w20_AigMatches x.1 x.2.1 x.2.2 = some true := by
 obtain ⟨g, inp, st⟩ := x
 obtain ⟨h1, -, -⟩ := h
 have hg := aig_len h1
 have a1 : g.2.1.length ≤ 8796093021952 := hg.1
 have a2 : g.2.2.1.length ≤ 8796093021952 := hg.2.1
 have a3 : g.2.2.2.length ≤ 17592186043904 := hg.2.2
 show F_w20_AigMatches g inp st = some true
 have sB := small_B g 60 (by decide)
 have es : F_r20_Small (g.1, (g.2.1, (g.2.2.1, g.2.2.2))) 60 = some (small g 60) := small_eq g (by omega) (by omega) (by omega) 60
 have l1 : (small g 60).2.1.length ≤ 60 := by simp [small]; omega
 have l2 : (small g 60).2.2.1.length ≤ 60 := by simp [small]; omega
 have l3 : (small g 60).2.2.2.length ≤ 60 := by simp [small]; omega
 unfold F_w20_AigMatches
 rw [es, ob_some, ob_some, show (100 : Int) = ((100 : Nat) : Int) from rfl]
 generalize small g 60 = x at sB l1 l2 l3
 simp only [mn_rg, mn_take]
 generalize hi : inp.take 100 = inp'
 generalize hs : st.take 100 = st'
 have e1 : F_r20_Check (x.1, (x.2.1, (x.2.2.1, x.2.2.2))) = some (chk x) := F_r20_Check_eq x sB
 have e2 : F_aig_Check (x.1, (x.2.1, (x.2.2.1, x.2.2.2))) = some (chk x) := F_aig_Check_eq x sB
 have e3 : F_aig_Values (x.1, (x.2.1, (x.2.2.1, x.2.2.2))) inp' st' = some (vals2 x inp' st') := vals_prog sB _ _
 have e4 : F_r20_Values (x.1, (x.2.1, (x.2.2.1, x.2.2.2))) inp' st' = some (vals2 x inp' st') := vals_ref sB _ _
 have e5 : F_aig_Eval (x.1, (x.2.1, (x.2.2.1, x.2.2.2))) inp' st' = some (eval2 x inp' st') := evals_prog sB _ _
 have e6 : F_r20_Eval (x.1, (x.2.1, (x.2.2.1, x.2.2.2))) inp' st' = some (eval2 x inp' st') := evals_ref sB _ _
 have e7 : F_aig_Start (x.1, (x.2.1, (x.2.2.1, x.2.2.2))) = some (starts2 x) := starts_prog sB
 have e8 : F_r20_Start (x.1, (x.2.1, (x.2.2.1, x.2.2.2))) = some (starts2 x) := starts_ref sB
 have e9 : F_aig_Nodes (x.1, (x.2.1, (x.2.2.1, x.2.2.2))) = some (if chk x ≠ 0 then 0 else siz x) := nodes_prog sB
 have e10 : F_r20_Same (x.1, (x.2.1, (x.2.2.1, x.2.2.2))) (x.1, (x.2.1, (x.2.2.1, x.2.2.2))) = some true := same_refl20 x (by omega) (by omega) (by omega)
 have hv : (vals2 x inp' st').1.length ≤ 4096 := by
  by_cases hz : (vals2 x inp' st').2 = 0
  ·obtain ⟨z1, z2, z3, z4⟩ := vals_ok hz
   rw [z4]
   have := vals_end (vals0 z2 z3)
   have := (chk_ok z1).sz
   omega
  ·unfold vals2 at hz ⊢
   split
   ·simp
   split
   ·simp
   split
   ·simp
   ·rename_i z1 z2 z3
    rw [if_neg z1, if_neg z2, if_neg z3] at hz
    exact absurd rfl hz
 have ho : (eval2 x inp' st').1.length ≤ 4096 ∧ (eval2 x inp' st').2.1.length ≤ 4096 := by
  unfold eval2
  split
  ·simp
  ·simp [outs2, next2]; omega
 have b1 : F_r20_EqBools (vals2 x inp' st').1 (vals2 x inp' st').1 = some true := by rw [EqBools_eq _ _ (by omega)]; simp
 have b2 : F_r20_EqBools (eval2 x inp' st').1 (eval2 x inp' st').1 = some true := by rw [EqBools_eq _ _ (by omega)]; simp
 have b3 : F_r20_EqBools (eval2 x inp' st').2.1 (eval2 x inp' st').2.1 = some true := by rw [EqBools_eq _ _ (by omega)]; simp
 have hst : (starts2 x).length ≤ 4096 := by
  unfold starts2
  split
  ·simp
  ·simp [start2]; omega
 have b4 : F_r20_EqBools (starts2 x) (starts2 x) = some true := by rw [EqBools_eq _ _ (by omega)]; simp
 have T : ∀ {R : Type} (u w : Option R), br true u w = u := fun _ _ => rfl
 have F : ∀ {R : Type} (u w : Option R), br false u w = w := fun _ _ => rfl
 have Q : ∀ n : Int, eq n n = true := fun n => decide_eq_true rfl
 by_cases hc : chk x = 0
 ·have v := chk_ok hc
  have v0 := v.i0
  have v1 := v.sz
  have i1 : x.1 ≤ 4096 := by unfold siz fst0 at v1; omega
  have en : F_r20_Nodes (x.1, (x.2.1, (x.2.2.1, x.2.2.2))) = some (siz x) := F_r20_Nodes_eq x sB v0 i1
  rw [if_neg (by omega)] at e9
  have hq : eq (chk x) 0 = true := decide_eq_true hc
  obtain ⟨s, fs⟩ := flip0 (a0 := g) (a1 := inp) (a2 := st) (y0 := x) (y1 := x) (y2 := chk x) (y3 := siz x) (y4 := vals2 x inp' st') (y5 := vals2 x inp' st') (y6 := eval2 x inp' st') (y7 := eval2 x inp' st') (y8 := true) (y9 := true) (y10 := true) (vals2 x inp' st').1 (by omega)
  simp only [e1, ob_some, hq, T, en, e3, e4, e5, e6, Q, b1, b2, b3, fs]
  erw [oj_inl]
  simp only [e2, ob_some, Q, T, e9, e7, e8, b4, e10, F_w20_awake]
 ·rw [if_pos hc] at e9
  have hq : eq (chk x) 0 = false := decide_eq_false hc
  obtain ⟨s, fs⟩ := flip5 (a0 := g) (a1 := inp) (a2 := st) (y0 := x) (y1 := x) (y2 := chk x) (y3 := vals2 x inp' st') (y4 := vals2 x inp' st') (y5 := eval2 x inp' st') (y6 := eval2 x inp' st') (y7 := true) (y8 := true) (y9 := true) (vals2 x inp' st').1 (by omega)
  simp only [e1, ob_some, hq, F, T, e3, e4, e5, e6, Q, b1, b2, b3, fs]
  erw [oj_inl]
  simp only [e2, ob_some, Q, T, e9, e7, e8, b4, e10, F_w20_awake]
end Go.Proofs.YtiiancghhloalaaGreatDoor
