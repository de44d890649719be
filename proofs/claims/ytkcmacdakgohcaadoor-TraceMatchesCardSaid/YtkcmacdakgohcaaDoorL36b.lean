/- Plain laws of the chapter's functions: graphs that are checked. -/

import Derived.Test.YtkcmacdakgohcaaDoorL36a
set_option linter.unusedVariables false
set_option linter.unusedSimpArgs false
set_option linter.unusedSectionVars false
open Go Go.AM Go.TM
namespace Go.Proofs.YtkcmacdakgohcaaDoor
def AigB (g : TAig) : Prop := g.2.1.length ≤ 140737488355328 ∧ g.2.2.1.length ≤ 140737488355328 ∧ g.2.2.2.length ≤ 140737488355328
def fst0 (g : TAig) : Int := 1 + g.1 + g.2.1.length
def siz (g : TAig) : Int := fst0 g + g.2.2.1.length
def litB (x n : Int) : Bool := decide (0 ≤ x ∧ x < 2 * n)
def andB (g : TAig) (i : Nat) : Option Unit := if litB (g.2.2.1.getD i (0, 0)).1 (fst0 g + i) && litB (g.2.2.1.getD i (0, 0)).2 (fst0 g + i) then none else some ()
def latB (g : TAig) (x : Int × Int) : Option Unit := if litB x.1 (siz g) && decide (x.2 ≤ 1) then none else some ()
def outB (g : TAig) (x : Int) : Option Unit := if litB x (siz g) then none else some ()
def chk (g : TAig) : Int :=
 if g.1 < 0 then 1 else if 4096 < g.1 then 5 else if 4096 < siz g then 5 else if 4096 < (g.2.2.2.length : Int) then 5 else
 ((List.range g.2.2.1.length).findSome? (andB g)).elim ((g.2.1.findSome? (latB g)).elim ((g.2.2.2.findSome? (outB g)).elim 0 fun _ => 1) fun _ => 1) fun _ => 1

theorem F_aig_first_eq (g : TAig) (h : AigB g) (h0 : 0 ≤ g.1) (h1 : g.1 ≤ 4096) : F_aig_first g = some (fst0 g) := by
 obtain ⟨a, b, c⟩ := h
 simp (disch := omega) [F_aig_first, wr64, fst0]
theorem F_aig_size_eq (g : TAig) (h : AigB g) (h0 : 0 ≤ g.1) (h1 : g.1 ≤ 4096) : F_aig_size g = some (siz g) := by
 have e : F_aig_first (g.1, (g.2.1, (g.2.2.1, g.2.2.2))) = some (fst0 g) := F_aig_first_eq g h h0 h1
 obtain ⟨a, b, c⟩ := h
 have : fst0 g = 1 + g.1 + g.2.1.length := rfl
 simp (disch := omega) [F_aig_size, e, wr64, siz]
theorem F_aig_Check_1_eq (x n : Int) (h : -4611686018427387904 ≤ n) (h2 : n ≤ 4611686018427387903) : F_aig_Check_1 x n = some (litB x n) := by
 unfold F_aig_Check_1 litB
 by_cases e : 0 ≤ x <;> simp (disch := omega) [e, wr64]
theorem F_aig_Check_eq (g : TAig) (h : AigB g) : F_aig_Check g = some (chk g) := by
 unfold F_aig_Check chk
 simp only [br_def, lt_def, decide_eq_true_eq]
 by_cases h0 : g.1 < 0
 ·simp [h0]
 rw [if_neg h0, if_neg h0]
 by_cases h1 : 4096 < g.1
 ·simp [h1]
 rw [if_neg h1, if_neg h1, show F_aig_size (g.1, (g.2.1, (g.2.2.1, g.2.2.2))) = some (siz g) from F_aig_size_eq g h (by omega) (by omega), ob_some]
 by_cases h2 : 4096 < siz g
 ·simp [h2]
 rw [if_neg h2, if_neg h2]
 by_cases h3 : 4096 < (g.2.2.2.length : Int)
 ·simp [h3]
 rw [if_neg (by simpa using h3), if_neg h3]
 have hs : siz g = fst0 g + g.2.2.1.length := rfl
 have hf : fst0 g = 1 + g.1 + g.2.1.length := rfl
 have e89 : F_aig_first (g.1, (g.2.1, (g.2.2.1, g.2.2.2))) = some (fst0 g) := F_aig_first_eq g h (by omega) (by omega)
 have e87 : F_aig_size (g.1, (g.2.1, (g.2.2.1, g.2.2.2))) = some (siz g) := F_aig_size_eq g h (by omega) (by omega)
 have l0 := iterS_findR (f := F_aig_Check_l0 g (siz g)) g.2.2.1.length (fun i => ((i : Int), ())) (andB g) (.inl ((g.2.2.1.length : Int), ())) (fun _ => .inr 1)
  (fun i hi => by
   have q1 : F_aig_Check_1 (g.2.2.1[i]).1 (fst0 g + i) = some (litB (g.2.2.1[i]).1 (fst0 g + i)) := F_aig_Check_1_eq _ _ (by omega) (by omega)
   have q2 : F_aig_Check_1 (g.2.2.1[i]).2 (fst0 g + i) = some (litB (g.2.2.1[i]).2 (fst0 g + i)) := F_aig_Check_1_eq _ _ (by omega) (by omega)
   simp (disch := omega) [F_aig_Check_l0, rd_lt hi, hi, e89, wr64, q1, q2, andB]
   cases litB (g.2.2.1[i]).1 (fst0 g + i) <;> cases litB (g.2.2.1[i]).2 (fst0 g + i) <;> simp)
  (by simp [F_aig_Check_l0])
 have l1 := iterS_find (f := F_aig_Check_l1 g (siz g) ((g.2.2.1.length : Int), ())) g.2.1 (fun i => ((i : Int), ())) (latB g) (.inl ((g.2.1.length : Int), ())) (fun _ => .inr 1)
  (fun i hi => by
   have q1 : F_aig_Check_1 (g.2.1[i]).1 (siz g) = some (litB (g.2.1[i]).1 (siz g)) := F_aig_Check_1_eq _ _ (by omega) (by omega)
   simp (disch := omega) [F_aig_Check_l1, rd_lt hi, hi, e87, wr64, q1, latB]
   cases litB (g.2.1[i]).1 (siz g) <;> by_cases q : (g.2.1[i]).2 ≤ 1 <;> simp [q] <;> omega)
  (by simp [F_aig_Check_l1])
 have l2 := iterS_find (f := F_aig_Check_l2 g (siz g) ((g.2.2.1.length : Int), ()) ((g.2.1.length : Int), ())) g.2.2.2 (fun i => ((i : Int), ())) (outB g) (.inl ((g.2.2.2.length : Int), ())) (fun _ => .inr 1)
  (fun i hi => by
   have q1 : F_aig_Check_1 (g.2.2.2[i]) (siz g) = some (litB (g.2.2.2[i]) (siz g)) := F_aig_Check_1_eq _ _ (by omega) (by omega)
   simp (disch := omega) [F_aig_Check_l2, rd_lt hi, hi, e87, wr64, q1, outB]
   cases litB (g.2.2.2[i]) (siz g) <;> simp)
  (by simp [F_aig_Check_l2])
 rw [show ((0 : Int), ()) = (((0 : Nat) : Int), ()) from rfl, l0]
 cases (List.range g.2.2.1.length).findSome? (andB g) with
 | some _ => rfl
 | none =>
  simp only [Option.elim_none]
  rw [oj_inl, l1]
  cases g.2.1.findSome? (latB g) with
  | some _ => rfl
  | none =>
   simp only [Option.elim_none]
   rw [oj_inl, l2]
   cases g.2.2.2.findSome? (outB g) <;> rfl
theorem F_r20_Nodes_eq (g : TAig) (h : AigB g) (h0 : 0 ≤ g.1) (h1 : g.1 ≤ 4096) : F_r20_Nodes g = some (siz g) := by
 obtain ⟨a, b, c⟩ := h
 simp (disch := omega) [F_r20_Nodes, wr64, siz, fst0]
theorem F_r20_Check_eq (g : TAig) (h : AigB g) : F_r20_Check g = some (chk g) := by
 unfold F_r20_Check chk
 simp only [br_def, lt_def, decide_eq_true_eq]
 by_cases h0 : g.1 < 0
 ·simp [h0]
 rw [if_neg h0, if_neg h0]
 by_cases h1 : 4096 < g.1
 ·simp [h1]
 have hs : siz g = fst0 g + g.2.2.1.length := rfl
 have hf : fst0 g = 1 + g.1 + g.2.1.length := rfl
 rw [if_neg h1, if_neg h1]
 by_cases h4 : 4096 < (g.2.1.length : Int)
 ·rw [if_pos (by simpa using h4), if_pos (by omega)]
 rw [if_neg (by simpa using h4)]
 by_cases h5 : 4096 < (g.2.2.1.length : Int)
 ·rw [if_pos (by simpa using h5), if_pos (by omega)]
 have e70 : F_r20_Nodes (g.1, (g.2.1, (g.2.2.1, g.2.2.2))) = some (siz g) := F_r20_Nodes_eq g h (by omega) (by omega)
 rw [if_neg (by simpa using h5), e70, ob_some]
 by_cases h2 : 4096 < siz g
 ·simp [h2]
 rw [if_neg h2, if_neg h2]
 by_cases h3 : 4096 < (g.2.2.2.length : Int)
 ·simp [h3]
 rw [if_neg (by simpa using h3), if_neg h3]
 have l0 := iterS_findR (f := F_r20_Check_l0 g (siz g)) g.2.2.1.length (fun i => ((i : Int), ())) (andB g) (.inl ((g.2.2.1.length : Int), ())) (fun _ => .inr 1)
  (fun i hi => by
   simp (disch := omega) [F_r20_Check_l0, rd_lt hi, hi, wr64, andB, litB, ← hf]
   by_cases a1 : (g.2.2.1[i]).1 < 0
   ·rw [if_pos a1, if_neg (by omega)]; rfl
   rw [if_neg a1]
   by_cases a2 : 2 * (fst0 g + i) ≤ (g.2.2.1[i]).1
   ·rw [if_pos a2, if_neg (by omega)]; rfl
   rw [if_neg a2]
   by_cases a3 : (g.2.2.1[i]).2 < 0
   ·rw [if_pos a3, if_neg (by omega)]; rfl
   rw [if_neg a3]
   by_cases a4 : 2 * (fst0 g + i) ≤ (g.2.2.1[i]).2
   ·rw [if_pos a4, if_neg (by omega)]; rfl
   rw [if_neg a4, if_pos (by omega)]; rfl)
  (by simp [F_r20_Check_l0])
 have l1 := iterS_find (f := F_r20_Check_l1 g (siz g) ((g.2.2.1.length : Int), ()) (siz g)) g.2.1 (fun i => ((i : Int), ())) (latB g) (.inl ((g.2.1.length : Int), ())) (fun _ => .inr 1)
  (fun i hi => by
   simp (disch := omega) [F_r20_Check_l1, rd_lt hi, hi, wr64, latB, litB]
   by_cases a1 : (g.2.1[i]).1 < 0
   ·rw [if_pos a1, if_neg (by omega)]; rfl
   rw [if_neg a1]
   by_cases a2 : 2 * siz g ≤ (g.2.1[i]).1
   ·rw [if_pos a2, if_neg (by omega)]; rfl
   rw [if_neg a2]
   by_cases a3 : 1 < (g.2.1[i]).2
   ·rw [if_pos a3, if_neg (by omega)]; rfl
   rw [if_neg a3, if_pos (by omega)]; rfl)
  (by simp [F_r20_Check_l1])
 have l2 := iterS_find (f := F_r20_Check_l2 g (siz g) ((g.2.2.1.length : Int), ()) (siz g) ((g.2.1.length : Int), ())) g.2.2.2 (fun i => ((i : Int), ())) (outB g) (.inl ((g.2.2.2.length : Int), ())) (fun _ => .inr 1)
  (fun i hi => by
   simp (disch := omega) [F_r20_Check_l2, rd_lt hi, hi, wr64, outB, litB]
   by_cases a1 : (g.2.2.2[i]) < 0
   ·rw [if_pos a1, if_neg (by omega)]; rfl
   rw [if_neg a1]
   by_cases a2 : 2 * siz g ≤ (g.2.2.2[i])
   ·rw [if_pos a2, if_neg (by omega)]; rfl
   rw [if_neg a2, if_pos (by omega)]; rfl)
  (by simp [F_r20_Check_l2])
 rw [show ((0 : Int), ()) = (((0 : Nat) : Int), ()) from rfl, l0]
 cases (List.range g.2.2.1.length).findSome? (andB g) with
 | some _ => rfl
 | none =>
  simp only [Option.elim_none]
  rw [oj_inl, ob_some, l1]
  cases g.2.1.findSome? (latB g) with
  | some _ => rfl
  | none =>
   simp only [Option.elim_none]
   rw [oj_inl, l2]
   cases g.2.2.2.findSome? (outB g) <;> rfl
structure AigV (g : TAig) : Prop where
 i0 : 0 ≤ g.1
 sz : siz g ≤ 4096
 outs : g.2.2.2.length ≤ 4096
 and : ∀ (i : Nat) (h : i < g.2.2.1.length), 0 ≤ (g.2.2.1[i]).1 ∧ (g.2.2.1[i]).1 < 2 * (fst0 g + i) ∧ 0 ≤ (g.2.2.1[i]).2 ∧ (g.2.2.1[i]).2 < 2 * (fst0 g + i)
 lat : ∀ x ∈ g.2.1, 0 ≤ x.1 ∧ x.1 < 2 * siz g ∧ x.2 ≤ 1
 out : ∀ x ∈ g.2.2.2, 0 ≤ x ∧ x < 2 * siz g
theorem elim0 {o : Option Unit} {a : Int} (h : o.elim a (fun _ => 1) = 0) : o = none ∧ a = 0 := by
 cases o with
 | none => exact ⟨rfl, h⟩
 | some _ => cases h
theorem chk_ok {g : TAig} (h : chk g = 0) : AigV g := by
 unfold chk at h
 split at h
 ·cases h
 split at h
 ·cases h
 split at h
 ·cases h
 split at h
 ·cases h
 obtain ⟨h1, h⟩ := elim0 h
 obtain ⟨h2, h⟩ := elim0 h
 obtain ⟨h3, -⟩ := elim0 h
 refine ⟨by omega, by omega, by omega, fun i hi => ?_, fun x hx => ?_, fun x hx => ?_⟩
 ·have := List.findSome?_eq_none_iff.1 h1 i (by simpa using hi)
  unfold andB litB at this
  rw [getD_lt hi] at this
  simp at this
  exact this
 ·have := List.findSome?_eq_none_iff.1 h2 x hx
  unfold latB litB at this
  simp at this
  exact this
 ·have := List.findSome?_eq_none_iff.1 h3 x hx
  unfold outB litB at this
  simp at this
  exact this
end Go.Proofs.YtkcmacdakgohcaaDoor
