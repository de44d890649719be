/- Plain laws of the chapter's functions. -/
import Derived.Test.YtkcmacdakgohcaaDoorD36
import Derived.Test.YtkcmacdakgohcaaDoorPl
set_option linter.unusedSectionVars false
set_option linter.unusedSimpArgs false
set_option linter.unusedVariables false

open Go Go.AM Go.TM
namespace Go.Proofs.YtkcmacdakgohcaaDoor
end Go.Proofs.YtkcmacdakgohcaaDoor

open Go Go.AM Go.TM
namespace Go.Proofs.YtkcmacdakgohcaaDoor
def AigB (g : TAig) : Prop := g.2.1.length ≤ 140737488355328 ∧ g.2.2.1.length ≤ 140737488355328 ∧ g.2.2.2.length ≤ 140737488355328
def fst0 (g : TAig) : Int := 1 + g.1 + g.2.1.length
def siz (g : TAig) : Int := fst0 g + g.2.2.1.length
def litB (x n : Int) : Bool := decide (0 ≤ x ∧ x < 2 * n)
def andB (g : TAig) (i : Nat) : Option Unit := if litB (g.2.2.1.getD i (0, 0)).1 (fst0 g + i) && litB (g.2.2.1.getD i (0, 0)).2 (fst0 g + i) then none else some ()
def latB (g : TAig) (x : Int × Int) : Option Unit := if litB x.1 (siz g) && decide (x.2 ≤ 1) then none else some ()
def outB (g : TAig) (x : Int) : Option Unit := if litB x (siz g) then none else some ()
def chk (g : TAig) : Int :=
 if g.1 < 0 then 1 else if 4096 < g.1 then 5 else if 4096 < siz g then 5 else if 4096 < (g.2.2.2.length : Int) then 5 else
 ((List.range g.2.2.1.length).findSome? (andB g)).elim ((g.2.1.findSome? (latB g)).elim ((g.2.2.2.findSome? (outB g)).elim 0 fun _ => 1) fun _ => 1) fun _ => 1

theorem F_aig_first_eq (g : TAig) (h : AigB g) (h0 : 0 ≤ g.1) (h1 : g.1 ≤ 4096) : F_aig_first g = some (fst0 g) := by
 obtain ⟨a, b, c⟩ := h
 simp (disch := omega) [F_aig_first, wr64, fst0]
theorem F_aig_size_eq (g : TAig) (h : AigB g) (h0 : 0 ≤ g.1) (h1 : g.1 ≤ 4096) : F_aig_size g = some (siz g) := by
 have e : F_aig_first (g.1, (g.2.1, (g.2.2.1, g.2.2.2))) = some (fst0 g) := F_aig_first_eq g h h0 h1
 obtain ⟨a, b, c⟩ := h
 have : fst0 g = 1 + g.1 + g.2.1.length := rfl
 simp (disch := omega) [F_aig_size, e, wr64, siz]
theorem F_aig_Check_1_eq (x n : Int) (h : -4611686018427387904 ≤ n) (h2 : n ≤ 4611686018427387903) : F_aig_Check_1 x n = some (litB x n) := by
 unfold F_aig_Check_1 litB
 by_cases e : 0 ≤ x <;> simp (disch := omega) [e, wr64]
theorem F_aig_Check_eq (g : TAig) (h : AigB g) : F_aig_Check g = some (chk g) := by
 unfold F_aig_Check chk
 simp only [br_def, lt_def, decide_eq_true_eq]
 by_cases h0 : g.1 < 0
 ·simp [h0]
 rw [if_neg h0, if_neg h0]
 by_cases h1 : 4096 < g.1
 ·simp [h1]
 rw [if_neg h1, if_neg h1, show F_aig_size (g.1, (g.2.1, (g.2.2.1, g.2.2.2))) = some (siz g) from F_aig_size_eq g h (by omega) (by omega), ob_some]
 by_cases h2 : 4096 < siz g
 ·simp [h2]
 rw [if_neg h2, if_neg h2]
 by_cases h3 : 4096 < (g.2.2.2.length : Int)
 ·simp [h3]
 rw [if_neg (by simpa using h3), if_neg h3]
 have hs : siz g = fst0 g + g.2.2.1.length := rfl
 have hf : fst0 g = 1 + g.1 + g.2.1.length := rfl
 have e89 : F_aig_first (g.1, (g.2.1, (g.2.2.1, g.2.2.2))) = some (fst0 g) := F_aig_first_eq g h (by omega) (by omega)
 have e87 : F_aig_size (g.1, (g.2.1, (g.2.2.1, g.2.2.2))) = some (siz g) := F_aig_size_eq g h (by omega) (by omega)
 have l0 := iterS_findR (f := F_aig_Check_l0 g (siz g)) g.2.2.1.length (fun i => ((i : Int), ())) (andB g) (.inl ((g.2.2.1.length : Int), ())) (fun _ => .inr 1)
  (fun i hi => by
   have q1 : F_aig_Check_1 (g.2.2.1[i]).1 (fst0 g + i) = some (litB (g.2.2.1[i]).1 (fst0 g + i)) := F_aig_Check_1_eq _ _ (by omega) (by omega)
   have q2 : F_aig_Check_1 (g.2.2.1[i]).2 (fst0 g + i) = some (litB (g.2.2.1[i]).2 (fst0 g + i)) := F_aig_Check_1_eq _ _ (by omega) (by omega)
   simp (disch := omega) [F_aig_Check_l0, rd_lt hi, hi, e89, wr64, q1, q2, andB]
   cases litB (g.2.2.1[i]).1 (fst0 g + i) <;> cases litB (g.2.2.1[i]).2 (fst0 g + i) <;> simp)
  (by simp [F_aig_Check_l0])
 have l1 := iterS_find (f := F_aig_Check_l1 g (siz g) ((g.2.2.1.length : Int), ())) g.2.1 (fun i => ((i : Int), ())) (latB g) (.inl ((g.2.1.length : Int), ())) (fun _ => .inr 1)
  (fun i hi => by
   have q1 : F_aig_Check_1 (g.2.1[i]).1 (siz g) = some (litB (g.2.1[i]).1 (siz g)) := F_aig_Check_1_eq _ _ (by omega) (by omega)
   simp (disch := omega) [F_aig_Check_l1, rd_lt hi, hi, e87, wr64, q1, latB]
   cases litB (g.2.1[i]).1 (siz g) <;> by_cases q : (g.2.1[i]).2 ≤ 1 <;> simp [q] <;> omega)
  (by simp [F_aig_Check_l1])
 have l2 := iterS_find (f := F_aig_Check_l2 g (siz g) ((g.2.2.1.length : Int), ()) ((g.2.1.length : Int), ())) g.2.2.2 (fun i => ((i : Int), ())) (outB g) (.inl ((g.2.2.2.length : Int), ())) (fun _ => .inr 1)
  (fun i hi => by
   have q1 : F_aig_Check_1 (g.2.2.2[i]) (siz g) = some (litB (g.2.2.2[i]) (siz g)) := F_aig_Check_1_eq _ _ (by omega) (by omega)
   simp (disch := omega) [F_aig_Check_l2, rd_lt hi, hi, e87, wr64, q1, outB]
   cases litB (g.2.2.2[i]) (siz g) <;> simp)
  (by simp [F_aig_Check_l2])
 rw [show ((0 : Int), ()) = (((0 : Nat) : Int), ()) from rfl, l0]
 cases (List.range g.2.2.1.length).findSome? (andB g) with
 | some _ => rfl
 | none =>
  simp only [Option.elim_none]
  rw [oj_inl, l1]
  cases g.2.1.findSome? (latB g) with
  | some _ => rfl
  | none =>
   simp only [Option.elim_none]
   rw [oj_inl, l2]
   cases g.2.2.2.findSome? (outB g) <;> rfl
theorem F_r20_Nodes_eq (g : TAig) (h : AigB g) (h0 : 0 ≤ g.1) (h1 : g.1 ≤ 4096) : F_r20_Nodes g = some (siz g) := by
 obtain ⟨a, b, c⟩ := h
 simp (disch := omega) [F_r20_Nodes, wr64, siz, fst0]
theorem F_r20_Check_eq (g : TAig) (h : AigB g) : F_r20_Check g = some (chk g) := by
 unfold F_r20_Check chk
 simp only [br_def, lt_def, decide_eq_true_eq]
 by_cases h0 : g.1 < 0
 ·simp [h0]
 rw [if_neg h0, if_neg h0]
 by_cases h1 : 4096 < g.1
 ·simp [h1]
 have hs : siz g = fst0 g + g.2.2.1.length := rfl
 have hf : fst0 g = 1 + g.1 + g.2.1.length := rfl
 rw [if_neg h1, if_neg h1]
 by_cases h4 : 4096 < (g.2.1.length : Int)
 ·rw [if_pos (by simpa using h4), if_pos (by omega)]
 rw [if_neg (by simpa using h4)]
 by_cases h5 : 4096 < (g.2.2.1.length : Int)
 ·rw [if_pos (by simpa using h5), if_pos (by omega)]
 have e70 : F_r20_Nodes (g.1, (g.2.1, (g.2.2.1, g.2.2.2))) = some (siz g) := F_r20_Nodes_eq g h (by omega) (by omega)
 rw [if_neg (by simpa using h5), e70, ob_some]
 by_cases h2 : 4096 < siz g
 ·simp [h2]
 rw [if_neg h2, if_neg h2]
 by_cases h3 : 4096 < (g.2.2.2.length : Int)
 ·simp [h3]
 rw [if_neg (by simpa using h3), if_neg h3]
 have l0 := iterS_findR (f := F_r20_Check_l0 g (siz g)) g.2.2.1.length (fun i => ((i : Int), ())) (andB g) (.inl ((g.2.2.1.length : Int), ())) (fun _ => .inr 1)
  (fun i hi => by
   simp (disch := omega) [F_r20_Check_l0, rd_lt hi, hi, wr64, andB, litB, ← hf]
   by_cases a1 : (g.2.2.1[i]).1 < 0
   ·rw [if_pos a1, if_neg (by omega)]; rfl
   rw [if_neg a1]
   by_cases a2 : 2 * (fst0 g + i) ≤ (g.2.2.1[i]).1
   ·rw [if_pos a2, if_neg (by omega)]; rfl
   rw [if_neg a2]
   by_cases a3 : (g.2.2.1[i]).2 < 0
   ·rw [if_pos a3, if_neg (by omega)]; rfl
   rw [if_neg a3]
   by_cases a4 : 2 * (fst0 g + i) ≤ (g.2.2.1[i]).2
   ·rw [if_pos a4, if_neg (by omega)]; rfl
   rw [if_neg a4, if_pos (by omega)]; rfl)
  (by simp [F_r20_Check_l0])
 have l1 := iterS_find (f := F_r20_Check_l1 g (siz g) ((g.2.2.1.length : Int), ()) (siz g)) g.2.1 (fun i => ((i : Int), ())) (latB g) (.inl ((g.2.1.length : Int), ())) (fun _ => .inr 1)
  (fun i hi => by
   simp (disch := omega) [F_r20_Check_l1, rd_lt hi, hi, wr64, latB, litB]
   by_cases a1 : (g.2.1[i]).1 < 0
   ·rw [if_pos a1, if_neg (by omega)]; rfl
   rw [if_neg a1]
   by_cases a2 : 2 * siz g ≤ (g.2.1[i]).1
   ·rw [if_pos a2, if_neg (by omega)]; rfl
   rw [if_neg a2]
   by_cases a3 : 1 < (g.2.1[i]).2
   ·rw [if_pos a3, if_neg (by omega)]; rfl
   rw [if_neg a3, if_pos (by omega)]; rfl)
  (by simp [F_r20_Check_l1])
 have l2 := iterS_find (f := F_r20_Check_l2 g (siz g) ((g.2.2.1.length : Int), ()) (siz g) ((g.2.1.length : Int), ())) g.2.2.2 (fun i => ((i : Int), ())) (outB g) (.inl ((g.2.2.2.length : Int), ())) (fun _ => .inr 1)
  (fun i hi => by
   simp (disch := omega) [F_r20_Check_l2, rd_lt hi, hi, wr64, outB, litB]
   by_cases a1 : (g.2.2.2[i]) < 0
   ·rw [if_pos a1, if_neg (by omega)]; rfl
   rw [if_neg a1]
   by_cases a2 : 2 * siz g ≤ (g.2.2.2[i])
   ·rw [if_pos a2, if_neg (by omega)]; rfl
   rw [if_neg a2, if_pos (by omega)]; rfl)
  (by simp [F_r20_Check_l2])
 rw [show ((0 : Int), ()) = (((0 : Nat) : Int), ()) from rfl, l0]
 cases (List.range g.2.2.1.length).findSome? (andB g) with
 | some _ => rfl
 | none =>
  simp only [Option.elim_none]
  rw [oj_inl, ob_some, l1]
  cases g.2.1.findSome? (latB g) with
  | some _ => rfl
  | none =>
   simp only [Option.elim_none]
   rw [oj_inl, l2]
   cases g.2.2.2.findSome? (outB g) <;> rfl
structure AigV (g : TAig) : Prop where
 i0 : 0 ≤ g.1
 sz : siz g ≤ 4096
 outs : g.2.2.2.length ≤ 4096
 and : ∀ (i : Nat) (h : i < g.2.2.1.length), 0 ≤ (g.2.2.1[i]).1 ∧ (g.2.2.1[i]).1 < 2 * (fst0 g + i) ∧ 0 ≤ (g.2.2.1[i]).2 ∧ (g.2.2.1[i]).2 < 2 * (fst0 g + i)
 lat : ∀ x ∈ g.2.1, 0 ≤ x.1 ∧ x.1 < 2 * siz g ∧ x.2 ≤ 1
 out : ∀ x ∈ g.2.2.2, 0 ≤ x ∧ x < 2 * siz g
theorem elim0 {o : Option Unit} {a : Int} (h : o.elim a (fun _ => 1) = 0) : o = none ∧ a = 0 := by
 cases o with
 | none => exact ⟨rfl, h⟩
 | some _ => cases h
theorem chk_ok {g : TAig} (h : chk g = 0) : AigV g := by
 unfold chk at h
 split at h
 ·cases h
 split at h
 ·cases h
 split at h
 ·cases h
 split at h
 ·cases h
 obtain ⟨h1, h⟩ := elim0 h
 obtain ⟨h2, h⟩ := elim0 h
 obtain ⟨h3, -⟩ := elim0 h
 refine ⟨by omega, by omega, by omega, fun i hi => ?_, fun x hx => ?_, fun x hx => ?_⟩
 ·have := List.findSome?_eq_none_iff.1 h1 i (by simpa using hi)
  unfold andB litB at this
  rw [getD_lt hi] at this
  simp at this
  exact this
 ·have := List.findSome?_eq_none_iff.1 h2 x hx
  unfold latB litB at this
  simp at this
  exact this
 ·have := List.findSome?_eq_none_iff.1 h3 x hx
  unfold outB litB at this
  simp at this
  exact this
end Go.Proofs.YtkcmacdakgohcaaDoor

open Go Go.AM Go.TM
namespace Go.Proofs.YtkcmacdakgohcaaDoor
def not3 (b : Int) : Int := if b = 0 then 1 else if b = 1 then 0 else 2
def and3 (a b : Int) : Int := if a = 0 ∨ b = 0 then 0 else if a = 1 ∧ b = 1 then 1 else 2
def of3 (bits : LI) (x : Int) : Int := if x % 2 = 1 then not3 (bits.getD (x / 2).toNat 0) else bits.getD (x / 2).toNat 0
def step3 (b : LI) (x : Int × Int) : LI := b ++ [and3 (of3 b x.1) (of3 b x.2)]
def bits3 (g : TAig) (inp st : LI) : LI := g.2.2.1.foldl step3 (([0] ++ inp) ++ st)
def outs3 (g : TAig) (b : LI) : LI := g.2.2.2.map (of3 b)
def next3 (g : TAig) (b : LI) : LI := g.2.1.map fun l => of3 b l.1
def bit3 (v : Bool) : Int := if v = true then 1 else 0
def start3 (g : TAig) : LI := g.2.1.map fun l => bit3 (decide (l.2 = 1))
def sim3 (g : TAig) : LLI → LI → LLI
 | [], _ => []
 | inp :: r, st => outs3 g (bits3 g inp st) :: sim3 g r (next3 g (bits3 g inp st))
def T3 (b : Int) : Prop := 0 ≤ b ∧ b ≤ 2
theorem T3.cases {b : Int} (h : T3 b) : b = 0 ∨ b = 1 ∨ b = 2 := by unfold T3 at h; omega
theorem not3_T (b : Int) : T3 (not3 b) := by unfold not3 T3; split <;> (try split) <;> omega
theorem and3_T (a b : Int) : T3 (and3 a b) := by unfold and3 T3; split <;> (try split) <;> omega
theorem bit3_T (b : Bool) : T3 (bit3 b) := by unfold bit3 T3; split <;> omega
theorem getD_T {l : LI} (h : ∀ v ∈ l, T3 v) (i : Nat) : T3 (l.getD i 0) := by
 by_cases hi : i < l.length
 ·rw [getD_lt hi]; exact h _ (List.getElem_mem hi)
 ·rw [List.getD_eq_getElem?_getD, List.getElem?_eq_none (by omega)]; exact ⟨Int.le_refl _, by decide⟩
theorem of3_T {l : LI} (h : ∀ v ∈ l, T3 v) (x : Int) : T3 (of3 l x) := by
 unfold of3
 split
 ·exact not3_T _
 ·exact getD_T h _
theorem step3_T {l : LI} (h : ∀ v ∈ l, T3 v) (x : Int × Int) : ∀ v ∈ step3 l x, T3 v := fun v hv => by
 rcases List.mem_append.1 hv with hv | hv
 ·exact h v hv
 ·rw [List.mem_singleton.1 hv]; exact and3_T _ _
theorem F_trace_not_eq {b : Int} (h : T3 b) : F_trace_not b = some (not3 b) := by
 rcases h.cases with rfl | rfl | rfl <;> rfl
theorem F_trace_and_eq {a b : Int} (h : T3 a) (k : T3 b) : F_trace_and a b = some (and3 a b) := by
 rcases h.cases with rfl | rfl | rfl <;> rcases k.cases with rfl | rfl | rfl <;> rfl
theorem F_r36_not_eq (b : Int) : F_r36_not b = some (not3 b) := by
 unfold F_r36_not not3
 by_cases h : b = 0
 ·simp [h]
 ·by_cases k : b = 1 <;> simp [h, k]
theorem F_r36_and_eq (a b : Int) : F_r36_and a b = some (and3 a b) := by
 unfold F_r36_and and3
 by_cases h : a = 0
 ·simp [h]
 by_cases k : b = 0
 ·simp [h, k]
 by_cases h1 : a = 1 <;> by_cases k1 : b = 1 <;> simp [h, k, h1, k1]
theorem F_trace_bit_eq (v : Bool) : F_trace_bit v = some (bit3 v) := by cases v <;> rfl
theorem F_r36_bit_eq (v : Bool) : F_r36_bit v = some (bit3 v) := by cases v <;> rfl
theorem F_r36_of_eq {b : LI} {x : Int} (h0 : 0 ≤ x) (h1 : x / 2 < b.length) (h2 : x ≤ 9223372036854775807) : F_r36_of b x = some (of3 b x) := by
 have hi : (x / 2).toNat < b.length := by omega
 unfold F_r36_of
 simp (disch := omega) only [eq_def, md2, dv2, br_def, ix_def, ni_def, len_def, decide_eq_true_eq, tn_def, rd_lt hi, F_r36_not_eq, ob_some]
 unfold of3
 rw [getD_lt hi]
 by_cases e : x % 2 = 1
 ·rw [if_pos e, if_pos e, if_pos (by omega)]
 ·rw [if_neg e, if_neg e, if_pos (by omega)]
theorem foldl_snoc {α β : Type} (f : α → β) (l : List α) (out : List β) : l.foldl (fun out x => out ++ [f x]) out = out ++ l.map f := by
 induction l generalizing out with
 | nil => simp
 | cons x l ih => simp [ih]
theorem loop61_0 {g : TAig} (p : LLI) (h : AigB g) : iterS (F_trace_simulate_l0 g p) (0, ([], ())) = some (.inl ((g.2.1.length : Int), (start3 g, ()))) := by
 have := iterS_fold (f := F_trace_simulate_l0 g p) g.2.1 (fun i out => ((i : Int), out, ())) (fun out x => out ++ [bit3 (decide (x.2 = 1))]) (fun out => .inl ((g.2.1.length : Int), out, ())) (fun i out => out.length = i)
  (fun i out hi ho => by
   obtain ⟨b1, b2, b3⟩ := h
   refine ⟨?_, by simp [ho]⟩
   have e : i + 1 ≤ 140737488355328 := by omega
   simp (disch := omega) [F_trace_simulate_l0, rd_lt hi, wr64, hi, ho, e, F_trace_bit_eq])
  (fun out ho => by simp [F_trace_simulate_l0]) (b := []) rfl
 rw [foldl_snoc] at this
 exact this
theorem loop62_0 {g : TAig} (p : LLI) (h : AigB g) : iterS (F_r36_simulate_l0 g p) (0, ([], ())) = some (.inl ((g.2.1.length : Int), (start3 g, ()))) := by
 have := iterS_fold (f := F_r36_simulate_l0 g p) g.2.1 (fun i out => ((i : Int), out, ())) (fun out x => out ++ [bit3 (decide (x.2 = 1))]) (fun out => .inl ((g.2.1.length : Int), out, ())) (fun i out => out.length = i)
  (fun i out hi ho => by
   obtain ⟨b1, b2, b3⟩ := h
   refine ⟨?_, by simp [ho]⟩
   have e : i + 1 ≤ 140737488355328 := by omega
   simp (disch := omega) [F_r36_simulate_l0, rd_lt hi, wr64, hi, ho, e, F_r36_bit_eq])
  (fun out ho => by simp [F_r36_simulate_l0]) (b := []) rfl
 rw [foldl_snoc] at this
 exact this
def BitsI (g : TAig) (i : Nat) (b : LI) : Prop := (b.length : Int) = fst0 g + i ∧ ∀ v ∈ b, T3 v
theorem BitsI.step {g : TAig} {i : Nat} {b : LI} (h : BitsI g i b) (x : Int × Int) : BitsI g (i + 1) (step3 b x) :=
 ⟨by have := h.1; simp only [step3, List.length_append, List.length_singleton]; omega, step3_T h.2 x⟩
theorem BitsI.all {g : TAig} : ∀ (l : List (Int × Int)) (i : Nat) (b : LI), BitsI g i b → BitsI g (i + l.length) (l.foldl step3 b) := by
 intro l
 induction l with
 | nil => intro i b h; exact h
 | cons x l ih => intro i b h; have := ih (i + 1) _ (h.step x); rw [show i + (x :: l).length = i + 1 + l.length by simp; omega]; exact this
theorem step61_2 {g : TAig} (v : AigV g) (hb : AigB g) {p y1 st1 y2} {i : Nat} {b : LI} (hi : i < g.2.2.1.length) (ho : BitsI g i b) : F_trace_simulate_l2 g p y1 st1 y2 ((i : Int), b, ()) = some (.inl (((i + 1 : Nat) : Int), step3 b g.2.2.1[i], ())) := by
 obtain ⟨b1, b2, b3⟩ := hb
 have hs : siz g = fst0 g + g.2.2.1.length := rfl
 have := v.sz
 obtain ⟨hl, hT⟩ := ho
 obtain ⟨a1, a2, a3, a4⟩ := v.and i hi
 have h1 : ((g.2.2.1[i]).1 / 2).toNat < b.length := by omega
 have h2 : ((g.2.2.1[i]).2 / 2).toNat < b.length := by omega
 have t1 := hT _ (List.getElem_mem h1)
 have t2 := hT _ (List.getElem_mem h2)
 have e : b.length + 1 ≤ 140737488355328 := by omega
 have c1 : (0 ≤ (g.2.2.1[i]).1 / 2 ∧ (g.2.2.1[i]).1 / 2 < (b.length : Int)) := by omega
 have c2 : (0 ≤ (g.2.2.1[i]).2 / 2 ∧ (g.2.2.1[i]).2 / 2 < (b.length : Int)) := by omega
 have w : wr .i64 ((i : Int) + 1) = ((i + 1 : Nat) : Int) := by rw [wr64 (by omega) (by omega)]; rfl
 simp only [F_trace_simulate_l2, br_def, lt_def, ni_def, len_def, ix_def, tn_nat, rd_lt hi, shr1, band1 a1 (by omega), band1 a3 (by omega), eq_def, decide_eq_true_eq, tn_def, rd_lt h1, rd_lt h2, F_trace_not_eq t1, F_trace_not_eq t2, ob_some, fits_def, List.length_singleton, ad_def, w, app_def]
 rw [if_pos (by omega), if_pos (by omega), if_pos c1, if_pos c2]
 simp only [e, if_true, c1, c2, step3, of3, getD_lt h1, getD_lt h2, and_self]
 rcases Int.emod_two_eq (g.2.2.1[i]).1 with q1 | q1 <;> rcases Int.emod_two_eq (g.2.2.1[i]).2 with q2 | q2 <;> simp only [q1, q2, if_true, Int.reduceEq, if_false] <;>
  simp only [F_trace_and_eq t1 t2, F_trace_and_eq (not3_T _) t2, F_trace_and_eq t1 (not3_T _), F_trace_and_eq (not3_T _) (not3_T _), ob_some]
theorem loop61_2 {g : TAig} (v : AigV g) (hb : AigB g) {p y1 st1 y2} (b : LI) (h : BitsI g 0 b) : iterS (F_trace_simulate_l2 g p y1 st1 y2) (0, (b, ())) = some (.inl ((g.2.2.1.length : Int), (g.2.2.1.foldl step3 b, ()))) :=
 iterS_fold (f := F_trace_simulate_l2 g p y1 st1 y2) g.2.2.1 (fun i b => ((i : Int), b, ())) step3 (fun out => .inl ((g.2.2.1.length : Int), out, ())) (BitsI g)
  (fun i b hi ho => ⟨step61_2 v hb hi ho, ho.step _⟩) (fun out ho => by simp [F_trace_simulate_l2]) h
theorem loop62_2 {g : TAig} (v : AigV g) (hb : AigB g) {p y1 st1} (b : LI) (h : BitsI g 0 b) : iterS (F_r36_simulate_l2 g p y1 st1) (0, (b, ())) = some (.inl ((g.2.2.1.length : Int), (g.2.2.1.foldl step3 b, ()))) := by
 have hs : siz g = fst0 g + g.2.2.1.length := rfl
 have := v.sz
 obtain ⟨b1, b2, b3⟩ := hb
 exact iterS_fold (f := F_r36_simulate_l2 g p y1 st1) g.2.2.1 (fun i b => ((i : Int), b, ())) step3 (fun out => .inl ((g.2.2.1.length : Int), out, ())) (BitsI g)
  (fun i b hi ho => by
   refine ⟨?_, ho.step _⟩
   obtain ⟨hl, hT⟩ := ho
   obtain ⟨a1, a2, a3, a4⟩ := v.and i hi
   have e : b.length + 1 ≤ 140737488355328 := by omega
   have q1 : F_r36_of b (g.2.2.1[i]).1 = some (of3 b (g.2.2.1[i]).1) := F_r36_of_eq (by omega) (by omega) (by omega)
   have q2 : F_r36_of b (g.2.2.1[i]).2 = some (of3 b (g.2.2.1[i]).2) := F_r36_of_eq (by omega) (by omega) (by omega)
   simp (disch := omega) [F_r36_simulate_l2, rd_lt hi, hi, q1, q2, F_r36_and_eq, wr64, e, step3])
  (fun out ho => by simp [F_r36_simulate_l2]) h
theorem loop61_3 {g : TAig} (v : AigV g) {p y1 st1 y2} {n : Int} (b : LI) (hl : (b.length : Int) = siz g) (hT : ∀ v ∈ b, T3 v) : iterS (F_trace_simulate_l3 g p y1 st1 y2 (n, (b, ()))) (0, ([], ())) = some (.inl ((g.2.2.2.length : Int), (outs3 g b, ()))) := by
 have hs := v.sz
 have hq := v.outs
 have := iterS_fold (f := F_trace_simulate_l3 g p y1 st1 y2 (n, (b, ()))) g.2.2.2 (fun i out => ((i : Int), out, ())) (fun out x => out ++ [of3 b x]) (fun out => .inl ((g.2.2.2.length : Int), out, ())) (fun i out => out.length = i)
  (fun i out hi ho => by
   refine ⟨?_, by simp [ho]⟩
   obtain ⟨a1, a2⟩ := v.out _ (List.getElem_mem hi)
   have h1 : ((g.2.2.2[i]) / 2).toNat < b.length := by omega
   have t1 := hT _ (List.getElem_mem h1)
   have e : i + 1 ≤ 140737488355328 := by omega
   have c1 : (0 ≤ (g.2.2.2[i]) / 2 ∧ (g.2.2.2[i]) / 2 < (b.length : Int)) := by omega
   simp (disch := omega) only [F_trace_simulate_l3, br_def, lt_def, ni_def, len_def, ix_def, tn_nat, rd_lt hi, shr1, band1, eq_def, decide_eq_true_eq, tn_def, rd_lt h1, F_trace_not_eq t1, ob_some, fits_def, List.length_singleton, ad_def, wr64, app_def, ho]
   rw [if_pos (by omega), if_pos (by omega), if_pos c1]
   simp only [e, if_true, of3, getD_lt h1]
   by_cases q1 : (g.2.2.2[i]) % 2 = 0
   ·rw [if_pos q1, if_neg (by omega)]; rfl
   ·rw [if_neg q1, if_pos c1, if_pos (by omega)]; rfl)
  (fun out ho => by simp [F_trace_simulate_l3]) (b := []) rfl
 rw [foldl_snoc] at this
 exact this
theorem loop61_4 {g : TAig} (v : AigV g) (h : AigB g) {p y1 st1 y2 y12} {n : Int} (b : LI) (hl : (b.length : Int) = siz g) (hT : ∀ v ∈ b, T3 v) : iterS (F_trace_simulate_l4 g p y1 st1 y2 (n, (b, ())) y12) (0, ([], ())) = some (.inl ((g.2.1.length : Int), (next3 g b, ()))) := by
 have hs := v.sz
 have hq := v.outs
 obtain ⟨b1, b2, b3⟩ := h
 have := iterS_fold (f := F_trace_simulate_l4 g p y1 st1 y2 (n, (b, ())) y12) g.2.1 (fun i out => ((i : Int), out, ())) (fun out x => out ++ [of3 b x.1]) (fun out => .inl ((g.2.1.length : Int), out, ())) (fun i out => out.length = i)
  (fun i out hi ho => by
   refine ⟨?_, by simp [ho]⟩
   obtain ⟨a1, a2, a3⟩ := v.lat _ (List.getElem_mem hi)
   have h1 : ((g.2.1[i]).1 / 2).toNat < b.length := by omega
   have t1 := hT _ (List.getElem_mem h1)
   have e : i + 1 ≤ 140737488355328 := by omega
   have c1 : (0 ≤ (g.2.1[i]).1 / 2 ∧ (g.2.1[i]).1 / 2 < (b.length : Int)) := by omega
   simp (disch := omega) only [F_trace_simulate_l4, br_def, lt_def, ni_def, len_def, ix_def, tn_nat, rd_lt hi, shr1, band1, eq_def, decide_eq_true_eq, tn_def, rd_lt h1, F_trace_not_eq t1, ob_some, fits_def, List.length_singleton, ad_def, wr64, app_def, ho]
   rw [if_pos (by omega), if_pos (by omega), if_pos c1]
   simp only [e, if_true, of3, getD_lt h1]
   by_cases q1 : (g.2.1[i]).1 % 2 = 0
   ·rw [if_pos q1, if_neg (by omega)]; rfl
   ·rw [if_neg q1, if_pos c1, if_pos (by omega)]; rfl)
  (fun out ho => by simp [F_trace_simulate_l4]) (b := []) rfl
 rw [foldl_snoc] at this
 exact this
theorem loop62_3 {g : TAig} (v : AigV g) {p y1 st1} {n : Int} (b : LI) (hl : (b.length : Int) = siz g) : iterS (F_r36_simulate_l3 g p y1 st1 (n, (b, ()))) (0, ([], ())) = some (.inl ((g.2.2.2.length : Int), (outs3 g b, ()))) := by
 have hs := v.sz
 have hq := v.outs
 have := iterS_fold (f := F_r36_simulate_l3 g p y1 st1 (n, (b, ()))) g.2.2.2 (fun i out => ((i : Int), out, ())) (fun out x => out ++ [of3 b x]) (fun out => .inl ((g.2.2.2.length : Int), out, ())) (fun i out => out.length = i)
  (fun i out hi ho => by
   refine ⟨?_, by simp [ho]⟩
   obtain ⟨a1, a2⟩ := v.out _ (List.getElem_mem hi)
   have e : i + 1 ≤ 140737488355328 := by omega
   have q1 : F_r36_of b (g.2.2.2[i]) = some (of3 b (g.2.2.2[i])) := F_r36_of_eq (by omega) (by omega) (by omega)
   simp (disch := omega) [F_r36_simulate_l3, rd_lt hi, hi, q1, wr64, e, ho])
  (fun out ho => by simp [F_r36_simulate_l3]) (b := []) rfl
 rw [foldl_snoc] at this
 exact this
theorem loop62_4 {g : TAig} (v : AigV g) (h : AigB g) {p y1 st1 y12} {n : Int} (b : LI) (hl : (b.length : Int) = siz g) : iterS (F_r36_simulate_l4 g p y1 st1 (n, (b, ())) y12) (0, ([], ())) = some (.inl ((g.2.1.length : Int), (next3 g b, ()))) := by
 have hs := v.sz
 have hq := v.outs
 obtain ⟨b1, b2, b3⟩ := h
 have := iterS_fold (f := F_r36_simulate_l4 g p y1 st1 (n, (b, ())) y12) g.2.1 (fun i out => ((i : Int), out, ())) (fun out x => out ++ [of3 b x.1]) (fun out => .inl ((g.2.1.length : Int), out, ())) (fun i out => out.length = i)
  (fun i out hi ho => by
   refine ⟨?_, by simp [ho]⟩
   obtain ⟨a1, a2, a3⟩ := v.lat _ (List.getElem_mem hi)
   have e : i + 1 ≤ 140737488355328 := by omega
   have q1 : F_r36_of b (g.2.1[i]).1 = some (of3 b (g.2.1[i]).1) := F_r36_of_eq (by omega) (by omega) (by omega)
   simp (disch := omega) [F_r36_simulate_l4, rd_lt hi, hi, q1, wr64, e, ho])
  (fun out ho => by simp [F_r36_simulate_l4]) (b := []) rfl
 rw [foldl_snoc] at this
 exact this
end Go.Proofs.YtkcmacdakgohcaaDoor

open Go Go.AM Go.TM
namespace Go.Proofs.YtkcmacdakgohcaaDoor
def of2 (b : LB) (x : Int) : Bool := b.getD (x / 2).toNat false != decide (x % 2 = 1)
def step2 (b : LB) (x : Int × Int) : LB := b ++ [of2 b x.1 && of2 b x.2]
def all2 (g : TAig) (inp st : LB) : LB := g.2.2.1.foldl step2 (([false] ++ inp) ++ st)
def outs2 (g : TAig) (b : LB) : LB := g.2.2.2.map (of2 b)
def next2 (g : TAig) (b : LB) : LB := g.2.1.map fun l => of2 b l.1
def start2 (g : TAig) : LB := g.2.1.map fun l => decide (l.2 = 1)
theorem of_prog {b : LB} {x : Int} (h0 : 0 ≤ x) (h1 : x / 2 < b.length) (h2 : x ≤ 9223372036854775807) : F_aig_values_of b x = some (of2 b x) := by
 have hi : (x / 2).toNat < b.length := by omega
 unfold F_aig_values_of
 simp only [eq_def, shr1, band1 h0 h2, br_def, ix_def, ni_def, len_def, decide_eq_true_eq, tn_def, rd_lt hi, nt_def, bq_def]
 rw [if_pos (by omega)]
 unfold of2
 rw [getD_lt hi]; rfl
theorem of_ref {b : LB} {x : Int} (h0 : 0 ≤ x) (h1 : x / 2 < b.length) (h2 : x ≤ 9223372036854775807) : F_r20_of b x = some (of2 b x) := by
 have hi : (x / 2).toNat < b.length := by omega
 unfold F_r20_of
 simp only [eq_def, dv2 h0 h2, md2 h0, br_def, ix_def, ni_def, len_def, decide_eq_true_eq, tn_def, rd_lt hi, nt_def, bq_def]
 rw [if_pos (by omega)]
 unfold of2
 rw [getD_lt hi]; rfl
def ValsI (g : TAig) (i : Nat) (b : LB) : Prop := (b.length : Int) = fst0 g + i
theorem ValsI.step {g : TAig} {i : Nat} {b : LB} (h : ValsI g i b) (x : Int × Int) : ValsI g (i + 1) (step2 b x) := by
 unfold ValsI at *
 simp only [step2, List.length_append, List.length_singleton]; omega
theorem ValsI.all {g : TAig} : ∀ (l : List (Int × Int)) (i : Nat) (b : LB), ValsI g i b → ValsI g (i + l.length) (l.foldl step2 b) := by
 intro l
 induction l with
 | nil => intro i b h; exact h
 | cons x l ih => intro i b h; have := ih (i + 1) _ (h.step x); rw [show i + (x :: l).length = i + 1 + l.length by simp; omega]; exact this
theorem vals0 {g : TAig} {inp st : LB} (h1 : (inp.length : Int) = g.1) (h3 : st.length = g.2.1.length) : ValsI g 0 (([false] ++ inp) ++ st) := by
 have hf : fst0 g = 1 + g.1 + g.2.1.length := rfl
 unfold ValsI
 simp only [List.length_append, List.length_singleton]; omega
theorem vals_end {g : TAig} {inp st : LB} (h : ValsI g 0 (([false] ++ inp) ++ st)) : ((all2 g inp st).length : Int) = siz g := by
 have := ValsI.all g.2.2.1 0 _ h
 rw [Nat.zero_add] at this
 exact this
theorem all_prog {g : TAig} (v : AigV g) (hb : AigB g) {inp st : LB} (h1 : (inp.length : Int) = g.1) (h3 : st.length = g.2.1.length) : F_aig_all g inp st = some (all2 g inp st) := by
 have hs : siz g = fst0 g + g.2.2.1.length := rfl
 have hf : fst0 g = 1 + g.1 + g.2.1.length := rfl
 have vs := v.sz
 have v0 := v.i0
 obtain ⟨b1, b2, b3⟩ := hb
 have l := iterS_fold (f := F_aig_all_l0 g inp st (siz g)) g.2.2.1 (fun i b => ((i : Int), b, ())) step2 (fun out => .inl ((g.2.2.1.length : Int), out, ())) (ValsI g)
  (fun i b hi ho => by
   refine ⟨?_, ho.step _⟩
   have ho : (b.length : Int) = fst0 g + i := ho
   obtain ⟨a1, a2, a3, a4⟩ := v.and i hi
   have e : b.length + 1 ≤ 140737488355328 := by omega
   have q1 := of_prog (b := b) a1 (by omega) (by omega)
   have q2 := of_prog (b := b) a3 (by omega) (by omega)
   simp (disch := omega) only [F_aig_all_l0, br_def, lt_def, ni_def, len_def, ix_def, tn_nat, rd_lt hi, q1, q2, ob_some, fits_def, ad_def, wr64, app_def, decide_eq_true_eq, List.length_singleton, e, if_true]
   rw [if_pos (by omega), if_pos (by omega)]
   unfold step2
   cases of2 b (g.2.2.1[i]).1 <;> rfl)
  (fun out ho => by simp [F_aig_all_l0]) (vals0 h1 h3)
 unfold F_aig_all
 rw [show F_aig_size (g.1, (g.2.1, (g.2.2.1, g.2.2.2))) = some (siz g) from F_aig_size_eq g ⟨b1, b2, b3⟩ v.i0 (by omega), ob_some]
 simp only [br_def, rg_def, le_def, ml_def, fits_def, len_def, rept_def, app_def, decide_eq_true_eq, show tn 1 = 1 from rfl, List.replicate_one, List.length_append, List.length_singleton]
 rw [if_pos (by omega), if_pos (by omega), if_pos (by omega), if_pos (by omega), if_pos (by omega), show ((0 : Int), ((([false] ++ inp) ++ st), ())) = (((0 : Nat) : Int), (([false] ++ inp) ++ st), ()) from rfl, l]
 rfl
theorem all_ref {g : TAig} (v : AigV g) (hb : AigB g) {inp st : LB} (h1 : (inp.length : Int) = g.1) (h3 : st.length = g.2.1.length) : F_r20_All g inp st = some (all2 g inp st) := by
 have hs : siz g = fst0 g + g.2.2.1.length := rfl
 have hf : fst0 g = 1 + g.1 + g.2.1.length := rfl
 have vs := v.sz
 have v0 := v.i0
 obtain ⟨b1, b2, b3⟩ := hb
 have l := iterS_fold (f := F_r20_All_l0 g inp st) g.2.2.1 (fun i b => ((i : Int), b, ())) step2 (fun out => .inl ((g.2.2.1.length : Int), out, ())) (ValsI g)
  (fun i b hi ho => by
   refine ⟨?_, ho.step _⟩
   have ho : (b.length : Int) = fst0 g + i := ho
   obtain ⟨a1, a2, a3, a4⟩ := v.and i hi
   have e : b.length + 1 ≤ 140737488355328 := by omega
   have q1 := of_ref (b := b) a1 (by omega) (by omega)
   have q2 := of_ref (b := b) a3 (by omega) (by omega)
   simp (disch := omega) only [F_r20_All_l0, br_def, lt_def, ni_def, len_def, ix_def, tn_nat, rd_lt hi, q1, q2, ob_some, fits_def, ad_def, wr64, app_def, decide_eq_true_eq, List.length_singleton, e, if_true]
   rw [if_pos (by omega), if_pos (by omega), if_pos (by omega)]
   unfold step2
   cases of2 b (g.2.2.1[i]).1 <;> rfl)
  (fun out ho => by simp [F_r20_All_l0]) (vals0 h1 h3)
 unfold F_r20_All
 simp only [br_def, fits_def, len_def, app_def, decide_eq_true_eq, List.length_append, List.length_singleton]
 rw [if_pos (by omega), if_pos (by omega), show ((0 : Int), ((([false] ++ inp) ++ st), ())) = (((0 : Nat) : Int), (([false] ++ inp) ++ st), ()) from rfl, l]
 rfl
theorem ends_prog {g : TAig} (v : AigV g) (hb : AigB g) {b : LB} (hl : (b.length : Int) = siz g) : F_aig_ends g b = some (outs2 g b, next2 g b) := by
 have vs := v.sz
 have vo := v.outs
 obtain ⟨b1, b2, b3⟩ := hb
 have l0 := iterS_fold (f := F_aig_ends_l0 g b) g.2.2.2 (fun i out => ((i : Int), out, ())) (fun out x => out ++ [of2 b x]) (fun out => .inl ((g.2.2.2.length : Int), out, ())) (fun i out => out.length = i)
  (fun i out hi ho => by
   refine ⟨?_, by simp [ho]⟩
   obtain ⟨a1, a2⟩ := v.out _ (List.getElem_mem hi)
   have e : i + 1 ≤ 140737488355328 := by omega
   have q := of_prog (b := b) a1 (by omega) (by omega)
   simp (disch := omega) [F_aig_ends_l0, rd_lt hi, wr64, hi, ho, e, q])
  (fun out ho => by simp [F_aig_ends_l0]) (b := []) rfl
 have l1 : ∀ y1, _ := fun y1 => iterS_fold (f := F_aig_ends_l1 g b y1) g.2.1 (fun i out => ((i : Int), out, ())) (fun out x => out ++ [of2 b x.1]) (fun out => .inl ((g.2.1.length : Int), out, ())) (fun i out => out.length = i)
  (fun i out hi ho => by
   refine ⟨?_, by simp [ho]⟩
   obtain ⟨a1, a2, a3⟩ := v.lat _ (List.getElem_mem hi)
   have e : i + 1 ≤ 140737488355328 := by omega
   have q := of_prog (b := b) a1 (by omega) (by omega)
   simp (disch := omega) [F_aig_ends_l1, rd_lt hi, wr64, hi, ho, e, q])
  (fun out ho => by simp [F_aig_ends_l1]) (b := []) rfl
 rw [foldl_snoc] at l0
 unfold F_aig_ends
 rw [show ((0 : Int), (([] : LB), ())) = ((((0 : Nat) : Int)), ([], ())) from rfl, l0, oj_inl, l1, oj_inl, foldl_snoc]; rfl
theorem start_prog {g : TAig} (hc : chk g = 0) (hb : AigB g) : F_aig_Start g = some (start2 g) := by
 have vs := (chk_ok hc).sz
 have hs : siz g = fst0 g + g.2.2.1.length := rfl
 have hf : fst0 g = 1 + g.1 + g.2.1.length := rfl
 have v0 := (chk_ok hc).i0
 have hb' := hb
 obtain ⟨b1, b2, b3⟩ := hb
 have l := iterS_upto (f := F_aig_Start_l0 g (chk g)) (fun j => ((j : Int), ((g.2.1.take j).map (fun l : Int × Int => decide (l.2 = 1)) ++ List.replicate (g.2.1.length - j) false, ()))) g.2.1.length (r := .inl ((g.2.1.length : Int), (start2 g, ())))
  (fun j hj => by
   have e : j < ((g.2.1.take j).map (fun l : Int × Int => decide (l.2 = 1)) ++ List.replicate (g.2.1.length - j) false).length := by simp; omega
   simp only [F_aig_Start_l0, br_def, lt_def, ni_def, len_def, ix_def, tn_nat, rd_lt hj, decide_eq_true_eq, ad_def, put_def, eq_def]
   rw [if_pos (by omega), if_pos (by omega), if_pos (by omega), wr64 (by omega) (by omega)]
   rw [show (decide ((g.2.1[j]).2 = 1)) = (fun l : Int × Int => decide (l.2 = 1)) g.2.1[j] from rfl, set_map _ _ _ _ hj]; rfl)
  (by simp [F_aig_Start_l0, start2])
 unfold F_aig_Start
 rw [show F_aig_Check (g.1, (g.2.1, (g.2.2.1, g.2.2.2))) = some (chk g) from F_aig_Check_eq g hb', ob_some]
 simp only [br_def, ne_def, rg_def, le_def, ml_def, ni_def, len_def, rept_def, decide_eq_true_eq]
 rw [if_neg (by omega), if_pos (by omega), if_pos (by omega), if_pos (by omega), tn_nat]
 simp only [List.take_zero, List.map_nil, List.nil_append, Nat.sub_zero] at l
 rw [show ((0 : Int), (List.replicate g.2.1.length false, ())) = (((0 : Nat) : Int), (List.replicate g.2.1.length false, ())) from rfl, l, oj_inl]
theorem start_ref {g : TAig} (hc : chk g = 0) (hb : AigB g) : F_r20_Start g = some (start2 g) := by
 have hb' := hb
 obtain ⟨b1, b2, b3⟩ := hb
 have ec : F_r20_Check (g.1, (g.2.1, (g.2.2.1, g.2.2.2))) = some (chk g) := F_r20_Check_eq g hb'
 have l := iterS_fold (f := F_r20_Start_l0 g) g.2.1 (fun i out => ((i : Int), out, ())) (fun out x => out ++ [decide (x.2 = 1)]) (fun out => .inl ((g.2.1.length : Int), out, ())) (fun i out => out.length = i)
  (fun i out hi ho => by
   refine ⟨?_, by simp [ho]⟩
   have e : i + 1 ≤ 140737488355328 := by omega
   simp (disch := omega) [F_r20_Start_l0, ec, hc, rd_lt hi, wr64, hi, ho, e])
  (fun out ho => by simp [F_r20_Start_l0, ec, hc]) (b := []) rfl
 rw [foldl_snoc] at l
 unfold F_r20_Start
 rw [show ((0 : Int), (([] : LB), ())) = ((((0 : Nat) : Int)), ([], ())) from rfl, l, oj_inl]; rfl
theorem values_ref {g : TAig} (hc : chk g = 0) (hb : AigB g) {inp st : LB} (h1 : (inp.length : Int) = g.1) (h3 : st.length = g.2.1.length) : F_r20_Values g inp st = some (all2 g inp st, 0) := by
 unfold F_r20_Values
 rw [show F_r20_Check (g.1, (g.2.1, (g.2.2.1, g.2.2.2))) = some (chk g) from F_r20_Check_eq g hb, ob_some]
 simp only [br_def, ne_def, ni_def, len_def, decide_eq_true_eq]
 rw [if_neg (by omega), if_neg (by omega), if_neg (by omega), show F_r20_All (g.1, (g.2.1, (g.2.2.1, g.2.2.2))) inp st = some (all2 g inp st) from all_ref (chk_ok hc) hb h1 h3]; rfl
theorem eval_ref {g : TAig} (hc : chk g = 0) (hb : AigB g) {inp st : LB} (h1 : (inp.length : Int) = g.1) (h3 : st.length = g.2.1.length) : F_r20_Eval g inp st = some (outs2 g (all2 g inp st), (next2 g (all2 g inp st), 0)) := by
 have v := chk_ok hc
 have vs := v.sz
 have vo := v.outs
 have hl := vals_end (vals0 h1 h3)
 have hbb := hb
 obtain ⟨b1, b2, b3⟩ := hb
 generalize hB : all2 g inp st = b at hl
 have l0 := iterS_fold (f := F_r20_Eval_l0 g inp st (b, 0)) g.2.2.2 (fun i out => ((i : Int), out, ())) (fun out x => out ++ [of2 b x]) (fun out => .inl ((g.2.2.2.length : Int), out, ())) (fun i out => out.length = i)
  (fun i out hi ho => by
   refine ⟨?_, by simp [ho]⟩
   obtain ⟨a1, a2⟩ := v.out _ (List.getElem_mem hi)
   have e : i + 1 ≤ 140737488355328 := by omega
   have q := of_ref (b := b) a1 (by omega) (by omega)
   simp (disch := omega) [F_r20_Eval_l0, rd_lt hi, wr64, hi, ho, e, q])
  (fun out ho => by simp [F_r20_Eval_l0]) (b := []) rfl
 have l1 : ∀ y1, _ := fun y1 => iterS_fold (f := F_r20_Eval_l1 g inp st (b, 0) y1) g.2.1 (fun i out => ((i : Int), out, ())) (fun out x => out ++ [of2 b x.1]) (fun out => .inl ((g.2.1.length : Int), out, ())) (fun i out => out.length = i)
  (fun i out hi ho => by
   refine ⟨?_, by simp [ho]⟩
   obtain ⟨a1, a2, a3⟩ := v.lat _ (List.getElem_mem hi)
   have e : i + 1 ≤ 140737488355328 := by omega
   have q := of_ref (b := b) a1 (by omega) (by omega)
   simp (disch := omega) [F_r20_Eval_l1, rd_lt hi, wr64, hi, ho, e, q])
  (fun out ho => by simp [F_r20_Eval_l1]) (b := []) rfl
 rw [foldl_snoc] at l0
 unfold F_r20_Eval
 rw [show F_r20_Values (g.1, (g.2.1, (g.2.2.1, g.2.2.2))) inp st = some (b, 0) from hB ▸ values_ref hc hbb h1 h3, ob_some]
 simp only [br_def, ne_def, decide_eq_true_eq]
 rw [if_neg (by omega), show ((0 : Int), (([] : LB), ())) = ((((0 : Nat) : Int)), ([], ())) from rfl, l0, oj_inl, l1, oj_inl, foldl_snoc]; rfl
def sim2 (g : TAig) : LLB → LB → LLB × LLB
 | [], _ => ([], [])
 | inp :: r, st => (outs2 g (all2 g inp st) :: (sim2 g r (next2 g (all2 g inp st))).1, next2 g (all2 g inp st) :: (sim2 g r (next2 g (all2 g inp st))).2)
def wide (g : TAig) (r : LB) : Option Unit := if (r.length : Int) = g.1 then none else some ()
def run2 (g : TAig) (t : LLB) : LLB × (LLB × Int) := if chk g ≠ 0 then ([], ([], chk g)) else if 64 < (t.length : Int) then ([], ([], 5)) else
 (t.findSome? (wide g)).elim ((sim2 g t (start2 g)).1, (start2 g :: (sim2 g t (start2 g)).2, 0)) fun _ => ([], ([], 12))
theorem wide_ok {g : TAig} {t : LLB} (h : t.findSome? (wide g) = none) : ∀ r ∈ t, (r.length : Int) = g.1 := fun r hr => by
 have := List.findSome?_eq_none_iff.1 h r hr
 unfold wide at this
 split at this
 ·assumption
 ·cases this
def stp2 (g : TAig) (x : LB × LLB × LLB) (inp : LB) : LB × LLB × LLB := (next2 g (all2 g inp x.1), x.2.1 ++ [outs2 g (all2 g inp x.1)], x.2.2 ++ [next2 g (all2 g inp x.1)])
theorem fold2 (g : TAig) : ∀ (p : LLB) (st : LB) (o s : LLB), (p.foldl (stp2 g) (st, o, s)).2 = (o ++ (sim2 g p st).1, s ++ (sim2 g p st).2) := by
 intro p
 induction p with
 | nil => intro st o s; simp [sim2]
 | cons inp r ih => intro st o s; simp only [List.foldl_cons, stp2, ih, sim2, List.append_assoc, List.singleton_append]
theorem next2_len (g : TAig) (b : LB) : (next2 g b).length = g.2.1.length := by simp [next2]
theorem loop_prog {g : TAig} (hc : chk g = 0) (hb : AigB g) {t : LLB} (ht : ∀ r ∈ t, (r.length : Int) = g.1) (hn : t.length ≤ 64) {y5 y6} {o s : LLB} (ho : o.length ≤ 1) (hs : s.length ≤ 1) {st : LB} (hst : st.length = g.2.1.length) :
  iterS (F_aig_Run_l2 g t (chk g) y5 y6) (0, (st, (o, (s, ())))) = some (.inl ((t.length : Int), ((t.foldl (stp2 g) (st, o, s)).1, ((t.foldl (stp2 g) (st, o, s)).2.1, ((t.foldl (stp2 g) (st, o, s)).2.2, ()))))) := by
 have v := chk_ok hc
 exact iterS_fold (f := F_aig_Run_l2 g t (chk g) y5 y6) t (fun i (x : LB × LLB × LLB) => ((i : Int), x.1, x.2.1, x.2.2, ())) (stp2 g) (fun x => .inl ((t.length : Int), x.1, x.2.1, x.2.2, ()))
  (fun i x => x.1.length = g.2.1.length ∧ x.2.1.length ≤ i + 1 ∧ x.2.2.length ≤ i + 1)
  (fun i x hi ⟨q1, q2, q3⟩ => by
   refine ⟨?_, next2_len _ _, by simp [stp2]; omega, by simp [stp2]; omega⟩
   have h1 := ht _ (List.getElem_mem hi)
   have e1 : F_aig_all (g.1, (g.2.1, (g.2.2.1, g.2.2.2))) t[i] x.1 = some (all2 g t[i] x.1) := all_prog v hb h1 q1
   have e2 : F_aig_ends (g.1, (g.2.1, (g.2.2.1, g.2.2.2))) (all2 g t[i] x.1) = some (outs2 g (all2 g t[i] x.1), next2 g (all2 g t[i] x.1)) := ends_prog v hb (vals_end (vals0 h1 q1))
   simp only [F_aig_Run_l2, br_def, lt_def, ni_def, len_def, ix_def, tn_nat, rd_lt hi, decide_eq_true_eq, e1, e2, ob_some, fits_def, ad_def, app_def, List.length_singleton]
   rw [if_pos (by omega), if_pos (by omega), if_pos (by omega), if_pos (by omega), wr64 (by omega) (by omega)]; rfl)
  (fun x _ => by simp [F_aig_Run_l2]) (b := (st, o, s)) ⟨hst, by omega, by omega⟩
theorem start2_len (g : TAig) : (start2 g).length = g.2.1.length := by simp [start2]
theorem run_prog {g : TAig} (hb : AigB g) (t : LLB) : F_aig_Run g t = some (run2 g t) := by
 unfold F_aig_Run run2
 rw [show F_aig_Check (g.1, (g.2.1, (g.2.2.1, g.2.2.2))) = some (chk g) from F_aig_Check_eq g hb, ob_some]
 simp only [br_def, ne_def, lt_def, ni_def, len_def, decide_eq_true_eq]
 by_cases hc : chk g ≠ 0
 ·rw [if_pos hc, if_pos hc]
 rw [if_neg hc, if_neg hc]
 by_cases hl : 64 < (t.length : Int)
 ·rw [if_pos hl, if_pos hl]
 rw [if_neg hl, if_neg hl]
 have hc0 : chk g = 0 := by omega
 have outer := iterS_find (f := F_aig_Run_l0 g t (chk g)) t (fun i => ((i : Int), ())) (wide g) (.inl ((t.length : Int), ())) (fun _ => .inr ([], ([], 12)))
  (fun i hi => by
   simp only [F_aig_Run_l0, br_def, lt_def, ni_def, len_def, ix_def, tn_nat, rd_lt hi, decide_eq_true_eq, ne_def, inR_some', ad_def, le_def]
   rw [if_pos (by omega), if_pos (by omega), if_pos (show (0 : Int) ≤ (i : Int) by omega), wr64 (by omega) (by omega)]
   unfold wide
   by_cases e : (t[i].length : Int) = g.1
   ·rw [if_neg (by simpa using e), if_pos e]; rfl
   ·rw [if_pos e, if_neg e]; rfl)
  (by simp [F_aig_Run_l0])
 rw [show ((0 : Int), ()) = (((0 : Nat) : Int), ()) from rfl, outer]
 cases e : t.findSome? (wide g) with
 | some _ => rfl
 | none =>
  simp only [Option.elim_none]
  rw [oj_inl, show F_aig_Start (g.1, (g.2.1, (g.2.2.1, g.2.2.2))) = some (start2 g) from start_prog hc0 hb, ob_some]
  simp only [fits_def, List.length_singleton, decide_eq_true_eq]
  rw [if_pos (by omega), loop_prog hc0 hb (wide_ok e) (by omega) (by simp) (by simp) (start2_len g), oj_inl, fold2]
  rfl
theorem run_ref {g : TAig} (hb : AigB g) (t : LLB) : F_r20_Run g t = some (run2 g t) := by
 unfold F_r20_Run run2
 rw [show F_r20_Check (g.1, (g.2.1, (g.2.2.1, g.2.2.2))) = some (chk g) from F_r20_Check_eq g hb, ob_some]
 simp only [br_def, ne_def, lt_def, ni_def, len_def, decide_eq_true_eq]
 by_cases hc : chk g ≠ 0
 ·rw [if_pos hc, if_pos hc]
 rw [if_neg hc, if_neg hc]
 by_cases hl : 64 < (t.length : Int)
 ·rw [if_pos hl, if_pos hl]
 rw [if_neg hl, if_neg hl]
 have hc0 : chk g = 0 := by omega
 have outer := iterS_find (f := F_r20_Run_l0 g t (chk g)) t (fun i => ((i : Int), ())) (wide g) (.inl ((t.length : Int), ())) (fun _ => .inr ([], ([], 12)))
  (fun i hi => by
   simp only [F_r20_Run_l0, br_def, lt_def, ni_def, len_def, ix_def, tn_nat, rd_lt hi, decide_eq_true_eq, ne_def, inR_some', ad_def]
   rw [if_pos (by omega), if_pos (by omega), wr64 (by omega) (by omega)]
   unfold wide
   by_cases e : (t[i].length : Int) = g.1
   ·rw [if_neg (by simpa using e), if_pos e]; rfl
   ·rw [if_pos e, if_neg e]; rfl)
  (by simp [F_r20_Run_l0])
 rw [show ((0 : Int), ()) = (((0 : Nat) : Int), ()) from rfl, outer]
 cases e : t.findSome? (wide g) with
 | some _ => rfl
 | none =>
  simp only [Option.elim_none]
  rw [oj_inl, show F_r20_Start (g.1, (g.2.1, (g.2.2.1, g.2.2.2))) = some (start2 g) from start_ref hc0 hb, ob_some]
  have ht := wide_ok e
  have fr : F_r20_From g t (start2 g) = some ((sim2 g t (start2 g)).1, start2 g :: (sim2 g t (start2 g)).2) := by
   have l := iterS_fold (f := F_r20_From_l0 g t (start2 g)) t (fun i (x : LB × LLB × LLB) => ((i : Int), x.1, x.2.1, x.2.2, ())) (stp2 g) (fun x => .inl ((t.length : Int), x.1, x.2.1, x.2.2, ()))
    (fun i x => x.1.length = g.2.1.length ∧ x.2.1.length ≤ i + 1 ∧ x.2.2.length ≤ i + 1)
    (fun i x hi ⟨q1, q2, q3⟩ => by
     refine ⟨?_, next2_len _ _, by simp [stp2]; omega, by simp [stp2]; omega⟩
     have h1 := ht _ (List.getElem_mem hi)
     have e1 : F_r20_Eval (g.1, (g.2.1, (g.2.2.1, g.2.2.2))) t[i] x.1 = some (outs2 g (all2 g t[i] x.1), (next2 g (all2 g t[i] x.1), 0)) := eval_ref hc0 hb h1 q1
     simp only [F_r20_From_l0, br_def, lt_def, ni_def, len_def, ix_def, tn_nat, rd_lt hi, decide_eq_true_eq, e1, ob_some, fits_def, ad_def, app_def, List.length_singleton]
     rw [if_pos (by omega), if_pos (by omega), if_pos (by omega), if_pos (by omega), wr64 (by omega) (by omega)]; rfl)
    (fun x _ => by simp [F_r20_From_l0]) (b := (start2 g, [], [start2 g])) ⟨start2_len g, by simp, by simp⟩
   unfold F_r20_From
   rw [show ((0 : Int), (start2 g, (([] : LLB), (([start2 g] : LLB), ())))) = ((((0 : Nat) : Int)), (start2 g, ([], ([start2 g], ())))) from rfl, l, oj_inl, fold2]; rfl
  rw [show F_r20_From (g.1, (g.2.1, (g.2.2.1, g.2.2.2))) t (start2 g) = _ from fr]; rfl
end Go.Proofs.YtkcmacdakgohcaaDoor

open Go Go.AM Go.TM
namespace Go.Proofs.YtkcmacdakgohcaaDoor
theorem flat_take {α : Type} (a : List (List α)) (i : Nat) (h : i < a.length) : (a.take (i + 1)).flatten = (a.take i).flatten ++ a[i] := by
 rw [← List.take_append_getElem h, List.flatten_append]; simp
theorem flat_le {α : Type} (a : List (List α)) (i : Nat) : (a.take i).flatten.length ≤ a.flatten.length := by
 have := congrArg List.length (congrArg List.flatten (List.take_append_drop i a))
 rw [List.flatten_append, List.length_append] at this
 omega
theorem F_slices_Concat_Bit_Bit_eq (a : LLI) (h : a.length ≤ 140737488355328) (h2 : a.flatten.length ≤ 140737488355328) : F_slices_Concat_Bit_Bit a = some a.flatten := by
 have l0 := iterS_upto (f := F_slices_Concat_Bit_Bit_l0 a) (fun i => ((i : Int), ((a.take i).flatten.length : Int), ())) a.length (r := .inl ((a.length : Int), (a.flatten.length : Int), ()))
  (fun i hi => by
   have e := flat_take a i hi
   have e2 := flat_le a (i + 1)
   have e3 := congrArg List.length e
   rw [List.length_append] at e3
   simp only [F_slices_Concat_Bit_Bit_l0, br_def, lt_def, ni_def, len_def, ix_def, tn_nat, rd_lt hi, decide_eq_true_eq, ad_def]
   rw [if_pos (by omega), if_pos (by omega), wr64 (by omega) (by omega), if_neg (by omega), wr64 (by omega) (by omega), e3]; rfl)
  (by simp [F_slices_Concat_Bit_Bit_l0])
 have l1 : ∀ y0, iterS (F_slices_Concat_Bit_Bit_l1 a y0) (0, ([], ())) = some (.inl ((a.length : Int), a.flatten, ())) := fun y0 => by
  have := iterS_upto (f := F_slices_Concat_Bit_Bit_l1 a y0) (fun i => ((i : Int), (a.take i).flatten, ())) a.length (r := .inl ((a.length : Int), a.flatten, ()))
   (fun i hi => by
    have e := flat_take a i hi
    have e2 := flat_le a (i + 1)
    have e3 := congrArg List.length e
    rw [List.length_append] at e3
    simp only [F_slices_Concat_Bit_Bit_l1, br_def, lt_def, ni_def, len_def, ix_def, tn_nat, rd_lt hi, decide_eq_true_eq, ad_def, fits_def, app_def]
    rw [if_pos (by omega), if_pos (by omega), if_pos (by omega), wr64 (by omega) (by omega), e]; rfl)
   (by simp [F_slices_Concat_Bit_Bit_l1])
  simpa using this
 have l2 : ∀ y0, iterS (F_slices_Concat_Bit_Bit_l2 a y0) (0, ([], ())) = some (.inl ((a.length : Int), a.flatten, ())) := l1
 unfold F_slices_Concat_Bit_Bit
 rw [show ((0 : Int), ((0 : Int), ())) = (((0 : Nat) : Int), ((a.take 0).flatten.length : Int), ()) by simp, l0, oj_inl]
 simp only [br_def, lt_def, sb_def, ni_def, len_def, rept_def, cut_def, rg_def, fits_def, decide_eq_true_eq]
 rw [if_neg (by omega), show wr .i64 (0 - ((0 : Nat) : Int)) = 0 from wr64 (by decide) (by decide), wr64 (by omega) (by omega)]
 by_cases h0 : a.flatten.length = 0
 ·rw [if_neg (by omega), l2]
 ·have e : tn ((a.flatten.length : Int) - 0) = a.flatten.length := by
   show Int.toNat _ = _
   omega
  rw [if_pos (by omega), if_pos (by omega), e, if_pos (by omega), if_pos (by simp)]
  rw [show tn (((0 : Nat) : Int)) = 0 from rfl, List.take_zero, l1]
def PatOk (g : TAig) (p : LLI) : Prop := ∀ r ∈ p, (r.length : Int) = g.1 ∧ ∀ v ∈ r, T3 v
theorem bits0 {g : TAig} {inp st : LI} (h1 : (inp.length : Int) = g.1) (h2 : ∀ v ∈ inp, T3 v) (h3 : st.length = g.2.1.length) (h4 : ∀ v ∈ st, T3 v) : BitsI g 0 (([0] ++ inp) ++ st) := by
 refine ⟨?_, fun v hv => ?_⟩
 ·have hf : fst0 g = 1 + g.1 + g.2.1.length := rfl
  simp only [List.length_append, List.length_singleton]; omega
 ·rcases List.mem_append.1 hv with hv | hv
  ·rcases List.mem_append.1 hv with hv | hv
   ·rw [List.mem_singleton.1 hv]; exact ⟨Int.le_refl _, by decide⟩
   ·exact h2 v hv
  ·exact h4 v hv
theorem bits_end {g : TAig} {inp st : LI} (h : BitsI g 0 (([0] ++ inp) ++ st)) : ((bits3 g inp st).length : Int) = siz g ∧ ∀ v ∈ bits3 g inp st, T3 v := by
 have := BitsI.all g.2.2.1 0 _ h
 rw [Nat.zero_add] at this
 exact ⟨this.1, this.2⟩
theorem next3_ok {g : TAig} {b : LI} (h : ∀ v ∈ b, T3 v) : (next3 g b).length = g.2.1.length ∧ ∀ v ∈ next3 g b, T3 v :=
 ⟨by simp [next3], fun v hv => by obtain ⟨l, -, rfl⟩ := List.mem_map.1 hv; exact of3_T h _⟩
theorem start3_ok (g : TAig) : (start3 g).length = g.2.1.length ∧ ∀ v ∈ start3 g, T3 v :=
 ⟨by simp [start3], fun v hv => by obtain ⟨l, -, rfl⟩ := List.mem_map.1 hv; exact bit3_T _⟩
theorem fold61 (g : TAig) : ∀ (p : LLI) (st b : LI) (out : LLI), (p.foldl (fun (x : LI × LI × LLI) inp => (next3 g (bits3 g inp x.1), bits3 g inp x.1, x.2.2 ++ [outs3 g (bits3 g inp x.1)])) (st, b, out)).2.2 = out ++ sim3 g p st := by
 intro p
 induction p with
 | nil => intro st b out; simp [sim3]
 | cons inp r ih => intro st b out; simp only [List.foldl_cons, ih, sim3, List.append_assoc, List.singleton_append]
theorem F_trace_simulate_eq {g : TAig} (v : AigV g) (hb : AigB g) {p : LLI} (hp : PatOk g p) (hn : p.length ≤ 5864062014804) : F_trace_simulate g p = some (sim3 g p (start3 g)) := by
 have hv := v.sz
 have hs : siz g = fst0 g + g.2.2.1.length := rfl
 have hf : fst0 g = 1 + g.1 + g.2.1.length := rfl
 unfold F_trace_simulate
 rw [loop61_0 p hb, oj_inl]
 have := iterS_fold (f := F_trace_simulate_l1 g p ((g.2.1.length : Int), (start3 g, ()))) p (fun i (x : LI × LI × LLI) => ((i : Int), x.1, x.2.1, x.2.2, ()))
  (fun (x : LI × LI × LLI) inp => (next3 g (bits3 g inp x.1), bits3 g inp x.1, x.2.2 ++ [outs3 g (bits3 g inp x.1)])) (fun x => .inl ((p.length : Int), x.1, x.2.1, x.2.2, ())) (fun i x => (x.1.length = g.2.1.length ∧ ∀ v ∈ x.1, T3 v) ∧ x.2.2.length = i)
  (fun i x hi ⟨⟨q1, q2⟩, q3⟩ => by
   obtain ⟨r1, r2⟩ := hp _ (List.getElem_mem hi)
   have z := bits0 (st := x.1) r1 r2 q1 q2
   obtain ⟨z1, z2⟩ := bits_end z
   refine ⟨?_, next3_ok z2, by simp [q3]⟩
   have c : F_slices_Concat_Bit_Bit [[0], p[i], x.1] = some (([0] ++ p[i]) ++ x.1) := by
    have := v.i0
    rw [F_slices_Concat_Bit_Bit_eq _ (by simp) (by simp; omega)]; simp
   simp only [F_trace_simulate_l1, br_def, lt_def, ni_def, len_def, ix_def, tn_nat, rd_lt hi, decide_eq_true_eq, c, ob_some]
   rw [if_pos (by omega), if_pos (by omega), loop61_2 v hb _ z, oj_inl, show g.2.2.1.foldl step3 (([0] ++ p[i]) ++ x.1) = bits3 g p[i] x.1 from rfl, loop61_3 v _ z1 z2, oj_inl, loop61_4 v hb _ z1 z2, oj_inl]
   simp only [fits_def, ad_def, app_def, decide_eq_true_eq, List.length_singleton, q3]
   rw [if_pos (by omega), wr64 (by omega) (by omega)]; rfl)
  (fun x _ => by simp [F_trace_simulate_l1]) (b := (start3 g, [], [])) ⟨start3_ok g, rfl⟩
 rw [show ((0 : Int), ((start3 g), (([] : LI), (([] : LLI), ())))) = ((((0 : Nat) : Int)), (start3 g, ([], ([], ())))) from rfl, this, oj_inl]
 rw [fold61]; rfl
theorem fold62 (g : TAig) : ∀ (p : LLI) (st : LI) (out : LLI), (p.foldl (fun (x : LI × LLI) inp => (next3 g (bits3 g inp x.1), x.2 ++ [outs3 g (bits3 g inp x.1)])) (st, out)).2 = out ++ sim3 g p st := by
 intro p
 induction p with
 | nil => intro st out; simp [sim3]
 | cons inp r ih => intro st out; simp only [List.foldl_cons, ih, sim3, List.append_assoc, List.singleton_append]
theorem F_r36_simulate_eq {g : TAig} (v : AigV g) (hb : AigB g) {p : LLI} (hp : PatOk g p) (hn : p.length ≤ 5864062014804) : F_r36_simulate g p = some (sim3 g p (start3 g)) := by
 have hv := v.sz
 have hs : siz g = fst0 g + g.2.2.1.length := rfl
 have hf : fst0 g = 1 + g.1 + g.2.1.length := rfl
 unfold F_r36_simulate
 rw [loop62_0 p hb, oj_inl]
 have := iterS_fold (f := F_r36_simulate_l1 g p ((g.2.1.length : Int), (start3 g, ()))) p (fun i (x : LI × LLI) => ((i : Int), x.1, x.2, ()))
  (fun (x : LI × LLI) inp => (next3 g (bits3 g inp x.1), x.2 ++ [outs3 g (bits3 g inp x.1)])) (fun x => .inl ((p.length : Int), x.1, x.2, ())) (fun i x => (x.1.length = g.2.1.length ∧ ∀ v ∈ x.1, T3 v) ∧ x.2.length = i)
  (fun i x hi ⟨⟨q1, q2⟩, q3⟩ => by
   obtain ⟨r1, r2⟩ := hp _ (List.getElem_mem hi)
   have z := bits0 (st := x.1) r1 r2 q1 q2
   obtain ⟨z1, z2⟩ := bits_end z
   refine ⟨?_, next3_ok z2, by simp [q3]⟩
   have := v.i0
   have l1 := z.1
   simp only [List.length_append, List.length_singleton] at l1
   simp only [F_r36_simulate_l1, br_def, lt_def, ni_def, len_def, ix_def, tn_nat, rd_lt hi, decide_eq_true_eq, fits_def, app_def, List.length_append, List.length_singleton]
   rw [if_pos (by omega), if_pos (by omega), if_pos (by omega), if_pos (by omega), loop62_2 v hb _ z, oj_inl, show g.2.2.1.foldl step3 (([0] ++ p[i]) ++ x.1) = bits3 g p[i] x.1 from rfl, loop62_3 v _ z1, oj_inl, loop62_4 v hb _ z1, oj_inl]
   simp only [ad_def, q3]
   rw [if_pos (by omega), wr64 (by omega) (by omega)]; rfl)
  (fun x _ => by simp [F_r36_simulate_l1]) (b := (start3 g, [])) ⟨start3_ok g, rfl⟩
 rw [show ((0 : Int), ((start3 g), (([] : LLI), ()))) = ((((0 : Nat) : Int)), (start3 g, ([], ()))) from rfl, this, oj_inl]
 rw [fold62]; rfl
end Go.Proofs.YtkcmacdakgohcaaDoor

open Go Go.AM Go.TM
namespace Go.Proofs.YtkcmacdakgohcaaDoor
def hi3 (v : Int) : Option Unit := if 2 < v then some () else none
def rowB (g : TAig) (r : LI) : Option Int := if (r.length : Int) ≠ g.1 then some 12 else (r.findSome? hi3).elim none fun _ => some 3
def run3 (g : TAig) (p : LLI) : LLI × Int := if chk g ≠ 0 then ([], chk g) else if 64 < (p.length : Int) then ([], 5) else (p.findSome? (rowB g)).elim (sim3 g p (start3 g), 0) fun e => ([], e)
theorem pat_ok {g : TAig} {p : LLI} (h : p.findSome? (rowB g) = none) (h0 : ∀ r ∈ p, ∀ v ∈ r, 0 ≤ v) : PatOk g p := fun r hr => by
 have := List.findSome?_eq_none_iff.1 h r hr
 unfold rowB at this
 split at this
 ·cases this
 ·rename_i q
  refine ⟨by simpa using q, fun v hv => ⟨h0 r hr v hv, ?_⟩⟩
  cases e : r.findSome? hi3 with
  | some _ => rw [e] at this; cases this
  | none =>
   have := List.findSome?_eq_none_iff.1 e v hv
   unfold hi3 at this
   split at this
   ·cases this
   ·omega
theorem F_trace_Run_eq {g : TAig} (hb : AigB g) {p : LLI} (h1 : p.length ≤ 5864062014804) (h2 : ∀ r ∈ p, r.length ≤ 140737488355328) (h0 : ∀ r ∈ p, ∀ v ∈ r, 0 ≤ v) : F_trace_Run g p = some (run3 g p) := by
 unfold F_trace_Run run3
 rw [show F_aig_Check (g.1, (g.2.1, (g.2.2.1, g.2.2.2))) = some (chk g) from F_aig_Check_eq g hb, ob_some]
 simp only [br_def, ne_def, lt_def, ni_def, len_def, decide_eq_true_eq]
 by_cases hc : chk g ≠ 0
 ·rw [if_pos hc, if_pos hc]
 rw [if_neg hc, if_neg hc]
 by_cases hl : 64 < (p.length : Int)
 ·rw [if_pos hl, if_pos hl]
 rw [if_neg hl, if_neg hl]
 have hc0 : chk g = 0 := by omega
 have inner : ∀ (i : Nat) (hi : i < p.length), iterS (F_trace_Run_l1 g p (chk g) ((i : Int), ())) (0, ()) = some ((p[i].findSome? hi3).elim (.inl ((p[i].length : Int), ())) fun _ => .inr (.inr (.inr ([], 3)))) := fun i hi => by
  have hr := h2 _ (List.getElem_mem hi)
  exact iterS_find (f := F_trace_Run_l1 g p (chk g) ((i : Int), ())) p[i] (fun j => ((j : Int), ())) hi3 (.inl ((p[i].length : Int), ())) (fun _ => .inr (.inr (.inr ([], 3))))
   (fun j hj => by
    simp (disch := omega) [F_trace_Run_l1, F_trace_wrong, rd_lt hi, rd_lt hj, hj, wr64, hi3]
    by_cases e : 2 < p[i][j] <;> simp [e])
   (by simp [F_trace_Run_l1, hi])
 have outer := iterS_find (f := F_trace_Run_l0 g p (chk g)) p (fun i => ((i : Int), ())) (rowB g) (.inl ((p.length : Int), ())) (fun e => .inr ([], e))
  (fun i hi => by
   simp only [F_trace_Run_l0, br_def, lt_def, ni_def, len_def, ix_def, tn_nat, rd_lt hi, decide_eq_true_eq, ne_def, inR_some', ad_def]
   rw [if_pos (by omega), if_pos (by omega), inner i hi, wr64 (by omega) (by omega)]
   unfold rowB
   by_cases e : (p[i].length : Int) = g.1
   ·rw [if_neg (by simpa using e), if_neg (by simpa using e)]
    cases p[i].findSome? hi3 <;> rfl
   ·rw [if_pos e, if_pos e]; rfl)
  (by simp [F_trace_Run_l0])
 rw [show ((0 : Int), ()) = (((0 : Nat) : Int), ()) from rfl, outer]
 cases e : p.findSome? (rowB g) with
 | some e => rfl
 | none =>
  simp only [Option.elim_none]
  rw [oj_inl, show F_trace_simulate (g.1, (g.2.1, (g.2.2.1, g.2.2.2))) p = some (sim3 g p (start3 g)) from F_trace_simulate_eq (chk_ok hc0) hb (pat_ok e h0) h1, ob_some]
def bitM (b : Int) (v : Bool) : Bool := !(decide (b = 0) && v) && !(decide (b = 1) && !v)
def rowM (r : LI) (s : LB) : Bool := (List.range r.length).all fun j => bitM (r.getD j 0) (s.getD j false)
def matB (p : LLI) (t : LLB) : Bool := decide (p.length = t.length) && ((List.range p.length).all fun k => decide ((p.getD k []).length = (t.getD k []).length)) && (List.range p.length).all fun k => rowM (p.getD k []) (t.getD k [])
theorem F_trace_Matches_eq (p : LLI) (t : LLB) (h : p.length ≤ 140737488355328) (h2 : ∀ r ∈ p, r.length ≤ 140737488355328) : F_trace_Matches p t = some (matB p t) := by
 unfold F_trace_Matches matB
 simp only [br_def, ne_def, ni_def, len_def, decide_eq_true_eq]
 by_cases hn : ¬p.length = t.length
 ·rw [if_pos (by omega), decide_eq_false hn]; rfl
 have hl : p.length = t.length := by omega
 rw [if_neg (by omega), decide_eq_true hl, Bool.true_and]
 have l0 := iterS_findR (f := F_trace_Matches_l0 p t) p.length (fun i => ((i : Int), ())) (fun k => if decide ((p.getD k []).length = (t.getD k []).length) = true then none else some ()) (.inl ((p.length : Int), ())) (fun _ => .inr false)
  (fun i hi => by
   have hi' : i < t.length := by omega
   simp (disch := omega) [F_trace_Matches_l0, F_trace_Matches_1, rd_lt hi, rd_lt hi', hi, hi', wr64, getD_lt hi, getD_lt hi']
   by_cases e : p[i].length = t[i].length
   ·simp [e]
   ·simp [e]; omega)
  (by simp [F_trace_Matches_l0])
 rw [find_all] at l0
 rw [show ((0 : Int), ()) = (((0 : Nat) : Int), ()) from rfl, l0]
 cases hlen : (List.range p.length).all fun k => decide ((p.getD k []).length = (t.getD k []).length) with
 | false => rfl
 | true =>
  rw [if_pos rfl, oj_inl]
  have hle : ∀ (k : Nat) (hk : k < p.length) (hk' : k < t.length), p[k].length = t[k].length := fun k hk hk' => by
   have := List.all_eq_true.1 hlen k (by simpa using hk)
   rw [getD_lt hk, getD_lt hk'] at this
   simpa using this
  have inner : ∀ (i : Nat) (hi : i < p.length) (hi' : i < t.length) y1, iterS (F_trace_Matches_l2 p t y1 ((i : Int), (false, ()))) (0, (false, ())) = some (if rowM p[i] t[i] = true then .inl ((p[i].length : Int), (false, ())) else .inr (.inr (.inr false))) := fun i hi hi' y1 => by
   have hr := h2 _ (List.getElem_mem hi)
   have e := hle i hi hi'
   have := iterS_findR (f := F_trace_Matches_l2 p t y1 ((i : Int), (false, ()))) p[i].length (fun j => ((j : Int), (false, ()))) (fun j => if bitM (p[i].getD j 0) (t[i].getD j false) = true then none else some ()) (.inl ((p[i].length : Int), (false, ()))) (fun _ => .inr (.inr (.inr false)))
    (fun j hj => by
     have hj' : j < t[i].length := by omega
     simp (disch := omega) [F_trace_Matches_l2, rd_lt hi, rd_lt hi', rd_lt hj, rd_lt hj', hi, hi', hj, hj', wr64, getD_lt hj, getD_lt hj']
     unfold bitM
     by_cases a0 : p[i][j] = 0
     ·cases t[i][j] <;> simp [a0]
     ·by_cases a1 : p[i][j] = 1 <;> cases t[i][j] <;> simp [a0, a1])
    (by simp [F_trace_Matches_l2, hi])
   rw [find_all] at this
   exact this
  have outer := iterS_findR (f := F_trace_Matches_l1 p t ((p.length : Int), ())) p.length (fun i => ((i : Int), (false, ()))) (fun k => if rowM (p.getD k []) (t.getD k []) = true then none else some ()) (.inl ((p.length : Int), (false, ()))) (fun _ => .inr false)
   (fun i hi => by
    have hi' : i < t.length := by omega
    simp only [F_trace_Matches_l1, br_def, lt_def, ni_def, len_def, ix_def, tn_nat, rd_lt hi, decide_eq_true_eq, ad_def]
    rw [if_pos (by omega), if_pos (by omega), inner i hi hi', wr64 (by omega) (by omega), getD_lt hi']
    cases rowM p[i] t[i] <;> rfl)
   (by simp [F_trace_Matches_l1])
  rw [find_all] at outer
  rw [show ((0 : Int), (false, ())) = (((0 : Nat) : Int), (false, ())) from rfl, outer]
  cases (List.range p.length).all fun k => rowM (p.getD k []) (t.getD k []) <;> rfl
def pat3 (t : LLB) : LLI := t.map fun r => r.map bit3
end Go.Proofs.YtkcmacdakgohcaaDoor

open Go Go.AM Go.TM
namespace Go.Proofs.YtkcmacdakgohcaaDoor
abbrev yAig : Ty := .st (.pair (.int .i64) (.pair (.slice (.st (.pair (.int .i64) (.int .u8)))) (.pair (.slice (.st (.pair (.int .i64) (.int .i64)))) (.slice (.int .i64)))))
abbrev yPat : Ty := .slice (.slice (.int .u8))
abbrev yTrace : Ty := .slice (.slice .bool)
theorem cut_eq {α : Type} (l : List α) (n : Nat) : cut l 0 n = l.take n := by simp
theorem mn_take {α : Type} (l : List α) (n : Nat) : cut l 0 (tn (mn (ni (len l)) n)) = l.take n := by
 rw [cut_eq]
 simp only [mn_def, ni_def, len_def, tn_def]
 split
 ·rw [show ((n : Nat) : Int).toNat = n from Int.toNat_natCast n]
 ·rw [Int.toNat_natCast, List.take_length, List.take_of_length_le (by omega)]
theorem mn_rg {α : Type} (l : List α) (n : Nat) : rg 0 (mn (ni (len l)) n) (ni (len l)) = true := by
 simp only [rg_def, mn_def, ni_def, len_def, decide_eq_true_eq]
 split <;> omega
def small (g : TAig) (n : Nat) : TAig := (g.1, g.2.1.take n, g.2.2.1.take n, g.2.2.2.take n)
theorem aig_len {g : TAig} (h : WfT yAig g) : g.2.1.length ≤ 8796093021952 ∧ g.2.2.1.length ≤ 8796093021952 ∧ g.2.2.2.length ≤ 17592186043904 := by
 obtain ⟨-, h1, h2, h3⟩ := h
 have h1 := h1.1
 have h2 := h2.1
 have h3 := h3.1
 simp [Ty.bytes, Ty.ends, Ty.align, kindBytes, IntKind.bits, up] at h1 h2 h3
 omega
end Go.Proofs.YtkcmacdakgohcaaDoor

open Go Go.AM Go.TM
namespace Go.Proofs.YtkcmacdakgohcaaDoor
abbrev TVar : Type := LStr × (Str × Int)
abbrev TChg : Type := Int × (Int × Str)
abbrev TWave : Type := Str × (List TVar × List TChg)
abbrev TMach : Type := TAig × (LStr × (LStr × LStr))
def cs (v : Bool) : Str := if v = true then [49] else [48]
def chg (k : Nat) (was now : LB) (i : Nat) : Bool := decide (k = 0) || now.getD i false != was.getD i false
def chgI (k : Nat) (was now : LB) (i : Nat) : Option TChg := if chg k was now i = true then some ((k : Int), ((i : Int), cs (now.getD i false))) else none
def chgs (k : Nat) (was now : LB) (n : Nat) : List TChg := (List.range n).filterMap (chgI k was now)
end Go.Proofs.YtkcmacdakgohcaaDoor

open Go Go.AM Go.TM
namespace Go.Proofs.YtkcmacdakgohcaaDoor
def rowK (t s o : LLB) (k : Nat) : LB := (t.getD k [] ++ s.getD k []) ++ o.getD k []
def wasK (t s o : LLB) : Nat → LB
 | 0 => []
 | k + 1 => rowK t s o k
def chUp (t s o : LLB) : Nat → List TChg
 | 0 => []
 | k + 1 => chUp t s o k ++ chgs k (wasK t s o k) (rowK t s o k) (rowK t s o k).length
def names (m : TMach) : LStr := (m.2.1 ++ m.2.2.1) ++ m.2.2.2
def vars (m : TMach) : List TVar := (names m).map fun n => ([], (n, 1))
def wave (m : TMach) (t : LLB) : TWave × Int :=
 if chk m.1 ≠ 0 then (([], ([], [])), chk m.1) else if (m.2.1.length : Int) ≠ m.1.1 then (([], ([], [])), 12) else if m.2.2.1.length ≠ m.1.2.1.length then (([], ([], [])), 12) else if m.2.2.2.length ≠ m.1.2.2.2.length then (([], ([], [])), 12) else
 if (run2 m.1 t).2.2 ≠ 0 then (([], ([], [])), (run2 m.1 t).2.2) else (([49, 110, 115], (vars m, chUp t (run2 m.1 t).2.1 (run2 m.1 t).1 t.length)), 0)
theorem sim2_len (g : TAig) : ∀ (t : LLB) (st : LB), (sim2 g t st).1.length = t.length ∧ (sim2 g t st).2.length = t.length := by
 intro t
 induction t with
 | nil => intro st; exact ⟨rfl, rfl⟩
 | cons i t ih => intro st; exact ⟨by simp [sim2, (ih _).1], by simp [sim2, (ih _).2]⟩
theorem sim2_row (g : TAig) : ∀ (t : LLB) (st : LB), (∀ o ∈ (sim2 g t st).1, o.length = g.2.2.2.length) ∧ ∀ s ∈ (sim2 g t st).2, s.length = g.2.1.length := by
 intro t
 induction t with
 | nil => intro st; exact ⟨fun o h => (by cases h), fun o h => (by cases h)⟩
 | cons i t ih =>
  intro st
  refine ⟨fun o h => ?_, fun s h => ?_⟩
  ·rcases List.mem_cons.1 h with rfl | h
   ·simp [outs2]
   ·exact (ih _).1 o h
  ·rcases List.mem_cons.1 h with rfl | h
   ·simp [next2]
   ·exact (ih _).2 s h
structure RunOk (g : TAig) (t : LLB) : Prop where
 c : chk g = 0
 n : t.length ≤ 64
 lo : (run2 g t).1.length = t.length
 ls : (run2 g t).2.1.length = t.length + 1
 row : ∀ k, k < t.length → (rowK t (run2 g t).2.1 (run2 g t).1 k).length = g.1.toNat + g.2.1.length + g.2.2.2.length
def WvB (m : TMach) : Prop := m.2.1.length ≤ 1000 ∧ m.2.2.1.length ≤ 1000 ∧ m.2.2.2.length ≤ 1000
abbrev yMach : Ty := .st (.pair yAig (.pair (.slice .str) (.pair (.slice .str) (.slice .str))))
end Go.Proofs.YtkcmacdakgohcaaDoor

open Go Go.AM Go.TM
namespace Go.Proofs.YtkcmacdakgohcaaDoor
def hit (outs : LLB) (o i : Nat) : Option Nat := if (outs.getD i []).getD o false = true then some i else none
def fails (g : TAig) (out : Int) (t : LLB) : Int × (Bool × Int) :=
 if chk g ≠ 0 then (0, (false, chk g)) else if out < 0 then (0, (false, 1)) else if (g.2.2.2.length : Int) ≤ out then (0, (false, 1)) else if (run2 g t).2.2 ≠ 0 then (0, (false, (run2 g t).2.2)) else
 ((List.range (run2 g t).1.length).findSome? (hit (run2 g t).1 out.toNat)).elim (0, (false, 0)) fun i => ((i : Int), (true, 0))
theorem outs_row {g : TAig} {t : LLB} (hc : chk g = 0) : ∀ r ∈ (run2 g t).1, r.length = g.2.2.2.length := by
 intro r hr
 unfold run2 at hr
 rw [if_neg (by omega)] at hr
 split at hr
 ·cases hr
 ·cases e : t.findSome? (wide g) with
  | some _ => rw [e] at hr; cases hr
  | none => rw [e] at hr; exact (sim2_row g t _).1 r hr
theorem outs_len {g : TAig} {t : LLB} : (run2 g t).1.length ≤ 64 := by
 unfold run2
 split
 ·simp
 split
 ·simp
 ·cases e : t.findSome? (wide g) with
  | some _ => simp
  | none => simp only [Option.elim_none, (sim2_len g t _).1]; omega
theorem fails_prog {g : TAig} (hb : AigB g) (out : Int) (t : LLB) : F_trace_Fails g out t = some (fails g out t) := by
 unfold F_trace_Fails fails
 rw [show F_aig_Check (g.1, (g.2.1, (g.2.2.1, g.2.2.2))) = some (chk g) from F_aig_Check_eq g hb, ob_some]
 simp only [br_def, ne_def, lt_def, le_def, ni_def, len_def, decide_eq_true_eq]
 by_cases hc : chk g ≠ 0
 ·rw [if_pos hc, if_pos hc]
 rw [if_neg hc, if_neg hc]
 by_cases h0 : out < 0
 ·rw [if_pos h0, if_pos h0]
 rw [if_neg h0, if_neg h0]
 by_cases h1 : (g.2.2.2.length : Int) ≤ out
 ·rw [if_pos h1, if_pos h1]
 rw [if_neg h1, if_neg h1, show F_aig_Run (g.1, (g.2.1, (g.2.2.1, g.2.2.2))) t = some (run2 g t) from run_prog hb t, ob_some]
 by_cases hr : (run2 g t).2.2 ≠ 0
 ·rw [if_pos hr, if_pos hr]
 rw [if_neg hr, if_neg hr]
 have hc0 : chk g = 0 := by omega
 have hl := outs_len (g := g) (t := t)
 have key := iterS_findR (f := F_trace_Fails_l0 g out t (chk g) (run2 g t)) (run2 g t).1.length (fun i => ((i : Int), ())) (hit (run2 g t).1 out.toNat) (.inl (((run2 g t).1.length : Int), ())) (fun i => .inr ((i : Int), (true, 0)))
  (fun i hi => by
   have hrow := outs_row hc0 _ (List.getElem_mem hi)
   simp only [F_trace_Fails_l0, tn_nat, rd_lt hi]
   unfold hit
   rw [getD_lt hi]
   simp only [br_def, lt_def, ni_def, len_def, ix_def, decide_eq_true_eq, ad_def, rd_def, tn_def, inR_some', mx_def, le_def]
   rw [if_pos (by omega), if_pos (by omega), if_pos (by omega), if_neg (show ¬ (i : Int) < 0 by omega), decide_eq_true (show (0 : Int) ≤ (i : Int) by omega)]
   by_cases e : (run2 g t).1[i].getD out.toNat false = true
   ·rw [if_pos e, if_pos e]; rfl
   ·rw [if_neg e, if_neg e, wr64 (by omega) (by omega)]; rfl)
  (by simp [F_trace_Fails_l0])
 rw [show ((0 : Int), ()) = (((0 : Nat) : Int), ()) from rfl, key]
 cases (List.range (run2 g t).1.length).findSome? (hit (run2 g t).1 out.toNat) <;> rfl
theorem fails_ref {g : TAig} (hb : AigB g) (out : Int) (t : LLB) : F_r36_Fails g out t = some (fails g out t) := by
 unfold F_r36_Fails fails
 rw [show F_r20_Check (g.1, (g.2.1, (g.2.2.1, g.2.2.2))) = some (chk g) from F_r20_Check_eq g hb, ob_some]
 simp only [br_def, ne_def, lt_def, le_def, ni_def, len_def, decide_eq_true_eq]
 by_cases hc : chk g ≠ 0
 ·rw [if_pos hc, if_pos hc]
 rw [if_neg hc, if_neg hc]
 by_cases h0 : out < 0
 ·rw [if_pos h0, if_pos h0]
 rw [if_neg h0, if_neg h0]
 by_cases h1 : (g.2.2.2.length : Int) ≤ out
 ·rw [if_pos h1, if_pos h1]
 rw [if_neg h1, if_neg h1, show F_r20_Run (g.1, (g.2.1, (g.2.2.1, g.2.2.2))) t = some (run2 g t) from run_ref hb t, ob_some]
 by_cases hr : (run2 g t).2.2 ≠ 0
 ·rw [if_pos hr, if_pos hr]
 rw [if_neg hr, if_neg hr]
 have hc0 : chk g = 0 := by omega
 have hl := outs_len (g := g) (t := t)
 have key := iterS_findR (f := F_r36_Fails_l0 g out t (chk g) (run2 g t)) (run2 g t).1.length (fun i => ((i : Int), ())) (hit (run2 g t).1 out.toNat) (.inl (((run2 g t).1.length : Int), ())) (fun i => .inr ((i : Int), (true, 0)))
  (fun i hi => by
   have hrow := outs_row hc0 _ (List.getElem_mem hi)
   simp only [F_r36_Fails_l0, tn_nat, rd_lt hi]
   unfold hit
   rw [getD_lt hi]
   simp only [br_def, lt_def, ni_def, len_def, ix_def, decide_eq_true_eq, ad_def, rd_def, tn_def, inR_some']
   rw [if_pos (by omega), if_pos (by omega), if_pos (by omega)]
   by_cases e : (run2 g t).1[i].getD out.toNat false = true
   ·rw [if_pos e, if_pos e]; rfl
   ·rw [if_neg e, if_neg e, wr64 (by omega) (by omega)]; rfl)
  (by simp [F_r36_Fails_l0])
 rw [show ((0 : Int), ()) = (((0 : Nat) : Int), ()) from rfl, key]
 cases (List.range (run2 g t).1.length).findSome? (hit (run2 g t).1 out.toNat) <;> rfl
structure FailOk (g : TAig) (out : Int) (t : LLB) (n : Nat) : Prop where
 c : chk g = 0
 o0 : 0 ≤ out
 o1 : out < g.2.2.2.length
 n1 : n < t.length
 len : t.length ≤ 64
 row : ∀ r ∈ t, (r.length : Int) = g.1
 run : run2 g t = ((sim2 g t (start2 g)).1, (start2 g :: (sim2 g t (start2 g)).2, 0))
 hit : ((sim2 g t (start2 g)).1.getD n []).getD out.toNat false = true
theorem fails_ok {g : TAig} {out : Int} {t : LLB} (h1 : (fails g out t).2.2 = 0) (h2 : (fails g out t).2.1 = true) : ∃ n : Nat, (fails g out t).1 = (n : Int) ∧ FailOk g out t n := by
 unfold fails at *
 by_cases hc : chk g ≠ 0
 ·rw [if_pos hc] at h2; cases h2
 rw [if_neg hc] at *
 by_cases h3 : out < 0
 ·rw [if_pos h3] at h2; cases h2
 rw [if_neg h3] at *
 by_cases h4 : (g.2.2.2.length : Int) ≤ out
 ·rw [if_pos h4] at h2; cases h2
 rw [if_neg h4] at *
 by_cases h5 : (run2 g t).2.2 ≠ 0
 ·rw [if_pos h5] at h2; cases h2
 rw [if_neg h5] at *
 cases hf : (List.range (run2 g t).1.length).findSome? (hit (run2 g t).1 out.toNat) with
 | none => rw [hf] at h2; cases h2
 | some n =>
  have hc0 : chk g = 0 := by omega
  have hr : t.length ≤ 64 ∧ t.findSome? (wide g) = none := by
   unfold run2 at h5
   rw [if_neg (by omega)] at h5
   split at h5
   ·simp at h5
   ·refine ⟨by omega, ?_⟩
    cases e : t.findSome? (wide g) with
    | none => rfl
    | some _ => rw [e] at h5; simp at h5
  have hrun : run2 g t = ((sim2 g t (start2 g)).1, (start2 g :: (sim2 g t (start2 g)).2, 0)) := by
   unfold run2
   rw [if_neg (by omega), if_neg (by omega), hr.2]; rfl
  obtain ⟨l1, i, l2, e1, e2, -⟩ := List.findSome?_eq_some_iff.1 hf
  have hi : i < (run2 g t).1.length := by
   have : i ∈ List.range (run2 g t).1.length := by rw [e1]; simp
   simpa using this
  unfold hit at e2
  split at e2
  ·rename_i hh
   cases e2
   refine ⟨n, rfl, hc0, by omega, by omega, ?_, hr.1, wide_ok hr.2, hrun, ?_⟩
   ·rw [hrun] at hi
    simpa [(sim2_len g t _).1] using hi
   ·rw [hrun] at hh; exact hh
  ·cases e2
def setB (p : LLI) (k i : Nat) : LLI := p.set k ((p.getD k []).set i 2)
def tryB (g : TAig) (n o : Nat) (p : LLI) (k i : Nat) : LLI := if ((sim3 g (setB p k i) (start3 g)).getD n []).getD o 0 = 1 then setB p k i else p
def redR (g : TAig) (n o : Nat) (p : LLI) (k : Nat) : LLI := (List.range g.1.toNat).foldl (fun p i => tryB g n o p k i) p
def red (g : TAig) (n o : Nat) (p : LLI) : LLI := (List.range (n + 1)).foldl (fun p k => redR g n o p k) p
theorem setB_ok {g : TAig} {p : LLI} (h : PatOk g p) (k i : Nat) : PatOk g (setB p k i) ∧ (setB p k i).length = p.length := by
 refine ⟨fun r hr => ?_, by simp [setB]⟩
 unfold setB at hr
 rcases List.mem_or_eq_of_mem_set hr with hr | rfl
 ·exact h r hr
 ·by_cases hk : k < p.length
  ·have := h _ (List.getElem_mem hk)
   rw [getD_lt hk]
   refine ⟨by simpa using this.1, fun v hv => ?_⟩
   rcases List.mem_or_eq_of_mem_set hv with hv | rfl
   ·exact this.2 v hv
   ·exact ⟨by omega, by omega⟩
  ·rw [List.set_eq_of_length_le (by omega)] at hr
   exact h _ hr
theorem tryB_ok {g : TAig} {n o : Nat} {p : LLI} (h : PatOk g p) (k i : Nat) : PatOk g (tryB g n o p k i) ∧ (tryB g n o p k i).length = p.length := by
 unfold tryB
 split
 ·exact setB_ok h k i
 ·exact ⟨h, rfl⟩
theorem fold_ok {g : TAig} {α : Type} (f : LLI → α → LLI) (hf : ∀ p x, PatOk g p → PatOk g (f p x) ∧ (f p x).length = p.length) : ∀ (l : List α) (p : LLI), PatOk g p → PatOk g (l.foldl f p) ∧ (l.foldl f p).length = p.length := by
 intro l
 induction l with
 | nil => intro p h; exact ⟨h, rfl⟩
 | cons x l ih =>
  intro p h
  obtain ⟨h1, h2⟩ := hf p x h
  obtain ⟨h3, h4⟩ := ih _ h1
  exact ⟨h3, h4.trans h2⟩
theorem redR_ok {g : TAig} {n o : Nat} {p : LLI} (h : PatOk g p) (k : Nat) : PatOk g (redR g n o p k) ∧ (redR g n o p k).length = p.length :=
 fold_ok _ (fun p x hp => tryB_ok hp k x) _ p h
theorem red_ok {g : TAig} {n o : Nat} {p : LLI} (h : PatOk g p) : PatOk g (red g n o p) ∧ (red g n o p).length = p.length :=
 fold_ok _ (fun p x hp => redR_ok hp x) _ p h
theorem sim3_len (g : TAig) : ∀ (p : LLI) (st : LI), (sim3 g p st).length = p.length ∧ ∀ r ∈ sim3 g p st, r.length = g.2.2.2.length := by
 intro p
 induction p with
 | nil => intro st; exact ⟨rfl, fun r h => by cases h⟩
 | cons i p ih =>
  intro st
  refine ⟨by simp [sim3, (ih _).1], fun r hr => ?_⟩
  rcases List.mem_cons.1 hr with rfl | hr
  ·simp [outs3]
  ·exact (ih _).2 r hr
theorem pat3_ok {g : TAig} {t : LLB} (h : ∀ r ∈ t, (r.length : Int) = g.1) : PatOk g (pat3 t) := fun r hr => by
 obtain ⟨s, hs, rfl⟩ := List.mem_map.1 hr
 refine ⟨by simpa using h s hs, fun v hv => ?_⟩
 obtain ⟨b, -, rfl⟩ := List.mem_map.1 hv
 exact bit3_T b
end Go.Proofs.YtkcmacdakgohcaaDoor

open Go Go.AM Go.TM
namespace Go.Proofs.YtkcmacdakgohcaaDoor
theorem br_t {R : Type} (x y : Option R) : br true x y = x := rfl
theorem br_f {R : Type} (x y : Option R) : br false x y = y := rfl
theorem set_back {p : LLI} {k i : Nat} (hk : k < p.length) (hi : i < (p.getD k []).length) : (setB p k i).set k (((setB p k i).getD k []).set i ((p.getD k []).getD i 0)) = p := by
 unfold setB
 have e : (p.set k ((p.getD k []).set i 2)).getD k [] = (p.getD k []).set i 2 := by rw [List.getD_eq_getElem?_getD, List.getElem?_set_self hk]; rfl
 rw [e, List.set_set, List.set_set, getD_lt hi, List.set_getElem_self, getD_lt hk, List.set_getElem_self]
def redO (g : TAig) (out : Int) (t : LLB) : LLI × Int :=
 if (fails g out t).2.2 ≠ 0 then ([], (fails g out t).2.2) else if (fails g out t).2.1 = true then (red g (fails g out t).1.toNat out.toNat (pat3 (t.take ((fails g out t).1.toNat + 1))), 0) else ([], 8)
theorem cut_take {t : LLB} {n : Nat} (hn : n < t.length) (hl : t.length ≤ 64) : cut t 0 (tn (wr .i64 (ad (n : Int) 1))) = t.take (n + 1) ∧ rg 0 (wr .i64 (ad (n : Int) 1)) (ni (len t)) = true := by
 simp only [ad_def]
 rw [wr64 (by omega) (by omega)]
 refine ⟨?_, by simp; omega⟩
 rw [show ((n : Int) + 1) = ((n + 1 : Nat) : Int) by omega, tn_nat, cut_eq]
theorem pat_prog {g : TAig} {out : Int} {t : LLB} {y0 : Int × (Bool × Int)} {q : LLB} (hq : cut t 0 (tn (wr .i64 (ad y0.1 1))) = q) (h : q.length ≤ 64) (h2 : ∀ r ∈ q, r.length ≤ 4096) :
  iterS (F_trace_Reduce_l0 g out t y0) (0, ([], ())) = some (.inl ((q.length : Int), (pat3 q, ()))) := by
 have inner : ∀ (i : Nat) (hi : i < q.length) o, iterS (F_trace_Reduce_l1 g out t y0 ((i : Int), (o, ()))) (0, (List.replicate q[i].length 0, ())) = some (.inl ((q[i].length : Int), (q[i].map bit3, ()))) := fun i hi o => by
  have hr := h2 _ (List.getElem_mem hi)
  have := iterS_upto (f := F_trace_Reduce_l1 g out t y0 ((i : Int), (o, ()))) (fun j => ((j : Int), ((q[i].take j).map bit3 ++ List.replicate (q[i].length - j) 0, ()))) q[i].length (r := .inl ((q[i].length : Int), (q[i].map bit3, ())))
   (fun j hj => by
    have e : j < ((q[i].take j).map bit3 ++ List.replicate (q[i].length - j) (0 : Int)).length := by simp; omega
    simp only [F_trace_Reduce_l1, hq, br_def, lt_def, ni_def, len_def, ix_def, tn_nat, rd_lt hi, rd_lt hj, decide_eq_true_eq, ad_def, F_trace_bit_eq, ob_some, put_def]
    rw [if_pos (by omega), if_pos (by omega), if_pos (by omega), wr64 (by omega) (by omega), set_map bit3 _ _ _ hj]; rfl)
   (by simp [F_trace_Reduce_l1, hq, hi])
  simpa using this
 have outer := iterS_fold (f := F_trace_Reduce_l0 g out t y0) q (fun i o => ((i : Int), (o, ()))) (fun o r => o ++ [r.map bit3]) (fun o => .inl ((q.length : Int), (o, ()))) (fun i o => o.length = i)
  (fun i o hi ho => by
   have hr := h2 _ (List.getElem_mem hi)
   refine ⟨?_, by simp [ho]⟩
   simp only [F_trace_Reduce_l0, hq, br_def, lt_def, ni_def, len_def, ix_def, tn_nat, rd_lt hi, decide_eq_true_eq, ad_def, rg_def, le_def, ml_def, rept_def, fits_def, app_def, List.length_singleton]
   rw [if_pos (by omega), if_pos (by omega), if_pos (by omega), if_pos (by omega), if_pos (by omega), inner i hi o, oj_inl, if_pos (by omega), wr64 (by omega) (by omega)]; rfl)
  (fun o _ => by simp [F_trace_Reduce_l0, hq]) (b := []) rfl
 rw [foldl_snoc] at outer
 exact outer
theorem pat_ref {g : TAig} {out : Int} {t : LLB} {y0 : Int × (Bool × Int)} {q : LLB} (hq : cut t 0 (tn (wr .i64 (ad y0.1 1))) = q) (h : q.length ≤ 64) (h2 : ∀ r ∈ q, r.length ≤ 4096) :
  iterS (F_r36_Reduce_l0 g out t y0) (0, ([], ())) = some (.inl ((q.length : Int), (pat3 q, ()))) := by
 have inner : ∀ (i : Nat) (hi : i < q.length) o, iterS (F_r36_Reduce_l1 g out t y0 ((i : Int), (o, ()))) (0, ([], ())) = some (.inl ((q[i].length : Int), (q[i].map bit3, ()))) := fun i hi o => by
  have hr := h2 _ (List.getElem_mem hi)
  have := iterS_fold (f := F_r36_Reduce_l1 g out t y0 ((i : Int), (o, ()))) q[i] (fun j o => ((j : Int), (o, ()))) (fun o v => o ++ [bit3 v]) (fun o => .inl ((q[i].length : Int), (o, ()))) (fun j o => o.length = j)
   (fun j o hj ho => by
    refine ⟨?_, by simp [ho]⟩
    simp only [F_r36_Reduce_l1, hq, br_def, lt_def, ni_def, len_def, ix_def, tn_nat, rd_lt hi, rd_lt hj, decide_eq_true_eq, ad_def, F_r36_bit_eq, ob_some, fits_def, app_def, List.length_singleton, ho]
    rw [if_pos (by omega), if_pos (by omega), if_pos (by omega), if_pos (by omega), if_pos (by omega), wr64 (by omega) (by omega)]; rfl)
   (fun o _ => by simp [F_r36_Reduce_l1, hq, rd_lt hi, hi]) (b := []) rfl
  rw [foldl_snoc] at this
  exact this
 have outer := iterS_fold (f := F_r36_Reduce_l0 g out t y0) q (fun i o => ((i : Int), (o, ()))) (fun o r => o ++ [r.map bit3]) (fun o => .inl ((q.length : Int), (o, ()))) (fun i o => o.length = i)
  (fun i o hi ho => by
   refine ⟨?_, by simp [ho]⟩
   simp only [F_r36_Reduce_l0, hq, br_def, lt_def, ni_def, len_def, decide_eq_true_eq, ad_def, fits_def, app_def, List.length_singleton]
   rw [if_pos (by omega), inner i hi o, oj_inl, if_pos (by omega), wr64 (by omega) (by omega)]; rfl)
  (fun o _ => by simp [F_r36_Reduce_l0, hq]) (b := []) rfl
 rw [foldl_snoc] at outer
 exact outer
section
variable {g : TAig} {out : Int} {t : LLB} {n : Nat} {y0 : Int × (Bool × Int)} {y3 : Int × (LLI × Unit)}
theorem bits_prog (v : AigV g) (hb : AigB g) (h0 : 0 ≤ out) (h1 : out < g.2.2.2.length) (hn : y0.1 = (n : Int)) {k : Nat} {p0 : LLI} {x} (hp0 : PatOk g p0) (hk : k < p0.length) (hnl : n < p0.length) (h64 : p0.length ≤ 64) :
  iterS (F_trace_Reduce_l3 g out t y0 y3 ((k : Int), (p0, x))) (0, (p0, ())) = some (.inl ((g.1.toNat : Int), (redR g n out.toNat p0 k, ()))) := by
 have i0 := v.i0
 have i1 : g.1 ≤ 4096 := by have := v.sz; unfold siz fst0 at this; omega
 have hrow0 := (hp0 _ (List.getElem_mem hk)).1
 have := iterS_fold (f := F_trace_Reduce_l3 g out t y0 y3 ((k : Int), (p0, x))) (List.range g.1.toNat) (fun i p => ((i : Int), (p, ()))) (fun p i => tryB g n out.toNat p k i) (fun p => .inl ((g.1.toNat : Int), (p, ()))) (fun i p => PatOk g p ∧ p.length = p0.length)
  (fun i p hi ⟨q1, q2⟩ => by
   have hi' : i < g.1.toNat := by simpa using hi
   rw [List.getElem_range]
   obtain ⟨z1, z2⟩ := tryB_ok (n := n) (o := out.toNat) q1 k i
   refine ⟨?_, z1, z2.trans q2⟩
   have hk' : k < p.length := by omega
   have hrow := (q1 _ (List.getElem_mem hk')).1
   have hil : i < p[k].length := by omega
   obtain ⟨s1, s2⟩ := setB_ok q1 k i
   have hsim : F_trace_simulate (g.1, (g.2.1, (g.2.2.1, g.2.2.2))) (setB p k i) = some (sim3 g (setB p k i) (start3 g)) := F_trace_simulate_eq v hb s1 (by omega)
   obtain ⟨u1, u2⟩ := sim3_len g (setB p k i) (start3 g)
   have hnS : n < (sim3 g (setB p k i) (start3 g)).length := by omega
   have hrS := u2 _ (List.getElem_mem hnS)
   have eset : p.set k (p[k].set i 2) = setB p k i := by unfold setB; rw [getD_lt hk']
   have hback := set_back hk' (by rw [getD_lt hk']; exact hil)
   rw [getD_lt hk'] at hback
   have hkS : k < (setB p k i).length := by omega
   have hrow2 := (s1 _ (List.getElem_mem hkS)).1
   simp only [F_trace_Reduce_l3, hn, tn_nat, rd_lt hk, rd_lt hk', put_def, eset, hsim, ob_some, rd_lt hnS, rd_lt hkS]
   rw [getD_lt hkS] at hback
   simp only [br_def, lt_def, ni_def, len_def, ix_def, decide_eq_true_eq, ad_def, ne_def, rd_def, hback]
   rw [if_pos (by omega), if_pos (by omega), if_pos (by omega), if_pos (by omega), if_pos (by omega), if_pos (by omega)]
   unfold tryB
   rw [getD_lt hnS, tn_def]
   by_cases e : (sim3 g (setB p k i) (start3 g))[n].getD out.toNat 0 = 1
   ·rw [if_neg (by simpa using e), if_pos e, wr64 (by omega) (by omega)]; rfl
   ·rw [if_pos e, if_neg e, if_pos (by omega), if_pos (by omega), wr64 (by omega) (by omega)]; rfl)
  (fun p ⟨q1, q2⟩ => by
   simp only [F_trace_Reduce_l3, tn_nat, rd_lt hk]
   simp only [br_def, lt_def, ni_def, len_def, decide_eq_true_eq, List.length_range]
   rw [if_neg (by omega)]) (b := p0) ⟨hp0, rfl⟩
 exact this
theorem rows_prog (v : AigV g) (hb : AigB g) (h0 : 0 ≤ out) (h1 : out < g.2.2.2.length) (hn : y0.1 = (n : Int)) {p0 : LLI} (hy : y3.2.1 = p0) (hp0 : PatOk g p0) (hnl : p0.length = n + 1) (h64 : p0.length ≤ 64) :
  iterS (F_trace_Reduce_l2 g out t y0 y3) (0, (p0, ())) = some (.inl (((n + 1 : Nat) : Int), (red g n out.toNat p0, ()))) := by
 have := iterS_fold (f := F_trace_Reduce_l2 g out t y0 y3) (List.range (n + 1)) (fun i p => ((i : Int), (p, ()))) (fun p k => redR g n out.toNat p k) (fun p => .inl (((n + 1 : Nat) : Int), (p, ()))) (fun i p => PatOk g p ∧ p.length = p0.length)
  (fun k p hk ⟨q1, q2⟩ => by
   have hk' : k < n + 1 := by simpa using hk
   rw [List.getElem_range]
   obtain ⟨z1, z2⟩ := redR_ok (n := n) (o := out.toNat) q1 k
   refine ⟨?_, z1, z2.trans q2⟩
   have hb' := bits_prog (t := t) (y3 := y3) (x := ()) v hb h0 h1 hn q1 (by omega : k < p.length) (by omega) (by omega)
   simp only [F_trace_Reduce_l2, hy, hb']
   simp only [br_def, lt_def, ni_def, len_def, ix_def, decide_eq_true_eq, ad_def]
   rw [if_pos (by omega), if_pos (by omega), oj_inl, wr64 (by omega) (by omega)]; rfl)
  (fun p ⟨q1, q2⟩ => by
   simp only [F_trace_Reduce_l2, hy]
   simp only [br_def, lt_def, ni_def, len_def, decide_eq_true_eq, List.length_range]
   rw [if_neg (by omega)]) (b := p0) ⟨hp0, rfl⟩
 exact this
theorem bits_ref (v : AigV g) (hb : AigB g) (h0 : 0 ≤ out) (h1 : out < g.2.2.2.length) (hn : y0.1 = (n : Int)) {k : Nat} {p0 : LLI} {x} (hp0 : PatOk g p0) (hk : k < p0.length) (hnl : n < p0.length) (h64 : p0.length ≤ 64) :
  iterS (F_r36_Reduce_l3 g out t y0 y3 ((k : Int), (p0, x))) (0, (p0, ())) = some (.inl ((g.1.toNat : Int), (redR g n out.toNat p0 k, ()))) := by
 have i0 := v.i0
 have i1 : g.1 ≤ 4096 := by have := v.sz; unfold siz fst0 at this; omega
 have copy : ∀ (p : LLI) (i : Nat) z, PatOk g p → p.length ≤ 64 → iterS (F_r36_Reduce_l4 g out t y0 y3 ((k : Int), (p0, x)) ((i : Int), (p, z))) (0, ([], ())) = some (.inl ((p.length : Int), (p, ()))) := fun p i z hp hl => by
  have := iterS_upto (f := F_r36_Reduce_l4 g out t y0 y3 ((k : Int), (p0, x)) ((i : Int), (p, z))) (fun i => ((i : Int), (p.take i, ()))) p.length (r := .inl ((p.length : Int), (p, ())))
   (fun i hi => by
    have hr := (hp _ (List.getElem_mem hi)).1
    simp only [F_r36_Reduce_l4, tn_nat, rd_lt hi]
    simp only [br_def, lt_def, ni_def, len_def, ix_def, fits_def, decide_eq_true_eq, ad_def, app_def, List.length_take, List.length_singleton]
    rw [if_pos (by omega), if_pos (by omega), if_pos (by omega), if_pos (by omega), wr64 (by omega) (by omega), List.take_append_getElem hi]; rfl)
   (by simp [F_r36_Reduce_l4])
  simpa using this
 have := iterS_fold (f := F_r36_Reduce_l3 g out t y0 y3 ((k : Int), (p0, x))) (List.range g.1.toNat) (fun i p => ((i : Int), (p, ()))) (fun p i => tryB g n out.toNat p k i) (fun p => .inl ((g.1.toNat : Int), (p, ()))) (fun i p => PatOk g p ∧ p.length = p0.length)
  (fun i p hi ⟨q1, q2⟩ => by
   have hi' : i < g.1.toNat := by simpa using hi
   rw [List.getElem_range]
   obtain ⟨z1, z2⟩ := tryB_ok (n := n) (o := out.toNat) q1 k i
   refine ⟨?_, z1, z2.trans q2⟩
   have hk' : k < p.length := by omega
   have hrow := (q1 _ (List.getElem_mem hk')).1
   have hil : i < p[k].length := by omega
   obtain ⟨s1, s2⟩ := setB_ok q1 k i
   have hsim : F_r36_simulate (g.1, (g.2.1, (g.2.2.1, g.2.2.2))) (setB p k i) = some (sim3 g (setB p k i) (start3 g)) := F_r36_simulate_eq v hb s1 (by omega)
   obtain ⟨u1, u2⟩ := sim3_len g (setB p k i) (start3 g)
   have hnS : n < (sim3 g (setB p k i) (start3 g)).length := by omega
   have hrS := u2 _ (List.getElem_mem hnS)
   have eset : p.set k (p[k].set i 2) = setB p k i := by unfold setB; rw [getD_lt hk']
   simp only [F_r36_Reduce_l3, copy p i () q1 (by omega), hn, tn_nat]
   rw [oj_inl]
   simp only [rd_lt hk', put_def, eset, hsim, ob_some, rd_lt hnS]
   simp only [br_def, lt_def, ni_def, len_def, ix_def, decide_eq_true_eq, ad_def, eq_def, rd_def]
   rw [if_pos (by omega), if_pos (by omega), if_pos (by omega), if_pos (by omega), if_pos (by omega)]
   unfold tryB
   rw [getD_lt hnS, tn_def]
   by_cases e : (sim3 g (setB p k i) (start3 g))[n].getD out.toNat 0 = 1
   ·rw [if_pos e, if_pos e, wr64 (by omega) (by omega)]; rfl
   ·rw [if_neg e, if_neg e, wr64 (by omega) (by omega)]; rfl)
  (fun p ⟨q1, q2⟩ => by
   simp only [F_r36_Reduce_l3]
   simp only [br_def, lt_def, decide_eq_true_eq, List.length_range]
   rw [if_neg (by omega)]) (b := p0) ⟨hp0, rfl⟩
 exact this
theorem rows_ref (v : AigV g) (hb : AigB g) (h0 : 0 ≤ out) (h1 : out < g.2.2.2.length) (hn : y0.1 = (n : Int)) {p0 : LLI} (hp0 : PatOk g p0) (hnl : p0.length = n + 1) (h64 : p0.length ≤ 64) :
  iterS (F_r36_Reduce_l2 g out t y0 y3) (0, (p0, ())) = some (.inl (((n + 1 : Nat) : Int), (red g n out.toNat p0, ()))) := by
 have := iterS_fold (f := F_r36_Reduce_l2 g out t y0 y3) (List.range (n + 1)) (fun i p => ((i : Int), (p, ()))) (fun p k => redR g n out.toNat p k) (fun p => .inl (((n + 1 : Nat) : Int), (p, ()))) (fun i p => PatOk g p ∧ p.length = p0.length)
  (fun k p hk ⟨q1, q2⟩ => by
   have hk' : k < n + 1 := by simpa using hk
   rw [List.getElem_range]
   obtain ⟨z1, z2⟩ := redR_ok (n := n) (o := out.toNat) q1 k
   refine ⟨?_, z1, z2.trans q2⟩
   have hb' := bits_ref (t := t) (y3 := y3) (x := ()) v hb h0 h1 hn q1 (by omega : k < p.length) (by omega) (by omega)
   simp only [F_r36_Reduce_l2, hn, hb']
   simp only [br_def, le_def, decide_eq_true_eq, ad_def]
   rw [if_pos (by omega), oj_inl, wr64 (by omega) (by omega)]; rfl)
  (fun p ⟨q1, q2⟩ => by
   simp only [F_r36_Reduce_l2, hn]
   simp only [br_def, le_def, decide_eq_true_eq, List.length_range]
   rw [if_neg (by omega)]) (b := p0) ⟨hp0, rfl⟩
 exact this
end
theorem reduce_both {g : TAig} (hb : AigB g) (out : Int) (t : LLB) : F_trace_Reduce g out t = some (redO g out t) ∧ F_r36_Reduce g out t = some (redO g out t) := by
 unfold F_trace_Reduce F_r36_Reduce redO
 rw [show F_trace_Fails (g.1, (g.2.1, (g.2.2.1, g.2.2.2))) out t = some (fails g out t) from fails_prog hb out t, show F_r36_Fails (g.1, (g.2.1, (g.2.2.1, g.2.2.2))) out t = some (fails g out t) from fails_ref hb out t, ob_some, ob_some]
 by_cases h1 : (fails g out t).2.2 ≠ 0
 ·rw [if_pos h1]
  simp only [br_def, ne_def, decide_eq_true_eq]
  rw [if_pos h1, if_pos h1]; exact ⟨rfl, rfl⟩
 by_cases h2 : (fails g out t).2.1 = true
 ·obtain ⟨n, e, f⟩ := fails_ok (by omega : (fails g out t).2.2 = 0) h2
  have v := chk_ok f.c
  have i0 := v.i0
  have i1 : g.1 ≤ 4096 := by have := v.sz; unfold siz fst0 at this; omega
  obtain ⟨c1, c2⟩ := cut_take f.n1 f.len
  have hq : cut t 0 (tn (wr .i64 (ad (fails g out t).1 1))) = t.take (n + 1) := by rw [e]; exact c1
  have hrg : rg 0 (wr .i64 (ad (fails g out t).1 1)) (ni (len t)) = true := by rw [e]; exact c2
  have hl : (t.take (n + 1)).length = n + 1 := by have := f.n1; simp; omega
  have hn1 := f.n1
  have hlen := f.len
  have hrow : ∀ r ∈ t.take (n + 1), (r.length : Int) = g.1 := fun r hr => f.row r (List.mem_of_mem_take hr)
  have hp := pat3_ok hrow
  have hpl : (pat3 (t.take (n + 1))).length = n + 1 := by simp only [pat3, List.length_map, hl]
  have e1 := pat_prog (g := g) (out := out) (t := t) (y0 := fails g out t) hq (by omega) fun r hr => by have := hrow r hr; omega
  have e2 := pat_ref (g := g) (out := out) (t := t) (y0 := fails g out t) hq (by omega) fun r hr => by have := hrow r hr; omega
  have e3 := rows_prog (p0 := pat3 (t.take (n + 1))) (t := t) (y0 := fails g out t) (y3 := (((t.take (n + 1)).length : Int), (pat3 (t.take (n + 1)), ()))) v hb f.o0 f.o1 e rfl hp hpl (by omega)
  have e4 := rows_ref (p0 := pat3 (t.take (n + 1))) (t := t) (y0 := fails g out t) (y3 := (((t.take (n + 1)).length : Int), (pat3 (t.take (n + 1)), ()))) v hb f.o0 f.o1 e hp hpl (by omega)
  rw [if_neg h1, if_pos h2, show (fails g out t).1.toNat = n by rw [e]; simp]
  have nt1 : nt true = false := rfl
  have d1 : decide ((fails g out t).2.2 ≠ 0) = false := decide_eq_false h1
  refine ⟨?_, ?_⟩
  ·simp only [hrg, e1, h2, nt1, ne_def, d1]
   rw [br_f, br_f, br_t, oj_inl, e3, oj_inl]
  ·simp only [hrg, e2, h2, nt1, ne_def, d1]
   rw [br_f, br_f, br_t, oj_inl, e4, oj_inl]
 ·have h2' : (fails g out t).2.1 = false := by simpa using h2
  rw [if_neg h1, if_neg h2]
  simp only [br_def, ne_def, nt_def, h2', decide_eq_true_eq]
  rw [if_neg h1, if_neg h1]; exact ⟨rfl, rfl⟩
end Go.Proofs.YtkcmacdakgohcaaDoor

open Go Go.AM Go.TM
namespace Go.Proofs.YtkcmacdakgohcaaDoor
def chI (v : Int) : Int := if v = 0 then 48 else if v = 1 then 49 else 120
def chB (v : Int) : UInt8 := if v = 0 then 48 else if v = 1 then 49 else 120
def rowI (r : LI) : LI := r.map chI ++ [10]
def rowT (r : LI) : Str := r.map chB ++ [10]
def txtI (p : LLI) : LI := p.flatMap rowI
def txt (p : LLI) : Str := p.flatMap rowT
def rowE (r : LI) : Option Unit := r.findSome? hi3
def fmt (p : LLI) : Str × Int := if 64 < (p.length : Int) then ([], 5) else (p.findSome? rowE).elim (txt p, 0) fun _ => ([], 3)
end Go.Proofs.YtkcmacdakgohcaaDoor

open Go Go.AM Go.TM
namespace Go.Proofs.YtkcmacdakgohcaaDoor
def goodN (n : Nat) : Bool := n == 48 || n == 49 || n == 120 || n == 10
abbrev set4 : Str := [48, 49, 120, 10]
end Go.Proofs.YtkcmacdakgohcaaDoor

open Go Go.AM Go.TM
namespace Go.Proofs.YtkcmacdakgohcaaDoor
def val3 (n : Nat) : Int := if n = 48 then 0 else if n = 49 then 1 else 2
def rows : Str → LI → LLI
 | [], _ => []
 | c :: s, cur => if c.toNat = 10 then cur :: rows s [] else rows s (cur ++ [val3 c.toNat])
def badI (s : Str) (i : Nat) : Option Nat := if goodN (s.getD i 0).toNat = true then none else some i
def endsN (s : Str) : Prop := s = [] ∨ ∃ l, s = l ++ [10]
def prs (s : Str) : LLI × (Int × Int) := if 65536 < (s.length : Int) then ([], (0, 5)) else
 ((List.range s.length).findSome? (badI s)).elim (if s ≠ [] ∧ s.getD (s.length - 1) 0 ≠ 10 then ([], ((s.length : Int), 3)) else if 64 < ((rows s []).length : Int) then ([], (0, 5)) else (rows s [], (0, 0))) fun i => ([], ((i : Int), 3))
def stepR (x : LI × LLI) (c : UInt8) : LI × LLI := if c.toNat = 10 then ([], x.2 ++ [x.1]) else (x.1 ++ [val3 c.toNat], x.2)
end Go.Proofs.YtkcmacdakgohcaaDoor

open Go Go.AM Go.TM
namespace Go.Proofs.YtkcmacdakgohcaaDoor
end Go.Proofs.YtkcmacdakgohcaaDoor

open Go Go.AM Go.TM
namespace Go.Proofs.YtkcmacdakgohcaaDoor
theorem getD_set {α : Type} {l : List α} {i : Nat} (h : i < l.length) (x d : α) : (l.set i x).getD i d = x := by
 rw [List.getD_eq_getElem?_getD, List.getElem?_set_self h]; rfl
def m3 (v : Int) : Int := md v 3
def row3 (r : LI) : LI := (r.take 40).map m3
end Go.Proofs.YtkcmacdakgohcaaDoor

open Go Go.AM Go.TM
namespace Go.Proofs.YtkcmacdakgohcaaDoor
def cov (a b : Int) : Prop := a = 2 ∨ a = b
def covL : LI → LI → Prop
 | [], [] => True
 | a :: r, b :: s => cov a b ∧ covL r s
 | _, _ => False
def covP : LLI → LLI → Prop
 | [], [] => True
 | a :: r, b :: s => covL a b ∧ covP r s
 | _, _ => False
theorem cov.refl (a : Int) : cov a a := .inr rfl
theorem covL.refl : ∀ r : LI, covL r r
 | [] => trivial
 | a :: r => ⟨.refl a, covL.refl r⟩
theorem covP.refl : ∀ p : LLI, covP p p
 | [] => trivial
 | a :: p => ⟨.refl a, covP.refl p⟩
theorem cov.trans {a b c : Int} (h : cov a b) (k : cov b c) : cov a c := by unfold cov at *; omega
theorem covL.trans : ∀ {a b c : LI}, covL a b → covL b c → covL a c
 | [], [], [], _, _ => trivial
 | _ :: _, _ :: _, _ :: _, h, k => ⟨h.1.trans k.1, covL.trans h.2 k.2⟩
theorem covP.trans : ∀ {a b c : LLI}, covP a b → covP b c → covP a c
 | [], [], [], _, _ => trivial
 | _ :: _, _ :: _, _ :: _, h, k => ⟨h.1.trans k.1, covP.trans h.2 k.2⟩
theorem covL.len : ∀ {a b : LI}, covL a b → a.length = b.length
 | [], [], _ => rfl
 | _ :: _, _ :: _, h => by simp [covL.len h.2]
theorem covP.len : ∀ {a b : LLI}, covP a b → a.length = b.length
 | [], [], _ => rfl
 | _ :: _, _ :: _, h => by simp [covP.len h.2]
theorem covL.get : ∀ {a b : LI}, covL a b → ∀ i, cov (a.getD i 0) (b.getD i 0)
 | [], [], _, i => by simp [cov]
 | _ :: _, _ :: _, h, 0 => h.1
 | _ :: _, _ :: _, h, i + 1 => covL.get h.2 i
theorem covP.get : ∀ {a b : LLI}, covP a b → ∀ i, covL (a.getD i []) (b.getD i [])
 | [], [], _, i => by simp [covL]
 | _ :: _, _ :: _, h, 0 => h.1
 | _ :: _, _ :: _, h, i + 1 => covP.get h.2 i
theorem covL.app : ∀ {a b c d : LI}, covL a b → covL c d → covL (a ++ c) (b ++ d)
 | [], [], _, _, _, k => k
 | _ :: _, _ :: _, _, _, h, k => ⟨h.1, covL.app h.2 k⟩
theorem covL.set : ∀ {a b : LI} (i : Nat) {x y : Int}, covL a b → cov x y → covL (a.set i x) (b.set i y)
 | [], [], _, _, _, _, _ => trivial
 | _ :: _, _ :: _, 0, _, _, h, k => ⟨k, h.2⟩
 | _ :: _, _ :: _, i + 1, _, _, h, k => ⟨h.1, covL.set i h.2 k⟩
theorem covP.set : ∀ {a b : LLI} (i : Nat) {x y : LI}, covP a b → covL x y → covP (a.set i x) (b.set i y)
 | [], [], _, _, _, _, _ => trivial
 | _ :: _, _ :: _, 0, _, _, h, k => ⟨k, h.2⟩
 | _ :: _, _ :: _, i + 1, _, _, h, k => ⟨h.1, covP.set i h.2 k⟩
theorem covL.map {α : Type} {f g : α → Int} (h : ∀ x, cov (f x) (g x)) : ∀ l : List α, covL (l.map f) (l.map g)
 | [] => trivial
 | x :: l => ⟨h x, covL.map h l⟩
theorem not3_cov {a b : Int} (h : cov a b) : cov (not3 a) (not3 b) := by
 rcases h with rfl | rfl
 ·exact .inl rfl
 ·exact .refl _
theorem and3_cov {a b c d : Int} (h : cov a b) (k : cov c d) : cov (and3 a c) (and3 b d) := by
 unfold cov and3 at *
 rcases h with rfl | rfl <;> rcases k with rfl | rfl
 ·simp
 ·by_cases e : c = 0
  ·right; simp [e]
  ·left; simp [e]
 ·by_cases e : a = 0
  ·right; simp [e]
  ·left; simp [e]
 ·right; trivial
theorem of3_cov {r s : LI} (h : covL r s) (x : Int) : cov (of3 r x) (of3 s x) := by
 unfold of3
 split
 ·exact not3_cov (h.get _)
 ·exact h.get _
theorem fold_cov : ∀ (l : List (Int × Int)) {r s : LI}, covL r s → covL (l.foldl step3 r) (l.foldl step3 s) := by
 intro l
 induction l with
 | nil => intro r s h; exact h
 | cons x l ih => intro r s h; exact ih (h.app ⟨and3_cov (of3_cov h _) (of3_cov h _), trivial⟩)
theorem bits3_cov (g : TAig) {i j s t : LI} (h : covL i j) (k : covL s t) : covL (bits3 g i s) (bits3 g j t) :=
 fold_cov _ (((covL.refl [0]).app h).app k)
theorem sim3_cov (g : TAig) : ∀ {p q : LLI} {s t : LI}, covP p q → covL s t → covP (sim3 g p s) (sim3 g q t)
 | [], [], _, _, _, _ => trivial
 | _ :: _, _ :: _, _, _, h, k => ⟨covL.map (fun x => of3_cov (bits3_cov g h.1 k) x) _, sim3_cov g h.2 (covL.map (α := Int × Int) (fun x => of3_cov (bits3_cov g h.1 k) x.1) g.2.1)⟩
theorem not3_bit (v : Bool) : not3 (bit3 v) = bit3 (!v) := by cases v <;> rfl
theorem and3_bit (a b : Bool) : and3 (bit3 a) (bit3 b) = bit3 (a && b) := by cases a <;> cases b <;> rfl
theorem getD_bit (b : LB) (i : Nat) : (b.map bit3).getD i 0 = bit3 (b.getD i false) := by
 by_cases h : i < b.length
 ·rw [getD_lt h, getD_lt (by simpa using h)]; simp
 ·rw [List.getD_eq_getElem?_getD, List.getD_eq_getElem?_getD, List.getElem?_eq_none (by simp; omega), List.getElem?_eq_none (by omega)]; rfl
theorem of3_bit (b : LB) (x : Int) : of3 (b.map bit3) x = bit3 (of2 b x) := by
 unfold of3 of2
 rw [getD_bit]
 by_cases e : x % 2 = 1
 ·rw [if_pos e, not3_bit, decide_eq_true e]; cases b.getD (x / 2).toNat false <;> rfl
 ·rw [if_neg e, decide_eq_false e]; cases b.getD (x / 2).toNat false <;> rfl
theorem fold_bit : ∀ (l : List (Int × Int)) (b : LB), l.foldl step3 (b.map bit3) = (l.foldl step2 b).map bit3 := by
 intro l
 induction l with
 | nil => intro b; rfl
 | cons x l ih =>
  intro b
  have : step3 (b.map bit3) x = (step2 b x).map bit3 := by
   unfold step3 step2
   rw [of3_bit, of3_bit, and3_bit, List.map_append]; rfl
  rw [List.foldl_cons, this, ih, List.foldl_cons]
theorem bits3_bit (g : TAig) (i s : LB) : bits3 g (i.map bit3) (s.map bit3) = (all2 g i s).map bit3 := by
 unfold bits3 all2
 rw [← fold_bit]
 congr 1
 rw [List.map_append, List.map_append]; rfl
theorem sim3_bit (g : TAig) : ∀ (t : LLB) (s : LB), sim3 g (pat3 t) (s.map bit3) = pat3 (sim2 g t s).1 := by
 intro t
 induction t with
 | nil => intro s; rfl
 | cons i t ih =>
  intro s
  have e1 : outs3 g (bits3 g (i.map bit3) (s.map bit3)) = (outs2 g (all2 g i s)).map bit3 := by
   unfold outs3 outs2
   rw [bits3_bit, List.map_map]
   exact List.map_congr_left fun x _ => of3_bit _ x
  have e2 : next3 g (bits3 g (i.map bit3) (s.map bit3)) = (next2 g (all2 g i s)).map bit3 := by
   unfold next3 next2
   rw [bits3_bit, List.map_map]
   exact List.map_congr_left fun x _ => of3_bit _ x.1
  show sim3 g (i.map bit3 :: pat3 t) (s.map bit3) = _
  rw [sim3, e1, e2, ih]; rfl
theorem start3_bit (g : TAig) : start3 g = (start2 g).map bit3 := by
 unfold start3 start2
 rw [List.map_map]; rfl
theorem sim_known {g : TAig} {p : LLI} {t : LLB} (h : covP p (pat3 t)) : covP (sim3 g p (start3 g)) (pat3 (sim2 g t (start2 g)).1) := by
 rw [← sim3_bit, start3_bit]
 exact sim3_cov g h (.refl _)
theorem bitM_cov {b : Int} {v : Bool} (h : cov b (bit3 v)) : bitM b v = true := by
 rcases h with rfl | rfl
 ·cases v <;> rfl
 ·cases v <;> rfl
theorem pat3_get (t : LLB) (k : Nat) : (pat3 t).getD k [] = (t.getD k []).map bit3 := by
 unfold pat3
 by_cases h : k < t.length
 ·rw [getD_lt h, getD_lt (by simpa using h)]; simp
 ·rw [List.getD_eq_getElem?_getD, List.getD_eq_getElem?_getD, List.getElem?_eq_none (by simp; omega), List.getElem?_eq_none (by omega)]; rfl
theorem matB_cov {p : LLI} {t : LLB} (h : covP p (pat3 t)) : matB p t = true := by
 have hr : ∀ k, covL (p.getD k []) ((t.getD k []).map bit3) := fun k => by rw [← pat3_get]; exact h.get k
 unfold matB
 rw [Bool.and_eq_true, Bool.and_eq_true]
 refine ⟨⟨?_, ?_⟩, ?_⟩
 ·have := h.len
  simp [pat3] at this
  simpa using this
 ·refine List.all_eq_true.2 fun k _ => ?_
  have := (hr k).len
  simp only [List.length_map] at this
  simpa using this
 ·refine List.all_eq_true.2 fun k _ => ?_
  unfold rowM
  refine List.all_eq_true.2 fun j _ => ?_
  have := (hr k).get j
  rw [getD_bit] at this
  exact bitM_cov this
theorem setB_cov {p q : LLI} (h : covP p q) (k i : Nat) : covP (setB p k i) (setB q k i) := h.set k ((h.get k).set i (.refl 2))
theorem set2_cov : ∀ (r : LI) (i : Nat), covL (r.set i 2) r
 | [], _ => trivial
 | a :: r, 0 => ⟨.inl rfl, covL.refl r⟩
 | a :: r, i + 1 => ⟨.refl a, set2_cov r i⟩
theorem setB_le : ∀ (p : LLI) (k i : Nat), covP (setB p k i) p
 | [], _, _ => trivial
 | a :: p, 0, i => ⟨set2_cov a i, covP.refl p⟩
 | a :: p, k + 1, i => ⟨.refl a, setB_le p k i⟩
theorem tryB_le (g : TAig) (n o : Nat) (p : LLI) (k i : Nat) : covP (tryB g n o p k i) p := by
 unfold tryB
 split
 ·exact setB_le p k i
 ·exact .refl p
def out3 (g : TAig) (n o : Nat) (p : LLI) : Int := ((sim3 g p (start3 g)).getD n []).getD o 0
theorem out3_cov {g : TAig} {n o : Nat} {p q : LLI} (h : covP p q) : cov (out3 g n o p) (out3 g n o q) := ((sim3_cov g h (.refl _)).get n).get o
def Dn (g : TAig) (n o : Nat) (p : LLI) (k i : Nat) : Prop := (p.getD k []).getD i 0 = 2 ∨ ∀ p', covP p' p → out3 g n o (setB p' k i) ≠ 1
theorem Dn.le {g : TAig} {n o : Nat} {p q : LLI} {k i : Nat} (h : Dn g n o p k i) (hq : covP q p) : Dn g n o q k i := by
 rcases h with h | h
 ·left
  rcases (hq.get k).get i with e | e
  ·exact e
  ·rw [e, h]
 ·right
  intro p' hp'
  exact h p' (hp'.trans hq)
theorem tryB_dn {g : TAig} {n o : Nat} {p : LLI} {k i : Nat} (hk : k < p.length) (hi : i < (p.getD k []).length) : Dn g n o (tryB g n o p k i) k i := by
 unfold tryB
 split
 ·left
  unfold setB
  rw [getD_set hk, getD_set hi]
 ·rename_i hne
  right
  intro p' hp' e
  have := out3_cov (g := g) (n := n) (o := o) (setB_cov hp' k i)
  rw [e] at this
  rcases this with q | q
  ·omega
  ·exact hne q.symm
theorem fold_le {α : Type} {f : LLI → α → LLI} (hf : ∀ p x, covP (f p x) p) : ∀ (l : List α) (p : LLI), covP (l.foldl f p) p := by
 intro l
 induction l with
 | nil => intro p; exact .refl p
 | cons x l ih => intro p; exact (ih _).trans (hf p x)
theorem fold_dn {α : Type} {g : TAig} {f : LLI → α → LLI} {D : LLI → α → Prop} (hle : ∀ p x, covP (f p x) p) (hD : ∀ p q x, D p x → covP q p → D q x) (hok : ∀ p x, PatOk g p → PatOk g (f p x) ∧ (f p x).length = p.length) {N : Nat} :
  ∀ (l : List α), (∀ p x, x ∈ l → PatOk g p → p.length = N → D (f p x) x) → ∀ (p : LLI), PatOk g p → p.length = N → ∀ x ∈ l, D (l.foldl f p) x := by
 intro l
 induction l with
 | nil => intro _ p _ _ x hx; cases hx
 | cons y l ih =>
  intro hnew p hp hN x hx
  obtain ⟨h1, h2⟩ := hok p y hp
  rcases List.mem_cons.1 hx with rfl | hx
  ·exact hD _ _ _ (hnew p x (List.mem_cons_self ..) hp hN) (fold_le hle l _)
  ·exact ih (fun p x hx => hnew p x (List.mem_cons_of_mem _ hx)) _ h1 (h2.trans hN) x hx
theorem redR_le (g : TAig) (n o : Nat) (p : LLI) (k : Nat) : covP (redR g n o p k) p := fold_le (fun p x => tryB_le g n o p k x) _ p
theorem red_le (g : TAig) (n o : Nat) (p : LLI) : covP (red g n o p) p := fold_le (fun p x => redR_le g n o p x) _ p
theorem red_dn {g : TAig} {n o : Nat} {p : LLI} (hp : PatOk g p) (hn : p.length = n + 1) {k i : Nat} (hk : k < n + 1) (hi : i < g.1.toNat) : Dn g n o (red g n o p) k i := by
 have outer := fold_dn (g := g) (f := fun p k => redR g n o p k) (D := fun p k => ∀ i, i < g.1.toNat → Dn g n o p k i) (fun p x => redR_le g n o p x) (fun p q x h hq i hi => (h i hi).le hq) (fun p x hp => redR_ok hp x) (N := n + 1) (List.range (n + 1))
  (fun p k hk hp hN => by
   have hk' : k < n + 1 := by simpa using hk
   intro i hi
   exact fold_dn (g := g) (f := fun p i => tryB g n o p k i) (D := fun p i => Dn g n o p k i) (fun p x => tryB_le g n o p k x) (fun p q x h hq => h.le hq) (fun p x hp => tryB_ok hp k x) (N := n + 1) (List.range g.1.toNat)
    (fun p i hi hp hN => by
     have hkp : k < p.length := by omega
     have := (hp _ (List.getElem_mem hkp)).1
     exact tryB_dn hkp (by rw [getD_lt hkp]; have : i < g.1.toNat := (by simpa using hi); omega)) p hp hN i (by simpa using hi)) p hp hn k (by simpa using hk)
 exact outer i hi
theorem tryB_out {g : TAig} {n o : Nat} {p : LLI} {k i : Nat} (h : out3 g n o p = 1) : out3 g n o (tryB g n o p k i) = 1 := by
 unfold tryB
 split
 ·assumption
 ·exact h
theorem fold_out {g : TAig} {n o : Nat} {α : Type} {f : LLI → α → LLI} (hf : ∀ p x, out3 g n o p = 1 → out3 g n o (f p x) = 1) : ∀ (l : List α) (p : LLI), out3 g n o p = 1 → out3 g n o (l.foldl f p) = 1 := by
 intro l
 induction l with
 | nil => intro p h; exact h
 | cons x l ih => intro p h; exact ih _ (hf p x h)
theorem red_out {g : TAig} {n o : Nat} {p : LLI} (h : out3 g n o p = 1) : out3 g n o (red g n o p) = 1 :=
 fold_out (fun p x h => fold_out (fun p y h => tryB_out h) _ p h) _ p h
end Go.Proofs.YtkcmacdakgohcaaDoor

open Go Go.AM Go.TM
namespace Go.Proofs.YtkcmacdakgohcaaDoor
def bring (x n : Int) : Int := (x.tmod n + n).tmod n
theorem bring_range {x n : Int} (h : 0 < n) : 0 ≤ bring x n ∧ bring x n < n := by
 have h1 := Int.lt_tmod_of_pos x h
 unfold bring
 rw [Int.tmod_eq_emod_of_nonneg (by omega)]
 exact ⟨Int.emod_nonneg _ (by omega), Int.emod_lt_of_pos _ h⟩
theorem bring_eq {x n : Int} (h : 0 < n) (h2 : n ≤ 1000000000) : F_r20_Bring x n = some (bring x n) := by
 have h1 := Int.lt_tmod_of_pos x h
 have h3 := Int.tmod_lt_of_pos x h
 unfold F_r20_Bring
 simp only [br_def, ne_def, decide_eq_true_eq, ad_def]
 rw [if_pos (by omega), if_pos (by omega), show md x n = x.tmod n from rfl, wr64 (by omega) (by omega)]; rfl
theorem mn_tn {α : Type} (l : List α) (n : Nat) : tn (mn (ni (len l)) (n : Int)) = (l.take n).length := by
 simp only [mn_def, ni_def, len_def]
 split
 ·rw [tn_nat, List.length_take]; omega
 ·rw [tn_nat, List.length_take]; omega
def mixI {α : Type} (f : Nat → α) (r : List α) (i : Nat) : List α := (List.range i).map f ++ r.drop i
theorem mixI_len {α : Type} {f : Nat → α} {r : List α} {i : Nat} (hi : i ≤ r.length) : (mixI f r i).length = r.length := by simp [mixI]; omega
theorem mixI_get {α : Type} {f : Nat → α} {r : List α} {i : Nat} (hi : i < r.length) (d : α) : rd (mixI f r i) i d = r[i] := by
 unfold mixI
 rw [rd_def, List.getD_eq_getElem?_getD, List.getElem?_append_right (by simp), List.length_map, List.length_range, Nat.sub_self, List.getElem?_drop, Nat.add_zero, List.getElem?_eq_getElem hi]; rfl
theorem mixI_set {α : Type} {f : Nat → α} {r : List α} {i : Nat} (hi : i < r.length) : (mixI f r i).set i (f i) = mixI f r (i + 1) := by
 unfold mixI
 rw [List.set_append_right _ _ (by simp), List.length_map, List.length_range, Nat.sub_self, List.drop_eq_getElem_cons hi, List.range_succ, List.map_append, List.append_assoc]; rfl
theorem mixI_end {α : Type} (f : Nat → α) (r : List α) : mixI f r r.length = (List.range r.length).map f := by simp [mixI]
def fit (g : TAig) (n : Nat) : TAig :=
 (bring g.1 ((n : Int) + 1),
  ((List.range (g.2.1.take n).length).map fun i => (bring ((g.2.1.take n).getD i (0, 0)).1 (2 * (1 + bring g.1 ((n : Int) + 1) + (g.2.1.take n).length + (g.2.2.1.take n).length)), md ((g.2.1.take n).getD i (0, 0)).2 2)),
  ((List.range (g.2.2.1.take n).length).map fun i => (bring ((g.2.2.1.take n).getD i (0, 0)).1 (2 * (1 + bring g.1 ((n : Int) + 1) + (g.2.1.take n).length + i)), bring ((g.2.2.1.take n).getD i (0, 0)).2 (2 * (1 + bring g.1 ((n : Int) + 1) + (g.2.1.take n).length + i)))),
  ((List.range (g.2.2.2.take n).length).map fun i => bring ((g.2.2.2.take n).getD i 0) (2 * (1 + bring g.1 ((n : Int) + 1) + (g.2.1.take n).length + (g.2.2.1.take n).length))))
theorem fit_len (g : TAig) (n : Nat) : (fit g n).2.1.length = (g.2.1.take n).length ∧ (fit g n).2.2.1.length = (g.2.2.1.take n).length ∧ (fit g n).2.2.2.length = (g.2.2.2.take n).length := by
 refine ⟨?_, ?_, ?_⟩ <;> simp only [fit, List.length_map, List.length_range]
theorem fit_fst (g : TAig) (n : Nat) : fst0 (fit g n) = 1 + bring g.1 ((n : Int) + 1) + (g.2.1.take n).length := by
 unfold fst0
 rw [(fit_len g n).1]; rfl
theorem fit_siz (g : TAig) (n : Nat) : siz (fit g n) = 1 + bring g.1 ((n : Int) + 1) + (g.2.1.take n).length + (g.2.2.1.take n).length := by
 unfold siz
 rw [fit_fst, (fit_len g n).2.1]
theorem md_le (x : Int) : md x 2 ≤ 1 := by
 have := Int.tmod_lt_of_pos x (show (0 : Int) < 2 by omega)
 show x.tmod 2 ≤ 1
 omega
theorem fit_chk (g : TAig) {n : Nat} (hn : n ≤ 100) : chk (fit g n) = 0 := by
 obtain ⟨l1, l2, l3⟩ := fit_len g n
 have t1 := List.length_take (i := n) (l := g.2.1)
 have t2 := List.length_take (i := n) (l := g.2.2.1)
 have t3 := List.length_take (i := n) (l := g.2.2.2)
 obtain ⟨r1, r2⟩ := bring_range (x := g.1) (n := (n : Int) + 1) (by omega)
 have e1 : (fit g n).1 = bring g.1 ((n : Int) + 1) := rfl
 have hf := fit_fst g n
 have hs := fit_siz g n
 have c1 : (List.range (fit g n).2.2.1.length).findSome? (andB (fit g n)) = none := by
  rw [List.findSome?_eq_none_iff]
  intro i hi
  have hi' : i < (fit g n).2.2.1.length := by simpa using hi
  have hi2 : i < (g.2.2.1.take n).length := by omega
  unfold andB litB
  rw [getD_lt hi', hf]
  have q1 := bring_range (x := ((g.2.2.1.take n).getD i (0, 0)).1) (n := 2 * (1 + bring g.1 ((n : Int) + 1) + (g.2.1.take n).length + i)) (by omega)
  have q2 := bring_range (x := ((g.2.2.1.take n).getD i (0, 0)).2) (n := 2 * (1 + bring g.1 ((n : Int) + 1) + (g.2.1.take n).length + i)) (by omega)
  have e : (fit g n).2.2.1[i] = (bring ((g.2.2.1.take n).getD i (0, 0)).1 (2 * (1 + bring g.1 ((n : Int) + 1) + (g.2.1.take n).length + i)), bring ((g.2.2.1.take n).getD i (0, 0)).2 (2 * (1 + bring g.1 ((n : Int) + 1) + (g.2.1.take n).length + i))) := by
   simp only [fit, List.getElem_map, List.getElem_range]
  rw [e]
  simp only [decide_eq_true q1, decide_eq_true q2]
  rfl
 have c2 : (fit g n).2.1.findSome? (latB (fit g n)) = none := by
  rw [List.findSome?_eq_none_iff]
  intro x hx
  simp only [fit, List.mem_map] at hx
  obtain ⟨i, -, rfl⟩ := hx
  unfold latB litB
  rw [hs]
  have q1 := bring_range (x := ((g.2.1.take n).getD i (0, 0)).1) (n := 2 * (1 + bring g.1 ((n : Int) + 1) + (g.2.1.take n).length + (g.2.2.1.take n).length)) (by omega)
  simp only [decide_eq_true q1, decide_eq_true (md_le _)]
  rfl
 have c3 : (fit g n).2.2.2.findSome? (outB (fit g n)) = none := by
  rw [List.findSome?_eq_none_iff]
  intro x hx
  simp only [fit, List.mem_map] at hx
  obtain ⟨i, -, rfl⟩ := hx
  unfold outB litB
  rw [hs]
  have q1 := bring_range (x := (g.2.2.2.take n).getD i 0) (n := 2 * (1 + bring g.1 ((n : Int) + 1) + (g.2.1.take n).length + (g.2.2.1.take n).length)) (by omega)
  simp only [decide_eq_true q1]
  rfl
 unfold chk
 rw [if_neg (by omega), if_neg (by omega), if_neg (by omega), if_neg (by omega), c1, c2, c3]; rfl
theorem fit_B (g : TAig) {n : Nat} (hn : n ≤ 100) : AigB (fit g n) := by
 obtain ⟨l1, l2, l3⟩ := fit_len g n
 have t1 := List.length_take (i := n) (l := g.2.1)
 have t2 := List.length_take (i := n) (l := g.2.2.1)
 have t3 := List.length_take (i := n) (l := g.2.2.2)
 exact ⟨by omega, by omega, by omega⟩
def fA (g : TAig) (n : Nat) (b : Int) (i : Nat) : Int × Int := (bring ((g.2.2.1.take n).getD i (0, 0)).1 (2 * (1 + b + (g.2.1.take n).length + i)), bring ((g.2.2.1.take n).getD i (0, 0)).2 (2 * (1 + b + (g.2.1.take n).length + i)))
def fL (g : TAig) (n : Nat) (N : Int) (i : Nat) : Int × Int := (bring ((g.2.1.take n).getD i (0, 0)).1 (2 * N), md ((g.2.1.take n).getD i (0, 0)).2 2)
def fO (g : TAig) (n : Nat) (N : Int) (i : Nat) : Int := bring ((g.2.2.2.take n).getD i 0) (2 * N)
theorem fit_eq (g : TAig) (h1 : g.2.1.length ≤ 8796093022208) (h2 : g.2.2.1.length ≤ 8796093022208) (h3 : g.2.2.2.length ≤ 17592186044416) {n : Nat} (hn : n ≤ 100) : F_r20_Fit g (n : Int) = some (fit g n) := by
 have t1 := List.length_take (i := n) (l := g.2.1)
 have t2 := List.length_take (i := n) (l := g.2.2.1)
 have t3 := List.length_take (i := n) (l := g.2.2.2)
 obtain ⟨r1, r2⟩ := bring_range (x := g.1) (n := (n : Int) + 1) (by omega)
 have hfit : fit g n = (bring g.1 ((n : Int) + 1), ((List.range (g.2.1.take n).length).map (fL g n (1 + bring g.1 ((n : Int) + 1) + (g.2.1.take n).length + (g.2.2.1.take n).length))), ((List.range (g.2.2.1.take n).length).map (fA g n (bring g.1 ((n : Int) + 1)))), ((List.range (g.2.2.2.take n).length).map (fO g n (1 + bring g.1 ((n : Int) + 1) + (g.2.1.take n).length + (g.2.2.1.take n).length)))) := rfl
 rw [hfit]
 have hbring := bring_eq (x := g.1) (n := (n : Int) + 1) (by omega) (by omega)
 generalize bring g.1 ((n : Int) + 1) = b at r1 r2 hbring ⊢
 have k0 := iterS_upto (f := F_r20_Fit_l0 g (n : Int) b) (fun i => ((i : Int), (mixI (fA g n b) (g.2.2.1.take n) i, ()))) (g.2.2.1.take n).length (r := .inl (((g.2.2.1.take n).length : Int), ((List.range (g.2.2.1.take n).length).map (fA g n b), ())))
  (fun i hi => by
   have hl := mixI_len (f := fA g n b) (Nat.le_of_lt hi)
   have hs := mixI_set (f := fA g n b) hi
   have ha : fA g n b i = (bring (g.2.2.1.take n)[i].1 (2 * (1 + b + (g.2.1.take n).length + i)), bring (g.2.2.1.take n)[i].2 (2 * (1 + b + (g.2.1.take n).length + i))) := by unfold fA; rw [getD_lt hi]
   simp only [F_r20_Fit_l0, tn_nat, mixI_get hi, mn_tn, put_def, ad_def, ml_def, ni_def, len_def]
   rw [wr64 (show -9223372036854775808 ≤ 1 + b by omega) (by omega), wr64 (show -9223372036854775808 ≤ 1 + b + ((g.2.1.take n).length : Int) by omega) (by omega), wr64 (show -9223372036854775808 ≤ 1 + b + ((g.2.1.take n).length : Int) + (i : Int) by omega) (by omega), wr64 (show -9223372036854775808 ≤ 2 * (1 + b + ((g.2.1.take n).length : Int) + (i : Int)) by omega) (by omega)]
   rw [bring_eq (by omega) (by omega), bring_eq (by omega) (by omega), ob_some, ob_some, ← ha, hs]
   simp only [br_def, lt_def, ix_def, decide_eq_true_eq, hl]
   rw [if_pos (by omega), if_pos (by omega), if_pos (by omega), if_pos (by omega), wr64 (by omega) (by omega)]; rfl)
  (by rw [mixI_end]; simp only [F_r20_Fit_l0, br_def, lt_def, ni_def, len_def, List.length_map, List.length_range, decide_eq_true_eq]; rw [if_neg (by omega)])
 generalize hN : 1 + b + ((g.2.1.take n).length : Int) + ((g.2.2.1.take n).length : Int) = N
 have k1 : ∀ y3, iterS (F_r20_Fit_l1 g (n : Int) b y3 N) (0, (mixI (fL g n N) (g.2.1.take n) 0, ())) = some (.inl (((g.2.1.take n).length : Int), ((List.range (g.2.1.take n).length).map (fL g n N), ()))) := fun y3 => iterS_upto (f := F_r20_Fit_l1 g (n : Int) b y3 N) (fun i => ((i : Int), (mixI (fL g n N) (g.2.1.take n) i, ()))) (g.2.1.take n).length
  (fun i hi => by
   have hl := mixI_len (f := fL g n N) (Nat.le_of_lt hi)
   have hs := mixI_set (f := fL g n N) hi
   have ha : fL g n N i = (bring (g.2.1.take n)[i].1 (2 * N), md (g.2.1.take n)[i].2 2) := by unfold fL; rw [getD_lt hi]
   simp only [F_r20_Fit_l1, tn_nat, mixI_get hi, put_def, ad_def, ml_def]
   rw [wr64 (show -9223372036854775808 ≤ 2 * N by omega) (by omega)]
   rw [bring_eq (by omega) (by omega), ob_some, ← ha, hs]
   simp only [br_def, lt_def, ix_def, ni_def, len_def, decide_eq_true_eq, hl]
   rw [if_pos (by omega), if_pos (by omega), if_pos (by omega), if_pos (by omega), wr64 (by omega) (by omega)]; rfl)
  (by rw [mixI_end]; simp only [F_r20_Fit_l1, br_def, lt_def, ni_def, len_def, List.length_map, List.length_range, decide_eq_true_eq]; rw [if_neg (by omega)])
 have k2 : ∀ y3 y6, iterS (F_r20_Fit_l2 g (n : Int) b y3 N y6) (0, (mixI (fO g n N) (g.2.2.2.take n) 0, ())) = some (.inl (((g.2.2.2.take n).length : Int), ((List.range (g.2.2.2.take n).length).map (fO g n N), ()))) := fun y3 y6 => iterS_upto (f := F_r20_Fit_l2 g (n : Int) b y3 N y6) (fun i => ((i : Int), (mixI (fO g n N) (g.2.2.2.take n) i, ()))) (g.2.2.2.take n).length
  (fun i hi => by
   have hl := mixI_len (f := fO g n N) (Nat.le_of_lt hi)
   have hs := mixI_set (f := fO g n N) hi
   have ha : fO g n N i = bring (g.2.2.2.take n)[i] (2 * N) := by unfold fO; rw [getD_lt hi]
   simp only [F_r20_Fit_l2, tn_nat, mixI_get hi, put_def, ad_def, ml_def]
   rw [wr64 (show -9223372036854775808 ≤ 2 * N by omega) (by omega)]
   rw [bring_eq (by omega) (by omega), ob_some, ← ha, hs]
   simp only [br_def, lt_def, ix_def, ni_def, len_def, decide_eq_true_eq, hl]
   rw [if_pos (by omega), if_pos (by omega), if_pos (by omega), wr64 (by omega) (by omega)]; rfl)
  (by rw [mixI_end]; simp only [F_r20_Fit_l2, br_def, lt_def, ni_def, len_def, List.length_map, List.length_range, decide_eq_true_eq]; rw [if_neg (by omega)])
 have m0 : ∀ {α : Type} (f : Nat → α) (r : List α), mixI f r 0 = r := fun f r => by simp [mixI]
 rw [m0] at k0
 have k0' := k0
 have n20 : F_r20_Nodes (b, (g.2.1.take n, ((List.range (g.2.2.1.take n).length).map (fA g n b), g.2.2.2.take n))) = some N := by
  unfold F_r20_Nodes
  simp only [ad_def, ni_def, len_def, List.length_map, List.length_range]
  rw [wr64 (show -9223372036854775808 ≤ 1 + b by omega) (by omega), wr64 (show -9223372036854775808 ≤ 1 + b + ((g.2.1.take n).length : Int) by omega) (by omega), hN, wr64 (by omega) (by omega)]
 unfold F_r20_Fit
 simp only [mn_rg, mn_take]
 rw [show wr .i64 (ad (n : Int) 1) = (n : Int) + 1 by rw [ad_def, wr64 (by omega) (by omega)], hbring, ob_some, show ((0 : Int), (g.2.2.1.take n, ())) = ((((0 : Nat) : Int)), (g.2.2.1.take n, ())) from rfl, k0, oj_inl]
 rw [show F_r20_Nodes (b, (g.2.1.take n, (((((g.2.2.1.take n).length : Int), ((List.range (g.2.2.1.take n).length).map (fA g n b), ())) : Int × (List (Int × Int) × Unit)).2.1, g.2.2.2.take n))) = some N from n20, ob_some]
 have k1' := k1 (((g.2.2.1.take n).length : Int), ((List.range (g.2.2.1.take n).length).map (fA g n b), ()))
 rw [m0] at k1'
 rw [k1', oj_inl]
 have k2' := k2 (((g.2.2.1.take n).length : Int), ((List.range (g.2.2.1.take n).length).map (fA g n b), ())) (((g.2.1.take n).length : Int), ((List.range (g.2.1.take n).length).map (fL g n N), ()))
 rw [m0] at k2'
 rw [k2', oj_inl]
 simp only [br_def, fits_def, len_def, decide_eq_true_eq]
 rw [if_pos (by omega), if_pos (by omega), if_pos (by omega), if_pos trivial, if_pos trivial, if_pos trivial]
def bitAt (x n : Int) : Bool := eq (md (shr .u64 x (md n 64)) 2) 1
def bitsR (v : Int) (n : Nat) : LB := (List.range n).map fun (i : Nat) => bitAt v (i : Int)
theorem md64 {n : Int} (h : 0 ≤ n) : le 0 (md n 64) = true := by
 have : 0 ≤ md n 64 := by
  show 0 ≤ n.tmod 64
  rw [Int.tmod_eq_emod_of_nonneg h]; omega
 simp [this]
theorem bits_eq {v : Int} {n : Int} (h0 : 0 ≤ n) (h1 : n ≤ 4096) : F_r20_Bits v n = some (bitsR v n.toNat) := by
 have := iterS_upto (f := F_r20_Bits_l0 v n) (fun i => ((i : Int), ((List.range i).map fun (i : Nat) => bitAt v (i : Int), ()))) n.toNat (r := .inl ((n.toNat : Int), (bitsR v n.toNat, ())))
  (fun i hi => by
   have hm := md64 (n := (i : Int)) (by omega)
   simp only [F_r20_Bits_l0, hm]
   rw [show eq (md (shr .u64 v (md (i : Int) 64)) 2) 1 = bitAt v (i : Int) from rfl, List.range_succ, List.map_append]
   simp only [br_def, lt_def, fits_def, decide_eq_true_eq, ad_def, app_def, len_def, List.length_map, List.length_range, List.length_singleton, if_true]
   rw [if_pos (by omega), if_pos (by omega), wr64 (by omega) (by omega)]; rfl)
  (by simp only [F_r20_Bits_l0, br_def, lt_def, decide_eq_true_eq]; rw [if_neg (by omega)]; rfl)
 unfold F_r20_Bits
 rw [show ((0 : Int), (([] : LB), ())) = ((((0 : Nat) : Int)), ((List.range 0).map fun (i : Nat) => bitAt v (i : Int), ())) from rfl, this, oj_inl]
def cyc (g : TAig) (l : LI) : LLB := (l.take 12).map fun v => bitsR v g.1.toNat
theorem cycles_eq {g : TAig} {l : LI} (h0 : 0 ≤ g.1) (h1 : g.1 ≤ 4096) : F_w36_cycles g l = some (cyc g l) := by
 have hl := List.length_take (i := 12) (l := l)
 have := iterS_upto (f := F_w36_cycles_l0 g l) (fun i => ((i : Int), ((l.take i).map fun v => bitsR v g.1.toNat, ()))) (l.take 12).length (r := .inl (((l.take 12).length : Int), (cyc g l, ())))
  (fun i hi => by
   have hi' : i < l.length := by omega
   have e : (l.take (i + 1)).map (fun v => bitsR v g.1.toNat) = (l.take i).map (fun v => bitsR v g.1.toNat) ++ [bitsR l[i] g.1.toNat] := by rw [← List.take_append_getElem hi', List.map_append]; rfl
   simp only [F_w36_cycles_l0, tn_nat, rd_lt hi', bits_eq h0 h1, ob_some, e]
   simp only [br_def, lt_def, ix_def, ni_def, fits_def, decide_eq_true_eq, ad_def, app_def, len_def, List.length_map, List.length_take, List.length_singleton]
   rw [if_pos (by omega), if_pos (by omega), if_pos (by omega), if_pos (by omega), wr64 (by omega) (by omega)]; rfl)
  (by
   have e : l.take (l.take 12).length = l.take 12 := by rw [hl, List.take_eq_take_iff]; omega
   simp only [F_w36_cycles_l0, br_def, lt_def, ni_def, len_def, decide_eq_true_eq, e]
   by_cases q : ((l.take 12).length : Int) < l.length
   ·rw [if_pos q, if_neg (by omega)]; rfl
   ·rw [if_neg q]; rfl)
 unfold F_w36_cycles
 rw [show ((0 : Int), (([] : LLB), ())) = ((((0 : Nat) : Int)), ((l.take 0).map fun v => bitsR v g.1.toNat, ())) from rfl, this, oj_inl]
theorem cyc_ok {g : TAig} {l : LI} (h0 : 0 ≤ g.1) : (cyc g l).length ≤ 12 ∧ ∀ r ∈ cyc g l, (r.length : Int) = g.1 := by
 refine ⟨by simp [cyc]; omega, fun r hr => ?_⟩
 obtain ⟨v, -, rfl⟩ := List.mem_map.1 hr
 simp only [bitsR, List.length_map, List.length_range]; omega
def fillR (x : Int) : Int → LI → LB × Int
 | n, [] => ([], n)
 | n, v :: r => if 1 < v then (bitAt x n :: (fillR x (n + 1) r).1, (fillR x (n + 1) r).2) else (decide (v = 1) :: (fillR x n r).1, (fillR x n r).2)
def fillP (x : Int) : Int → LLI → LLB × Int
 | n, [] => ([], n)
 | n, r :: p => ((fillR x n r).1 :: (fillP x (fillR x n r).2 p).1, (fillP x (fillR x n r).2 p).2)
def stepF (x : Int) (a : Int × LB) (v : Int) : Int × LB := if 1 < v then (a.1 + 1, a.2 ++ [bitAt x a.1]) else (a.1, a.2 ++ [decide (v = 1)])
theorem fold_fillR (x : Int) : ∀ (r : LI) (n : Int) (o : LB), r.foldl (stepF x) (n, o) = ((fillR x n r).2, o ++ (fillR x n r).1) := by
 intro r
 induction r with
 | nil => intro n o; simp [fillR]
 | cons v r ih =>
  intro n o
  rw [List.foldl_cons]
  by_cases e : 1 < v
  ·rw [show stepF x (n, o) v = (n + 1, o ++ [bitAt x n]) from if_pos e, ih, fillR, if_pos e]; simp
  ·rw [show stepF x (n, o) v = (n, o ++ [decide (v = 1)]) from if_neg e, ih, fillR, if_neg e]; simp
theorem fold_fillP (x : Int) : ∀ (p : LLI) (n : Int) (o : LLB), p.foldl (fun (a : Int × LLB) r => ((fillR x a.1 r).2, a.2 ++ [(fillR x a.1 r).1])) (n, o) = ((fillP x n p).2, o ++ (fillP x n p).1) := by
 intro p
 induction p with
 | nil => intro n o; simp [fillP]
 | cons r p ih => intro n o; rw [List.foldl_cons, ih, fillP]; simp
theorem fillR_n (x : Int) : ∀ (r : LI) (n : Int), n ≤ (fillR x n r).2 ∧ (fillR x n r).2 ≤ n + r.length := by
 intro r
 induction r with
 | nil => intro n; simp [fillR]
 | cons v r ih =>
  intro n
  rw [fillR, List.length_cons]
  split
  ·have := ih (n + 1); simp only; omega
  ·have := ih n; simp only; omega
theorem filled_eq {p : LLI} (x : Int) (h1 : p.length ≤ 64) (h2 : ∀ r ∈ p, r.length ≤ 4096) : F_w36_filled p x = some (fillP x 0 p).1 := by
 have inner : ∀ (k : Nat) (hk : k < p.length) (n : Int) (z), 0 ≤ n → n ≤ 1000000 → iterS (F_w36_filled_l1 p x ((k : Int), (n, z))) (0, (n, ([], ()))) = some (.inl ((p[k].length : Int), ((fillR x n p[k]).2, ((fillR x n p[k]).1, ())))) := fun k hk n z hn hn2 => by
  have hr := h2 _ (List.getElem_mem hk)
  have := iterS_fold (f := F_w36_filled_l1 p x ((k : Int), (n, z))) p[k] (fun i (a : Int × LB) => ((i : Int), (a.1, (a.2, ())))) (stepF x) (fun a => .inl ((p[k].length : Int), (a.1, (a.2, ())))) (fun i a => 0 ≤ a.1 ∧ a.1 ≤ 1000000 + i ∧ a.2.length = i)
   (fun i a hi ⟨q0, q1, q2⟩ => by
    have hm := md64 q0
    refine ⟨?_, ?_⟩
    ·simp only [F_w36_filled_l1, tn_nat, rd_lt hk, rd_lt hi, hm]
     rw [show eq (md (shr .u64 x (md a.1 64)) 2) 1 = bitAt x a.1 from rfl]
     simp only [br_def, lt_def, ix_def, ni_def, fits_def, decide_eq_true_eq, ad_def, app_def, len_def, List.length_singleton, eq_def, if_true]
     unfold stepF
     rw [if_pos (by omega), if_pos (by omega), if_pos (by omega), if_pos (by omega), if_pos (by omega), if_pos (by omega)]
     by_cases e : 1 < p[k][i]
     ·rw [if_pos e, if_pos e, if_pos (by omega), wr64 (by omega) (by omega), wr64 (by omega) (by omega)]; rfl
     ·rw [if_neg e, if_neg e, if_pos (by omega), wr64 (by omega) (by omega)]; rfl
    ·unfold stepF
     split
     ·refine ⟨?_, ?_, ?_⟩ <;> simp only [List.length_append, List.length_singleton] <;> omega
     ·refine ⟨?_, ?_, ?_⟩ <;> simp only [List.length_append, List.length_singleton] <;> omega)
   (fun a _ => by
    simp only [F_w36_filled_l1, tn_nat, rd_lt hk, br_def, lt_def, ix_def, ni_def, len_def, decide_eq_true_eq]
    rw [if_pos (by omega), if_neg (by omega)]) (b := (n, [])) ⟨hn, by simp; omega, rfl⟩
  rw [fold_fillR] at this
  exact this
 have outer := iterS_fold (f := F_w36_filled_l0 p x) p (fun k (a : Int × LLB) => ((k : Int), (a.1, (a.2, ())))) (fun (a : Int × LLB) r => ((fillR x a.1 r).2, a.2 ++ [(fillR x a.1 r).1])) (fun a => .inl ((p.length : Int), (a.1, (a.2, ())))) (fun k a => 0 ≤ a.1 ∧ a.1 ≤ k * 4096 ∧ a.2.length = k)
  (fun k a hk ⟨q0, q1, q2⟩ => by
   have hr := h2 _ (List.getElem_mem hk)
   have hn := fillR_n x p[k] a.1
   have hmul : k * 4096 ≤ 64 * 4096 := Nat.mul_le_mul (by omega) (Nat.le_refl _)
   refine ⟨?_, ?_, ?_, by simp [q2]⟩
   ·simp only [F_w36_filled_l0, inner k hk a.1 (a.2, ()) q0 (by omega)]
    rw [oj_inl]
    simp only [br_def, lt_def, ni_def, fits_def, decide_eq_true_eq, ad_def, app_def, len_def, List.length_singleton]
    rw [if_pos (by omega), if_pos (by omega), wr64 (by omega) (by omega)]; rfl
   ·simp only; omega
   ·simp only; omega)
  (fun a _ => by simp [F_w36_filled_l0]) (b := (0, [])) ⟨by simp, by simp, rfl⟩
 rw [fold_fillP] at outer
 unfold F_w36_filled
 rw [show ((0 : Int), ((0 : Int), (([] : LLB), ()))) = ((((0 : Nat) : Int)), ((0 : Int), (([] : LLB), ()))) from rfl, outer, oj_inl]; rfl
theorem fillR_cov (x : Int) : ∀ (r : LI) (n : Int), (∀ v ∈ r, T3 v) → covL r ((fillR x n r).1.map bit3) := by
 intro r
 induction r with
 | nil => intro n _; trivial
 | cons v r ih =>
  intro n h
  have hv := (h v (List.mem_cons_self ..)).cases
  have hr := fun w hw => h w (List.mem_cons_of_mem _ hw)
  rw [fillR]
  split
  ·exact ⟨.inl (by omega), ih _ hr⟩
  ·refine ⟨.inr ?_, ih _ hr⟩
   rcases hv with rfl | rfl | rfl
   ·rfl
   ·rfl
   ·omega
theorem fillP_cov (x : Int) : ∀ (p : LLI) (n : Int), (∀ r ∈ p, ∀ v ∈ r, T3 v) → covP p (pat3 (fillP x n p).1) := by
 intro p
 induction p with
 | nil => intro n _; trivial
 | cons r p ih => intro n h; exact ⟨fillR_cov x r n (h r (List.mem_cons_self ..)), ih _ fun r hr => h r (List.mem_cons_of_mem _ hr)⟩
theorem cov_wide {g : TAig} {p : LLI} {t : LLB} (h : covP p (pat3 t)) (hp : PatOk g p) : t.length = p.length ∧ ∀ r ∈ t, (r.length : Int) = g.1 := by
 have hl := h.len
 have hl2 : (pat3 t).length = t.length := by simp [pat3]
 refine ⟨by omega, fun r hr => ?_⟩
 obtain ⟨k, hk, rfl⟩ := List.getElem_of_mem hr
 have := (h.get k).len
 rw [pat3_get, getD_lt hk, getD_lt (show k < p.length by omega), List.length_map] at this
 have h2 := (hp _ (List.getElem_mem (show k < p.length by omega))).1
 omega
theorem run2_wide {g : TAig} {t : LLB} (hc : chk g = 0) (hl : t.length ≤ 64) (hr : ∀ r ∈ t, (r.length : Int) = g.1) : run2 g t = ((sim2 g t (start2 g)).1, (start2 g :: (sim2 g t (start2 g)).2, 0)) := by
 unfold run2
 have : t.findSome? (wide g) = none := by
  rw [List.findSome?_eq_none_iff]
  intro r h
  unfold wide
  rw [if_pos (hr r h)]
 rw [if_neg (by omega), if_neg (by omega), this]; rfl
theorem run3_wide {g : TAig} {p : LLI} (hc : chk g = 0) (hl : p.length ≤ 64) (hp : PatOk g p) : run3 g p = (sim3 g p (start3 g), 0) := by
 unfold run3
 have : p.findSome? (rowB g) = none := by
  rw [List.findSome?_eq_none_iff]
  intro r h
  obtain ⟨h1, h2⟩ := hp r h
  unfold rowB
  rw [if_neg (by omega)]
  have : r.findSome? hi3 = none := by
   rw [List.findSome?_eq_none_iff]
   intro v hv
   unfold hi3
   rw [if_neg (by have := (h2 v hv).2; omega)]
  rw [this]; rfl
 rw [if_neg (by omega), if_neg (by omega), this]; rfl
end Go.Proofs.YtkcmacdakgohcaaDoor

open Go Go.AM Go.TM
namespace Go.Proofs.YtkcmacdakgohcaaDoor
abbrev yNums : Ty := .slice (.int .u64)
def mk (m : LI) (k i : Nat) : Bool := decide (k < m.length) && bitAt (m.getD k 0) (i : Int)
def stepM (m : LI) (p : LLI) (k i : Nat) : LLI := if mk m k i = true then setB p k i else p
def maskR (m : LI) (w : Nat) (p : LLI) (k : Nat) : LLI := (List.range w).foldl (fun p i => stepM m p k i) p
def maskP (m : LI) (w : Nat) (p : LLI) : LLI := (List.range p.length).foldl (fun p k => maskR m w p k) p
section
variable {a0 : TAig} {a1 a2 : LI} {a3 : Int} {y0 : TAig} {y1 : LLB} {y2 : LLI} {y3 : LLI × Int} {y4 : LLB × (LLB × Int)} {y5 : LLI} {y6 : Bool} {y7 : Int × (LLI × Unit)}
end
theorem pat_row {g : TAig} {p : LLI} (h : PatOk g p) (i1 : g.1 ≤ 4096) : ∀ r ∈ p, r.length ≤ 4096 := fun r hr => by have := (h r hr).1; omega
theorem pat_T {g : TAig} {p : LLI} (h : PatOk g p) : ∀ r ∈ p, ∀ v ∈ r, T3 v := fun r hr => (h r hr).2
end Go.Proofs.YtkcmacdakgohcaaDoor

open Go Go.AM Go.TM
namespace Go.Proofs.YtkcmacdakgohcaaDoor
theorem sim2_take (g : TAig) : ∀ (t : LLB) (m : Nat) (s : LB), (sim2 g (t.take m) s).1 = (sim2 g t s).1.take m := by
 intro t
 induction t with
 | nil => intro m s; simp [sim2]
 | cons i t ih =>
  intro m s
  cases m with
  | zero => rfl
  | succ m => simp only [List.take_succ_cons, sim2, ih]
section
variable {a0 : TAig} {a1 : Int} {a2 : LI} {a3 : Int} {y0 : Bool} {g : TAig} {out : Int} {y3 : LLB} {y4 : Int × (Bool × Int)} {y5 : LLI × Int} {y6 : Bool} {y7 : LLB} {y8 : LLB × (LLB × Int)} {y9 : Bool} {P : LLI} {n : Nat}
theorem rdc_copy (hP : y5.1 = P) (h : P.length ≤ 64) (h2 : ∀ r ∈ P, r.length ≤ 4096) (st0 st1) : iterS (F_w36_TraceReduces_l2 a0 a1 a2 a3 y0 g out y3 y4 y5 y6 y7 y8 y9 st0 st1) (0, ([], ())) = some (.inl ((P.length : Int), (P, ()))) := by
 have := iterS_upto (f := F_w36_TraceReduces_l2 a0 a1 a2 a3 y0 g out y3 y4 y5 y6 y7 y8 y9 st0 st1) (fun i => ((i : Int), (P.take i, ()))) P.length (r := .inl ((P.length : Int), (P, ())))
  (fun i hi => by
   have hr := h2 _ (List.getElem_mem hi)
   simp only [F_w36_TraceReduces_l2, hP, tn_nat, rd_lt hi]
   simp only [br_def, lt_def, ni_def, len_def, ix_def, fits_def, decide_eq_true_eq, ad_def, app_def, List.length_take, List.length_singleton]
   rw [if_pos (by omega), if_pos (by omega), if_pos (by omega), if_pos (by omega), wr64 (by omega) (by omega), List.take_append_getElem hi]; rfl)
  (by simp [F_w36_TraceReduces_l2, hP])
 simpa using this
theorem rdc_row (hP : y5.1 = P) (hp : PatOk g P) (i0 : 0 ≤ g.1) (i1 : g.1 ≤ 4096) (hN : P.length = n + 1) (h64 : P.length ≤ 64) (hy4 : y4.1 = (n : Int)) (o0 : 0 ≤ out) (o1 : out < g.2.2.2.length)
  (hrun : ∀ p : LLI, PatOk g p → p.length ≤ 64 → F_trace_Run (g.1, (g.2.1, (g.2.2.1, g.2.2.2))) p = some (sim3 g p (start3 g), 0)) (hD : ∀ k i, k < n + 1 → i < g.1.toNat → Dn g n out.toNat P k i) {k : Nat} (hk : k < n + 1) :
  iterS (F_w36_TraceReduces_l1 a0 a1 a2 a3 y0 g out y3 y4 y5 y6 y7 y8 y9 ((k : Int), ())) (0, ()) = some (.inl ((g.1.toNat : Int), ())) := by
 have hk' : k < P.length := by omega
 have hrow := (hp _ (List.getElem_mem hk')).1
 have := iterS_upto (f := F_w36_TraceReduces_l1 a0 a1 a2 a3 y0 g out y3 y4 y5 y6 y7 y8 y9 ((k : Int), ())) (fun i => ((i : Int), ())) g.1.toNat (r := .inl ((g.1.toNat : Int), ()))
  (fun i hi => by
   have hil : i < P[k].length := by omega
   have hd := hD k i hk hi
   have hcp := rdc_copy (a0 := a0) (a1 := a1) (a2 := a2) (a3 := a3) (y0 := y0) (g := g) (out := out) (y3 := y3) (y4 := y4) (y6 := y6) (y7 := y7) (y8 := y8) (y9 := y9) hP h64 (pat_row hp i1) ((k : Int), ()) ((i : Int), ())
   obtain ⟨s1, s2⟩ := setB_ok hp k i
   have eset : P.set k (P[k].set i 2) = setB P k i := by unfold setB; rw [getD_lt hk']
   have hr := hrun (setB P k i) s1 (by omega)
   obtain ⟨u1, u2⟩ := sim3_len g (setB P k i) (start3 g)
   have hnS : n < (sim3 g (setB P k i) (start3 g)).length := by omega
   have hrS := u2 _ (List.getElem_mem hnS)
   unfold Dn at hd
   rw [getD_lt hk', getD_lt hil] at hd
   simp only [F_w36_TraceReduces_l1, hP, tn_nat, rd_lt hk', rd_lt hil, hcp]
   simp only [br_def, lt_def, ni_def, len_def, ix_def, decide_eq_true_eq, eq_def]
   rw [if_pos (by omega), if_pos (by omega), if_pos (by omega), if_pos (by omega)]
   by_cases e2 : P[k][i] = 2
   ·rw [if_pos e2, ad_def, wr64 (by omega) (by omega)]; rfl
   ·rw [if_neg e2, oj_inl]
    have hne := hd.resolve_left e2 P (.refl P)
    unfold out3 at hne
    rw [getD_lt hnS] at hne
    simp only [put_def, rd_lt hk', eset, hr, ob_some, hy4, tn_nat, rd_lt hnS]
    simp only [br_def, ni_def, len_def, ix_def, ne_def, eq_def, decide_eq_true_eq, ad_def, rd_def, tn_def]
    rw [if_pos (by omega), if_pos (by omega), if_neg (by simp), if_pos (by omega), if_pos (by omega), if_neg hne, wr64 (by omega) (by omega)]; rfl)
  (by
   simp only [F_w36_TraceReduces_l1, hP, tn_nat, rd_lt hk']
   simp only [br_def, lt_def, ni_def, len_def, ix_def, decide_eq_true_eq]
   rw [if_pos (by omega), if_neg (by omega)])
 exact this
theorem rdc_all (hP : y5.1 = P) (hp : PatOk g P) (i0 : 0 ≤ g.1) (i1 : g.1 ≤ 4096) (hN : P.length = n + 1) (h64 : P.length ≤ 64) (hy4 : y4.1 = (n : Int)) (o0 : 0 ≤ out) (o1 : out < g.2.2.2.length)
  (hrun : ∀ p : LLI, PatOk g p → p.length ≤ 64 → F_trace_Run (g.1, (g.2.1, (g.2.2.1, g.2.2.2))) p = some (sim3 g p (start3 g), 0)) (hD : ∀ k i, k < n + 1 → i < g.1.toNat → Dn g n out.toNat P k i) :
  iterS (F_w36_TraceReduces_l0 a0 a1 a2 a3 y0 g out y3 y4 y5 y6 y7 y8 y9) (0, ()) = some (.inl ((P.length : Int), ())) := by
 have := iterS_upto (f := F_w36_TraceReduces_l0 a0 a1 a2 a3 y0 g out y3 y4 y5 y6 y7 y8 y9) (fun k => ((k : Int), ())) P.length (r := .inl ((P.length : Int), ()))
  (fun k hk => by
   have := rdc_row (a0 := a0) (a1 := a1) (a2 := a2) (a3 := a3) (y0 := y0) (y3 := y3) (y6 := y6) (y7 := y7) (y8 := y8) (y9 := y9) hP hp i0 i1 hN h64 hy4 o0 o1 hrun hD (k := k) (by omega)
   simp only [F_w36_TraceReduces_l0, hP, this]
   simp only [br_def, lt_def, ni_def, len_def, decide_eq_true_eq]
   rw [if_pos (by omega), oj_inl, ad_def, wr64 (by omega) (by omega)]; rfl)
  (by simp [F_w36_TraceReduces_l0, hP])
 exact this
end
theorem reduces_law (x : Tys [yAig, .int .i64, yNums, .int .u64]) (h : WfTs [yAig, .int .i64, yNums, .int .u64] x) : F_w36_TraceReduces x.1 x.2.1 x.2.2.1 x.2.2.2 = some true := by
 obtain ⟨g0, a1, l, x⟩ := x
 obtain ⟨h1, -⟩ := h
 have hg := aig_len h1
 have z1 : g0.2.1.length ≤ 8796093021952 := hg.1
 have z2 : g0.2.2.1.length ≤ 8796093021952 := hg.2.1
 have z3 : g0.2.2.2.length ≤ 17592186043904 := hg.2.2
 show F_w36_TraceReduces g0 a1 l x = some true
 have efit : F_r20_Fit (g0.1, (g0.2.1, (g0.2.2.1, g0.2.2.2))) 30 = some (fit g0 30) := fit_eq g0 (by omega) (by omega) (by omega) (n := 30) (by omega)
 have hc := fit_chk g0 (n := 30) (by omega)
 have hb := fit_B g0 (n := 30) (by omega)
 generalize fit g0 30 = g at efit hc hb
 have v := chk_ok hc
 have i0 := v.i0
 have i1 : g.1 ≤ 4096 := by have := v.sz; unfold siz fst0 at this; omega
 have io := v.outs
 have n1 : nt true = false := rfl
 have n0 : nt false = true := rfl
 unfold F_w36_TraceReduces
 rw [show F_w36_awake = some true from rfl, ob_some, n1, br_f, efit, ob_some]
 by_cases hO : (g.2.2.2.length : Int) = 0
 ·rw [show eq (ni (len g.2.2.2)) 0 = true from decide_eq_true hO]; rfl
 rw [show eq (ni (len g.2.2.2)) 0 = false from decide_eq_false hO, br_f]
 obtain ⟨b1, b2⟩ := bring_range (x := a1) (n := (g.2.2.2.length : Int)) (by omega)
 rw [show F_r20_Bring a1 (ni (len g.2.2.2)) = some (bring a1 (g.2.2.2.length : Int)) from bring_eq (n := (g.2.2.2.length : Int)) (by omega) (by omega), ob_some]
 generalize bring a1 (g.2.2.2.length : Int) = out at b1 b2
 obtain ⟨t1, t2⟩ := cyc_ok (g := g) (l := l) i0
 rw [show F_w36_cycles (g.1, (g.2.1, (g.2.2.1, g.2.2.2))) l = some (cyc g l) from cycles_eq i0 i1, ob_some]
 generalize cyc g l = t at t1 t2
 rw [show F_trace_Fails (g.1, (g.2.1, (g.2.2.1, g.2.2.2))) out t = some (fails g out t) from fails_prog hb out t, ob_some,
  show F_trace_Reduce (g.1, (g.2.1, (g.2.2.1, g.2.2.2))) out t = some (redO g out t) from (reduce_both hb out t).1, ob_some]
 have hrun2 := run2_wide hc (by omega) t2
 have herr : (fails g out t).2.2 = 0 := by
  unfold fails
  rw [if_neg (by omega), if_neg (by omega), if_neg (by omega), hrun2, if_neg (by simp)]
  cases (List.range (sim2 g t (start2 g)).1.length).findSome? (hit (sim2 g t (start2 g)).1 out.toNat) <;> rfl
 rw [show ne (fails g out t).2.2 0 = false from by rw [herr]; rfl, br_f]
 by_cases hit1 : (fails g out t).2.1 = true
 ·obtain ⟨n, e, f⟩ := fails_ok herr hit1
  have hred : redO g out t = (red g n out.toNat (pat3 (t.take (n + 1))), 0) := by
   unfold redO
   rw [if_neg (by omega), if_pos hit1, e]; simp
  rw [hit1, n1, br_f, hred]
  have fn1 := f.n1
  have hrow : ∀ r ∈ t.take (n + 1), (r.length : Int) = g.1 := fun r hr => t2 r (List.mem_of_mem_take hr)
  have hp0 := pat3_ok hrow
  have hpl : (pat3 (t.take (n + 1))).length = n + 1 := by simp only [pat3, List.length_map, List.length_take]; omega
  obtain ⟨p1, p2⟩ := red_ok (n := n) (o := out.toNat) hp0
  have ple := red_le g n out.toNat (pat3 (t.take (n + 1)))
  have pD := fun k i (hk : k < n + 1) (hi : i < g.1.toNat) => red_dn (o := out.toNat) hp0 hpl hk hi
  have po := red_out (g := g) (n := n) (o := out.toNat) (p := pat3 (t.take (n + 1))) (by
   unfold out3
   rw [start3_bit, sim3_bit, pat3_get, getD_bit, sim2_take]
   have hl := (sim2_len g t (start2 g)).1
   rw [List.getD_eq_getElem?_getD (l := ((sim2 g t (start2 g)).1.take (n + 1))), List.getElem?_take_of_lt (by omega), ← List.getD_eq_getElem?_getD, f.hit]; rfl)
  generalize red g n out.toNat (pat3 (t.take (n + 1))) = P at p1 p2 ple pD po
  obtain ⟨c1, c2⟩ := cut_take (t := t) fn1 (by omega)
  rw [show ne ((P, (0 : Int)) : LLI × Int).2 0 = false from rfl, br_f]
  rw [show ne (ni (len ((P, (0 : Int)) : LLI × Int).1)) (wr .i64 (ad (fails g out t).1 1)) = false by
   rw [e, ad_def, wr64 (by omega) (by omega)]
   simp only [ne_def, ni_def, len_def]
   rw [p2, hpl]
   simp, br_f]
  rw [e, c2, br_t, c1]
  have hm1 : F_trace_Matches P (t.take (n + 1)) = some true := by
   rw [F_trace_Matches_eq _ _ (by omega) (fun r hr => by have := pat_row p1 i1 r hr; omega), matB_cov ple]
  have ef := filled_eq x (p := P) (by omega) (pat_row p1 i1)
  have fc := fillP_cov x P 0 (pat_T p1)
  generalize (fillP x 0 P).1 = u at ef fc
  obtain ⟨w1, w2⟩ := cov_wide fc p1
  have er2 : F_aig_Run (g.1, (g.2.1, (g.2.2.1, g.2.2.2))) u = some ((sim2 g u (start2 g)).1, (start2 g :: (sim2 g u (start2 g)).2, 0)) := by
   rw [show F_aig_Run (g.1, (g.2.1, (g.2.2.1, g.2.2.2))) u = some (run2 g u) from run_prog hb u, run2_wide hc (by omega) w2]
  have hm2 : F_trace_Matches P u = some true := by
   rw [F_trace_Matches_eq _ _ (by omega) (fun r hr => by have := pat_row p1 i1 r hr; omega), matB_cov fc]
  have hl2 := (sim2_len g u (start2 g)).1
  have hnu : n < (sim2 g u (start2 g)).1.length := by omega
  have hru := (sim2_row g u (start2 g)).1 _ (List.getElem_mem hnu)
  have hval : (sim2 g u (start2 g)).1[n].getD out.toNat false = true := by
   have := ((sim_known (g := g) fc).get n).get out.toNat
   rw [show ((sim3 g P (start3 g)).getD n []).getD out.toNat 0 = 1 from po, pat3_get, getD_bit, getD_lt hnu] at this
   cases hq : (sim2 g u (start2 g)).1[n].getD out.toNat false with
   | true => rfl
   | false => rw [hq] at this; rcases this with q | q <;> simp [bit3] at q
  have hrun : ∀ p : LLI, PatOk g p → p.length ≤ 64 → F_trace_Run (g.1, (g.2.1, (g.2.2.1, g.2.2.2))) p = some (sim3 g p (start3 g), 0) := fun p hp hl => by
   rw [show F_trace_Run (g.1, (g.2.1, (g.2.2.1, g.2.2.2))) p = some (run3 g p) from F_trace_Run_eq hb (by omega) (fun r hr => by have := pat_row hp i1 r hr; omega) (fun r hr v hv => (pat_T hp r hr v hv).1), run3_wide hc hl hp]
  rw [hm1, ob_some, n1, br_f, ef, ob_some, er2, ob_some]
  rw [show ne (((sim2 g u (start2 g)).1, (start2 g :: (sim2 g u (start2 g)).2, (0 : Int))) : LLB × (LLB × Int)).2.2 0 = false from rfl, br_f, hm2, ob_some, n1, br_f]
  rw [show ix (n : Int) (ni (len (((sim2 g u (start2 g)).1, (start2 g :: (sim2 g u (start2 g)).2, (0 : Int))) : LLB × (LLB × Int)).1)) = true by
   simp only [ix_def, ni_def, len_def, decide_eq_true_eq]; omega, br_t]
  simp only [tn_nat, rd_lt hnu]
  rw [show ix out (ni (len (sim2 g u (start2 g)).1[n])) = true by
   simp only [ix_def, ni_def, len_def, decide_eq_true_eq]; omega, br_t]
  rw [show rd (sim2 g u (start2 g)).1[n] (tn out) false = true from hval, n1, br_f]
  rw [rdc_all (P := P) rfl p1 i0 i1 (p2.trans hpl) (by omega) e b1 b2 hrun pD, oj_inl]
 ·have hit0 : (fails g out t).2.1 = false := by simpa using hit1
  have hred : redO g out t = ([], 8) := by
   unfold redO
   rw [if_neg (by omega), if_neg hit1]
  rw [hit0, n0, br_t, show eq (fails g out t).2.2 0 = true from by rw [herr]; rfl, br_t, hred]
  rfl
end Go.Proofs.YtkcmacdakgohcaaDoor
