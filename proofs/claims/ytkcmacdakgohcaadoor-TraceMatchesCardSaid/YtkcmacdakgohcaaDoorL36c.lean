/- Plain laws of the chapter's functions: three-valued simulation. -/

import Derived.Test.YtkcmacdakgohcaaDoorL36b
set_option linter.unusedVariables false
set_option linter.unusedSimpArgs false
set_option linter.unusedSectionVars false
open Go Go.AM Go.TM
namespace Go.Proofs.YtkcmacdakgohcaaDoor
def not3 (b : Int) : Int := if b = 0 then 1 else if b = 1 then 0 else 2
def and3 (a b : Int) : Int := if a = 0 ∨ b = 0 then 0 else if a = 1 ∧ b = 1 then 1 else 2
def of3 (bits : LI) (x : Int) : Int := if x % 2 = 1 then not3 (bits.getD (x / 2).toNat 0) else bits.getD (x / 2).toNat 0
def step3 (b : LI) (x : Int × Int) : LI := b ++ [and3 (of3 b x.1) (of3 b x.2)]
def bits3 (g : TAig) (inp st : LI) : LI := g.2.2.1.foldl step3 (([0] ++ inp) ++ st)
def outs3 (g : TAig) (b : LI) : LI := g.2.2.2.map (of3 b)
def next3 (g : TAig) (b : LI) : LI := g.2.1.map fun l => of3 b l.1
def bit3 (v : Bool) : Int := if v = true then 1 else 0
def start3 (g : TAig) : LI := g.2.1.map fun l => bit3 (decide (l.2 = 1))
def sim3 (g : TAig) : LLI → LI → LLI
 | [], _ => []
 | inp :: r, st => outs3 g (bits3 g inp st) :: sim3 g r (next3 g (bits3 g inp st))
def T3 (b : Int) : Prop := 0 ≤ b ∧ b ≤ 2
theorem T3.cases {b : Int} (h : T3 b) : b = 0 ∨ b = 1 ∨ b = 2 := by unfold T3 at h; omega
theorem not3_T (b : Int) : T3 (not3 b) := by unfold not3 T3; split <;> (try split) <;> omega
theorem and3_T (a b : Int) : T3 (and3 a b) := by unfold and3 T3; split <;> (try split) <;> omega
theorem bit3_T (b : Bool) : T3 (bit3 b) := by unfold bit3 T3; split <;> omega
theorem getD_T {l : LI} (h : ∀ v ∈ l, T3 v) (i : Nat) : T3 (l.getD i 0) := by
 by_cases hi : i < l.length
 ·rw [getD_lt hi]; exact h _ (List.getElem_mem hi)
 ·rw [List.getD_eq_getElem?_getD, List.getElem?_eq_none (by omega)]; exact ⟨Int.le_refl _, by decide⟩
theorem of3_T {l : LI} (h : ∀ v ∈ l, T3 v) (x : Int) : T3 (of3 l x) := by
 unfold of3
 split
 ·exact not3_T _
 ·exact getD_T h _
theorem step3_T {l : LI} (h : ∀ v ∈ l, T3 v) (x : Int × Int) : ∀ v ∈ step3 l x, T3 v := fun v hv => by
 rcases List.mem_append.1 hv with hv | hv
 ·exact h v hv
 ·rw [List.mem_singleton.1 hv]; exact and3_T _ _
theorem F_trace_not_eq {b : Int} (h : T3 b) : F_trace_not b = some (not3 b) := by
 rcases h.cases with rfl | rfl | rfl <;> rfl
theorem F_trace_and_eq {a b : Int} (h : T3 a) (k : T3 b) : F_trace_and a b = some (and3 a b) := by
 rcases h.cases with rfl | rfl | rfl <;> rcases k.cases with rfl | rfl | rfl <;> rfl
theorem F_r36_not_eq (b : Int) : F_r36_not b = some (not3 b) := by
 unfold F_r36_not not3
 by_cases h : b = 0
 ·simp [h]
 ·by_cases k : b = 1 <;> simp [h, k]
theorem F_r36_and_eq (a b : Int) : F_r36_and a b = some (and3 a b) := by
 unfold F_r36_and and3
 by_cases h : a = 0
 ·simp [h]
 by_cases k : b = 0
 ·simp [h, k]
 by_cases h1 : a = 1 <;> by_cases k1 : b = 1 <;> simp [h, k, h1, k1]
theorem F_trace_bit_eq (v : Bool) : F_trace_bit v = some (bit3 v) := by cases v <;> rfl
theorem F_r36_bit_eq (v : Bool) : F_r36_bit v = some (bit3 v) := by cases v <;> rfl
theorem F_r36_of_eq {b : LI} {x : Int} (h0 : 0 ≤ x) (h1 : x / 2 < b.length) (h2 : x ≤ 9223372036854775807) : F_r36_of b x = some (of3 b x) := by
 have hi : (x / 2).toNat < b.length := by omega
 unfold F_r36_of
 simp (disch := omega) only [eq_def, md2, dv2, br_def, ix_def, ni_def, len_def, decide_eq_true_eq, tn_def, rd_lt hi, F_r36_not_eq, ob_some]
 unfold of3
 rw [getD_lt hi]
 by_cases e : x % 2 = 1
 ·rw [if_pos e, if_pos e, if_pos (by omega)]
 ·rw [if_neg e, if_neg e, if_pos (by omega)]
theorem foldl_snoc {α β : Type} (f : α → β) (l : List α) (out : List β) : l.foldl (fun out x => out ++ [f x]) out = out ++ l.map f := by
 induction l generalizing out with
 | nil => simp
 | cons x l ih => simp [ih]
theorem loop61_0 {g : TAig} (p : LLI) (h : AigB g) : iterS (F_trace_simulate_l0 g p) (0, ([], ())) = some (.inl ((g.2.1.length : Int), (start3 g, ()))) := by
 have := iterS_fold (f := F_trace_simulate_l0 g p) g.2.1 (fun i out => ((i : Int), out, ())) (fun out x => out ++ [bit3 (decide (x.2 = 1))]) (fun out => .inl ((g.2.1.length : Int), out, ())) (fun i out => out.length = i)
  (fun i out hi ho => by
   obtain ⟨b1, b2, b3⟩ := h
   refine ⟨?_, by simp [ho]⟩
   have e : i + 1 ≤ 140737488355328 := by omega
   simp (disch := omega) [F_trace_simulate_l0, rd_lt hi, wr64, hi, ho, e, F_trace_bit_eq])
  (fun out ho => by simp [F_trace_simulate_l0]) (b := []) rfl
 rw [foldl_snoc] at this
 exact this
theorem loop62_0 {g : TAig} (p : LLI) (h : AigB g) : iterS (F_r36_simulate_l0 g p) (0, ([], ())) = some (.inl ((g.2.1.length : Int), (start3 g, ()))) := by
 have := iterS_fold (f := F_r36_simulate_l0 g p) g.2.1 (fun i out => ((i : Int), out, ())) (fun out x => out ++ [bit3 (decide (x.2 = 1))]) (fun out => .inl ((g.2.1.length : Int), out, ())) (fun i out => out.length = i)
  (fun i out hi ho => by
   obtain ⟨b1, b2, b3⟩ := h
   refine ⟨?_, by simp [ho]⟩
   have e : i + 1 ≤ 140737488355328 := by omega
   simp (disch := omega) [F_r36_simulate_l0, rd_lt hi, wr64, hi, ho, e, F_r36_bit_eq])
  (fun out ho => by simp [F_r36_simulate_l0]) (b := []) rfl
 rw [foldl_snoc] at this
 exact this
def BitsI (g : TAig) (i : Nat) (b : LI) : Prop := (b.length : Int) = fst0 g + i ∧ ∀ v ∈ b, T3 v
theorem BitsI.step {g : TAig} {i : Nat} {b : LI} (h : BitsI g i b) (x : Int × Int) : BitsI g (i + 1) (step3 b x) :=
 ⟨by have := h.1; simp only [step3, List.length_append, List.length_singleton]; omega, step3_T h.2 x⟩
theorem BitsI.all {g : TAig} : ∀ (l : List (Int × Int)) (i : Nat) (b : LI), BitsI g i b → BitsI g (i + l.length) (l.foldl step3 b) := by
 intro l
 induction l with
 | nil => intro i b h; exact h
 | cons x l ih => intro i b h; have := ih (i + 1) _ (h.step x); rw [show i + (x :: l).length = i + 1 + l.length by simp; omega]; exact this
theorem step61_2 {g : TAig} (v : AigV g) (hb : AigB g) {p y1 st1 y2} {i : Nat} {b : LI} (hi : i < g.2.2.1.length) (ho : BitsI g i b) : F_trace_simulate_l2 g p y1 st1 y2 ((i : Int), b, ()) = some (.inl (((i + 1 : Nat) : Int), step3 b g.2.2.1[i], ())) := by
 obtain ⟨b1, b2, b3⟩ := hb
 have hs : siz g = fst0 g + g.2.2.1.length := rfl
 have := v.sz
 obtain ⟨hl, hT⟩ := ho
 obtain ⟨a1, a2, a3, a4⟩ := v.and i hi
 have h1 : ((g.2.2.1[i]).1 / 2).toNat < b.length := by omega
 have h2 : ((g.2.2.1[i]).2 / 2).toNat < b.length := by omega
 have t1 := hT _ (List.getElem_mem h1)
 have t2 := hT _ (List.getElem_mem h2)
 have e : b.length + 1 ≤ 140737488355328 := by omega
 have c1 : (0 ≤ (g.2.2.1[i]).1 / 2 ∧ (g.2.2.1[i]).1 / 2 < (b.length : Int)) := by omega
 have c2 : (0 ≤ (g.2.2.1[i]).2 / 2 ∧ (g.2.2.1[i]).2 / 2 < (b.length : Int)) := by omega
 have w : wr .i64 ((i : Int) + 1) = ((i + 1 : Nat) : Int) := by rw [wr64 (by omega) (by omega)]; rfl
 simp only [F_trace_simulate_l2, br_def, lt_def, ni_def, len_def, ix_def, tn_nat, rd_lt hi, shr1, band1 a1 (by omega), band1 a3 (by omega), eq_def, decide_eq_true_eq, tn_def, rd_lt h1, rd_lt h2, F_trace_not_eq t1, F_trace_not_eq t2, ob_some, fits_def, List.length_singleton, ad_def, w, app_def]
 rw [if_pos (by omega), if_pos (by omega), if_pos c1, if_pos c2]
 simp only [e, if_true, c1, c2, step3, of3, getD_lt h1, getD_lt h2, and_self]
 rcases Int.emod_two_eq (g.2.2.1[i]).1 with q1 | q1 <;> rcases Int.emod_two_eq (g.2.2.1[i]).2 with q2 | q2 <;> simp only [q1, q2, if_true, Int.reduceEq, if_false] <;>
  simp only [F_trace_and_eq t1 t2, F_trace_and_eq (not3_T _) t2, F_trace_and_eq t1 (not3_T _), F_trace_and_eq (not3_T _) (not3_T _), ob_some]
theorem loop61_2 {g : TAig} (v : AigV g) (hb : AigB g) {p y1 st1 y2} (b : LI) (h : BitsI g 0 b) : iterS (F_trace_simulate_l2 g p y1 st1 y2) (0, (b, ())) = some (.inl ((g.2.2.1.length : Int), (g.2.2.1.foldl step3 b, ()))) :=
 iterS_fold (f := F_trace_simulate_l2 g p y1 st1 y2) g.2.2.1 (fun i b => ((i : Int), b, ())) step3 (fun out => .inl ((g.2.2.1.length : Int), out, ())) (BitsI g)
  (fun i b hi ho => ⟨step61_2 v hb hi ho, ho.step _⟩) (fun out ho => by simp [F_trace_simulate_l2]) h
theorem loop62_2 {g : TAig} (v : AigV g) (hb : AigB g) {p y1 st1} (b : LI) (h : BitsI g 0 b) : iterS (F_r36_simulate_l2 g p y1 st1) (0, (b, ())) = some (.inl ((g.2.2.1.length : Int), (g.2.2.1.foldl step3 b, ()))) := by
 have hs : siz g = fst0 g + g.2.2.1.length := rfl
 have := v.sz
 obtain ⟨b1, b2, b3⟩ := hb
 exact iterS_fold (f := F_r36_simulate_l2 g p y1 st1) g.2.2.1 (fun i b => ((i : Int), b, ())) step3 (fun out => .inl ((g.2.2.1.length : Int), out, ())) (BitsI g)
  (fun i b hi ho => by
   refine ⟨?_, ho.step _⟩
   obtain ⟨hl, hT⟩ := ho
   obtain ⟨a1, a2, a3, a4⟩ := v.and i hi
   have e : b.length + 1 ≤ 140737488355328 := by omega
   have q1 : F_r36_of b (g.2.2.1[i]).1 = some (of3 b (g.2.2.1[i]).1) := F_r36_of_eq (by omega) (by omega) (by omega)
   have q2 : F_r36_of b (g.2.2.1[i]).2 = some (of3 b (g.2.2.1[i]).2) := F_r36_of_eq (by omega) (by omega) (by omega)
   simp (disch := omega) [F_r36_simulate_l2, rd_lt hi, hi, q1, q2, F_r36_and_eq, wr64, e, step3])
  (fun out ho => by simp [F_r36_simulate_l2]) h
theorem loop61_3 {g : TAig} (v : AigV g) {p y1 st1 y2} {n : Int} (b : LI) (hl : (b.length : Int) = siz g) (hT : ∀ v ∈ b, T3 v) : iterS (F_trace_simulate_l3 g p y1 st1 y2 (n, (b, ()))) (0, ([], ())) = some (.inl ((g.2.2.2.length : Int), (outs3 g b, ()))) := by
 have hs := v.sz
 have hq := v.outs
 have := iterS_fold (f := F_trace_simulate_l3 g p y1 st1 y2 (n, (b, ()))) g.2.2.2 (fun i out => ((i : Int), out, ())) (fun out x => out ++ [of3 b x]) (fun out => .inl ((g.2.2.2.length : Int), out, ())) (fun i out => out.length = i)
  (fun i out hi ho => by
   refine ⟨?_, by simp [ho]⟩
   obtain ⟨a1, a2⟩ := v.out _ (List.getElem_mem hi)
   have h1 : ((g.2.2.2[i]) / 2).toNat < b.length := by omega
   have t1 := hT _ (List.getElem_mem h1)
   have e : i + 1 ≤ 140737488355328 := by omega
   have c1 : (0 ≤ (g.2.2.2[i]) / 2 ∧ (g.2.2.2[i]) / 2 < (b.length : Int)) := by omega
   simp (disch := omega) only [F_trace_simulate_l3, br_def, lt_def, ni_def, len_def, ix_def, tn_nat, rd_lt hi, shr1, band1, eq_def, decide_eq_true_eq, tn_def, rd_lt h1, F_trace_not_eq t1, ob_some, fits_def, List.length_singleton, ad_def, wr64, app_def, ho]
   rw [if_pos (by omega), if_pos (by omega), if_pos c1]
   simp only [e, if_true, of3, getD_lt h1]
   by_cases q1 : (g.2.2.2[i]) % 2 = 0
   ·rw [if_pos q1, if_neg (by omega)]; rfl
   ·rw [if_neg q1, if_pos c1, if_pos (by omega)]; rfl)
  (fun out ho => by simp [F_trace_simulate_l3]) (b := []) rfl
 rw [foldl_snoc] at this
 exact this
theorem loop61_4 {g : TAig} (v : AigV g) (h : AigB g) {p y1 st1 y2 y12} {n : Int} (b : LI) (hl : (b.length : Int) = siz g) (hT : ∀ v ∈ b, T3 v) : iterS (F_trace_simulate_l4 g p y1 st1 y2 (n, (b, ())) y12) (0, ([], ())) = some (.inl ((g.2.1.length : Int), (next3 g b, ()))) := by
 have hs := v.sz
 have hq := v.outs
 obtain ⟨b1, b2, b3⟩ := h
 have := iterS_fold (f := F_trace_simulate_l4 g p y1 st1 y2 (n, (b, ())) y12) g.2.1 (fun i out => ((i : Int), out, ())) (fun out x => out ++ [of3 b x.1]) (fun out => .inl ((g.2.1.length : Int), out, ())) (fun i out => out.length = i)
  (fun i out hi ho => by
   refine ⟨?_, by simp [ho]⟩
   obtain ⟨a1, a2, a3⟩ := v.lat _ (List.getElem_mem hi)
   have h1 : ((g.2.1[i]).1 / 2).toNat < b.length := by omega
   have t1 := hT _ (List.getElem_mem h1)
   have e : i + 1 ≤ 140737488355328 := by omega
   have c1 : (0 ≤ (g.2.1[i]).1 / 2 ∧ (g.2.1[i]).1 / 2 < (b.length : Int)) := by omega
   simp (disch := omega) only [F_trace_simulate_l4, br_def, lt_def, ni_def, len_def, ix_def, tn_nat, rd_lt hi, shr1, band1, eq_def, decide_eq_true_eq, tn_def, rd_lt h1, F_trace_not_eq t1, ob_some, fits_def, List.length_singleton, ad_def, wr64, app_def, ho]
   rw [if_pos (by omega), if_pos (by omega), if_pos c1]
   simp only [e, if_true, of3, getD_lt h1]
   by_cases q1 : (g.2.1[i]).1 % 2 = 0
   ·rw [if_pos q1, if_neg (by omega)]; rfl
   ·rw [if_neg q1, if_pos c1, if_pos (by omega)]; rfl)
  (fun out ho => by simp [F_trace_simulate_l4]) (b := []) rfl
 rw [foldl_snoc] at this
 exact this
theorem loop62_3 {g : TAig} (v : AigV g) {p y1 st1} {n : Int} (b : LI) (hl : (b.length : Int) = siz g) : iterS (F_r36_simulate_l3 g p y1 st1 (n, (b, ()))) (0, ([], ())) = some (.inl ((g.2.2.2.length : Int), (outs3 g b, ()))) := by
 have hs := v.sz
 have hq := v.outs
 have := iterS_fold (f := F_r36_simulate_l3 g p y1 st1 (n, (b, ()))) g.2.2.2 (fun i out => ((i : Int), out, ())) (fun out x => out ++ [of3 b x]) (fun out => .inl ((g.2.2.2.length : Int), out, ())) (fun i out => out.length = i)
  (fun i out hi ho => by
   refine ⟨?_, by simp [ho]⟩
   obtain ⟨a1, a2⟩ := v.out _ (List.getElem_mem hi)
   have e : i + 1 ≤ 140737488355328 := by omega
   have q1 : F_r36_of b (g.2.2.2[i]) = some (of3 b (g.2.2.2[i])) := F_r36_of_eq (by omega) (by omega) (by omega)
   simp (disch := omega) [F_r36_simulate_l3, rd_lt hi, hi, q1, wr64, e, ho])
  (fun out ho => by simp [F_r36_simulate_l3]) (b := []) rfl
 rw [foldl_snoc] at this
 exact this
theorem loop62_4 {g : TAig} (v : AigV g) (h : AigB g) {p y1 st1 y12} {n : Int} (b : LI) (hl : (b.length : Int) = siz g) : iterS (F_r36_simulate_l4 g p y1 st1 (n, (b, ())) y12) (0, ([], ())) = some (.inl ((g.2.1.length : Int), (next3 g b, ()))) := by
 have hs := v.sz
 have hq := v.outs
 obtain ⟨b1, b2, b3⟩ := h
 have := iterS_fold (f := F_r36_simulate_l4 g p y1 st1 (n, (b, ())) y12) g.2.1 (fun i out => ((i : Int), out, ())) (fun out x => out ++ [of3 b x.1]) (fun out => .inl ((g.2.1.length : Int), out, ())) (fun i out => out.length = i)
  (fun i out hi ho => by
   refine ⟨?_, by simp [ho]⟩
   obtain ⟨a1, a2, a3⟩ := v.lat _ (List.getElem_mem hi)
   have e : i + 1 ≤ 140737488355328 := by omega
   have q1 : F_r36_of b (g.2.1[i]).1 = some (of3 b (g.2.1[i]).1) := F_r36_of_eq (by omega) (by omega) (by omega)
   simp (disch := omega) [F_r36_simulate_l4, rd_lt hi, hi, q1, wr64, e, ho])
  (fun out ho => by simp [F_r36_simulate_l4]) (b := []) rfl
 rw [foldl_snoc] at this
 exact this
end Go.Proofs.YtkcmacdakgohcaaDoor
