/- Plain laws of the chapter's functions: runs, patterns, what matches. -/

import Derived.Test.YtkcmacdakgohcaaDoorL36c
set_option linter.unusedVariables false
set_option linter.unusedSimpArgs false
set_option linter.unusedSectionVars false
open Go Go.AM Go.TM
namespace Go.Proofs.YtkcmacdakgohcaaDoor
theorem flat_take {α : Type} (a : List (List α)) (i : Nat) (h : i < a.length) : (a.take (i + 1)).flatten = (a.take i).flatten ++ a[i] := by
 rw [← List.take_append_getElem h, List.flatten_append]; simp
theorem flat_le {α : Type} (a : List (List α)) (i : Nat) : (a.take i).flatten.length ≤ a.flatten.length := by
 have := congrArg List.length (congrArg List.flatten (List.take_append_drop i a))
 rw [List.flatten_append, List.length_append] at this
 omega
theorem F_slices_Concat_Bit_Bit_eq (a : LLI) (h : a.length ≤ 140737488355328) (h2 : a.flatten.length ≤ 140737488355328) : F_slices_Concat_Bit_Bit a = some a.flatten := by
 have l0 := iterS_upto (f := F_slices_Concat_Bit_Bit_l0 a) (fun i => ((i : Int), ((a.take i).flatten.length : Int), ())) a.length (r := .inl ((a.length : Int), (a.flatten.length : Int), ()))
  (fun i hi => by
   have e := flat_take a i hi
   have e2 := flat_le a (i + 1)
   have e3 := congrArg List.length e
   rw [List.length_append] at e3
   simp only [F_slices_Concat_Bit_Bit_l0, br_def, lt_def, ni_def, len_def, ix_def, tn_nat, rd_lt hi, decide_eq_true_eq, ad_def]
   rw [if_pos (by omega), if_pos (by omega), wr64 (by omega) (by omega), if_neg (by omega), wr64 (by omega) (by omega), e3]; rfl)
  (by simp [F_slices_Concat_Bit_Bit_l0])
 have l1 : ∀ y0, iterS (F_slices_Concat_Bit_Bit_l1 a y0) (0, ([], ())) = some (.inl ((a.length : Int), a.flatten, ())) := fun y0 => by
  have := iterS_upto (f := F_slices_Concat_Bit_Bit_l1 a y0) (fun i => ((i : Int), (a.take i).flatten, ())) a.length (r := .inl ((a.length : Int), a.flatten, ()))
   (fun i hi => by
    have e := flat_take a i hi
    have e2 := flat_le a (i + 1)
    have e3 := congrArg List.length e
    rw [List.length_append] at e3
    simp only [F_slices_Concat_Bit_Bit_l1, br_def, lt_def, ni_def, len_def, ix_def, tn_nat, rd_lt hi, decide_eq_true_eq, ad_def, fits_def, app_def]
    rw [if_pos (by omega), if_pos (by omega), if_pos (by omega), wr64 (by omega) (by omega), e]; rfl)
   (by simp [F_slices_Concat_Bit_Bit_l1])
  simpa using this
 have l2 : ∀ y0, iterS (F_slices_Concat_Bit_Bit_l2 a y0) (0, ([], ())) = some (.inl ((a.length : Int), a.flatten, ())) := l1
 unfold F_slices_Concat_Bit_Bit
 rw [show ((0 : Int), ((0 : Int), ())) = (((0 : Nat) : Int), ((a.take 0).flatten.length : Int), ()) by simp, l0, oj_inl]
 simp only [br_def, lt_def, sb_def, ni_def, len_def, rept_def, cut_def, rg_def, fits_def, decide_eq_true_eq]
 rw [if_neg (by omega), show wr .i64 (0 - ((0 : Nat) : Int)) = 0 from wr64 (by decide) (by decide), wr64 (by omega) (by omega)]
 by_cases h0 : a.flatten.length = 0
 ·rw [if_neg (by omega), l2]
 ·have e : tn ((a.flatten.length : Int) - 0) = a.flatten.length := by
   show Int.toNat _ = _
   omega
  rw [if_pos (by omega), if_pos (by omega), e, if_pos (by omega), if_pos (by simp)]
  rw [show tn (((0 : Nat) : Int)) = 0 from rfl, List.take_zero, l1]
def PatOk (g : TAig) (p : LLI) : Prop := ∀ r ∈ p, (r.length : Int) = g.1 ∧ ∀ v ∈ r, T3 v
theorem bits0 {g : TAig} {inp st : LI} (h1 : (inp.length : Int) = g.1) (h2 : ∀ v ∈ inp, T3 v) (h3 : st.length = g.2.1.length) (h4 : ∀ v ∈ st, T3 v) : BitsI g 0 (([0] ++ inp) ++ st) := by
 refine ⟨?_, fun v hv => ?_⟩
 ·have hf : fst0 g = 1 + g.1 + g.2.1.length := rfl
  simp only [List.length_append, List.length_singleton]; omega
 ·rcases List.mem_append.1 hv with hv | hv
  ·rcases List.mem_append.1 hv with hv | hv
   ·rw [List.mem_singleton.1 hv]; exact ⟨Int.le_refl _, by decide⟩
   ·exact h2 v hv
  ·exact h4 v hv
theorem bits_end {g : TAig} {inp st : LI} (h : BitsI g 0 (([0] ++ inp) ++ st)) : ((bits3 g inp st).length : Int) = siz g ∧ ∀ v ∈ bits3 g inp st, T3 v := by
 have := BitsI.all g.2.2.1 0 _ h
 rw [Nat.zero_add] at this
 exact ⟨this.1, this.2⟩
theorem next3_ok {g : TAig} {b : LI} (h : ∀ v ∈ b, T3 v) : (next3 g b).length = g.2.1.length ∧ ∀ v ∈ next3 g b, T3 v :=
 ⟨by simp [next3], fun v hv => by obtain ⟨l, -, rfl⟩ := List.mem_map.1 hv; exact of3_T h _⟩
theorem start3_ok (g : TAig) : (start3 g).length = g.2.1.length ∧ ∀ v ∈ start3 g, T3 v :=
 ⟨by simp [start3], fun v hv => by obtain ⟨l, -, rfl⟩ := List.mem_map.1 hv; exact bit3_T _⟩
theorem fold61 (g : TAig) : ∀ (p : LLI) (st b : LI) (out : LLI), (p.foldl (fun (x : LI × LI × LLI) inp => (next3 g (bits3 g inp x.1), bits3 g inp x.1, x.2.2 ++ [outs3 g (bits3 g inp x.1)])) (st, b, out)).2.2 = out ++ sim3 g p st := by
 intro p
 induction p with
 | nil => intro st b out; simp [sim3]
 | cons inp r ih => intro st b out; simp only [List.foldl_cons, ih, sim3, List.append_assoc, List.singleton_append]
theorem F_trace_simulate_eq {g : TAig} (v : AigV g) (hb : AigB g) {p : LLI} (hp : PatOk g p) (hn : p.length ≤ 5864062014804) : F_trace_simulate g p = some (sim3 g p (start3 g)) := by
 have hv := v.sz
 have hs : siz g = fst0 g + g.2.2.1.length := rfl
 have hf : fst0 g = 1 + g.1 + g.2.1.length := rfl
 unfold F_trace_simulate
 rw [loop61_0 p hb, oj_inl]
 have := iterS_fold (f := F_trace_simulate_l1 g p ((g.2.1.length : Int), (start3 g, ()))) p (fun i (x : LI × LI × LLI) => ((i : Int), x.1, x.2.1, x.2.2, ()))
  (fun (x : LI × LI × LLI) inp => (next3 g (bits3 g inp x.1), bits3 g inp x.1, x.2.2 ++ [outs3 g (bits3 g inp x.1)])) (fun x => .inl ((p.length : Int), x.1, x.2.1, x.2.2, ())) (fun i x => (x.1.length = g.2.1.length ∧ ∀ v ∈ x.1, T3 v) ∧ x.2.2.length = i)
  (fun i x hi ⟨⟨q1, q2⟩, q3⟩ => by
   obtain ⟨r1, r2⟩ := hp _ (List.getElem_mem hi)
   have z := bits0 (st := x.1) r1 r2 q1 q2
   obtain ⟨z1, z2⟩ := bits_end z
   refine ⟨?_, next3_ok z2, by simp [q3]⟩
   have c : F_slices_Concat_Bit_Bit [[0], p[i], x.1] = some (([0] ++ p[i]) ++ x.1) := by
    have := v.i0
    rw [F_slices_Concat_Bit_Bit_eq _ (by simp) (by simp; omega)]; simp
   simp only [F_trace_simulate_l1, br_def, lt_def, ni_def, len_def, ix_def, tn_nat, rd_lt hi, decide_eq_true_eq, c, ob_some]
   rw [if_pos (by omega), if_pos (by omega), loop61_2 v hb _ z, oj_inl, show g.2.2.1.foldl step3 (([0] ++ p[i]) ++ x.1) = bits3 g p[i] x.1 from rfl, loop61_3 v _ z1 z2, oj_inl, loop61_4 v hb _ z1 z2, oj_inl]
   simp only [fits_def, ad_def, app_def, decide_eq_true_eq, List.length_singleton, q3]
   rw [if_pos (by omega), wr64 (by omega) (by omega)]; rfl)
  (fun x _ => by simp [F_trace_simulate_l1]) (b := (start3 g, [], [])) ⟨start3_ok g, rfl⟩
 rw [show ((0 : Int), ((start3 g), (([] : LI), (([] : LLI), ())))) = ((((0 : Nat) : Int)), (start3 g, ([], ([], ())))) from rfl, this, oj_inl]
 rw [fold61]; rfl
theorem fold62 (g : TAig) : ∀ (p : LLI) (st : LI) (out : LLI), (p.foldl (fun (x : LI × LLI) inp => (next3 g (bits3 g inp x.1), x.2 ++ [outs3 g (bits3 g inp x.1)])) (st, out)).2 = out ++ sim3 g p st := by
 intro p
 induction p with
 | nil => intro st out; simp [sim3]
 | cons inp r ih => intro st out; simp only [List.foldl_cons, ih, sim3, List.append_assoc, List.singleton_append]
theorem F_r36_simulate_eq {g : TAig} (v : AigV g) (hb : AigB g) {p : LLI} (hp : PatOk g p) (hn : p.length ≤ 5864062014804) : F_r36_simulate g p = some (sim3 g p (start3 g)) := by
 have hv := v.sz
 have hs : siz g = fst0 g + g.2.2.1.length := rfl
 have hf : fst0 g = 1 + g.1 + g.2.1.length := rfl
 unfold F_r36_simulate
 rw [loop62_0 p hb, oj_inl]
 have := iterS_fold (f := F_r36_simulate_l1 g p ((g.2.1.length : Int), (start3 g, ()))) p (fun i (x : LI × LLI) => ((i : Int), x.1, x.2, ()))
  (fun (x : LI × LLI) inp => (next3 g (bits3 g inp x.1), x.2 ++ [outs3 g (bits3 g inp x.1)])) (fun x => .inl ((p.length : Int), x.1, x.2, ())) (fun i x => (x.1.length = g.2.1.length ∧ ∀ v ∈ x.1, T3 v) ∧ x.2.length = i)
  (fun i x hi ⟨⟨q1, q2⟩, q3⟩ => by
   obtain ⟨r1, r2⟩ := hp _ (List.getElem_mem hi)
   have z := bits0 (st := x.1) r1 r2 q1 q2
   obtain ⟨z1, z2⟩ := bits_end z
   refine ⟨?_, next3_ok z2, by simp [q3]⟩
   have := v.i0
   have l1 := z.1
   simp only [List.length_append, List.length_singleton] at l1
   simp only [F_r36_simulate_l1, br_def, lt_def, ni_def, len_def, ix_def, tn_nat, rd_lt hi, decide_eq_true_eq, fits_def, app_def, List.length_append, List.length_singleton]
   rw [if_pos (by omega), if_pos (by omega), if_pos (by omega), if_pos (by omega), loop62_2 v hb _ z, oj_inl, show g.2.2.1.foldl step3 (([0] ++ p[i]) ++ x.1) = bits3 g p[i] x.1 from rfl, loop62_3 v _ z1, oj_inl, loop62_4 v hb _ z1, oj_inl]
   simp only [ad_def, q3]
   rw [if_pos (by omega), wr64 (by omega) (by omega)]; rfl)
  (fun x _ => by simp [F_r36_simulate_l1]) (b := (start3 g, [])) ⟨start3_ok g, rfl⟩
 rw [show ((0 : Int), ((start3 g), (([] : LLI), ()))) = ((((0 : Nat) : Int)), (start3 g, ([], ()))) from rfl, this, oj_inl]
 rw [fold62]; rfl
end Go.Proofs.YtkcmacdakgohcaaDoor
