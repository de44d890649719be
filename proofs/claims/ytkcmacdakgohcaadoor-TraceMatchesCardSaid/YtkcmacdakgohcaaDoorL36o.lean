/- Plain laws: failing outputs, reduced patterns. -/

import Derived.Test.YtkcmacdakgohcaaDoorL36i
import Derived.Test.YtkcmacdakgohcaaDoorL36e
set_option linter.unusedVariables false
set_option linter.unusedSimpArgs false
set_option linter.unusedSectionVars false
open Go Go.AM Go.TM
namespace Go.Proofs.YtkcmacdakgohcaaDoor
def hit (outs : LLB) (o i : Nat) : Option Nat := if (outs.getD i []).getD o false = true then some i else none
def fails (g : TAig) (out : Int) (t : LLB) : Int × (Bool × Int) :=
 if chk g ≠ 0 then (0, (false, chk g)) else if out < 0 then (0, (false, 1)) else if (g.2.2.2.length : Int) ≤ out then (0, (false, 1)) else if (run2 g t).2.2 ≠ 0 then (0, (false, (run2 g t).2.2)) else
 ((List.range (run2 g t).1.length).findSome? (hit (run2 g t).1 out.toNat)).elim (0, (false, 0)) fun i => ((i : Int), (true, 0))
theorem outs_row {g : TAig} {t : LLB} (hc : chk g = 0) : ∀ r ∈ (run2 g t).1, r.length = g.2.2.2.length := by
 intro r hr
 unfold run2 at hr
 rw [if_neg (by omega)] at hr
 split at hr
 ·cases hr
 ·cases e : t.findSome? (wide g) with
  | some _ => rw [e] at hr; cases hr
  | none => rw [e] at hr; exact (sim2_row g t _).1 r hr
theorem outs_len {g : TAig} {t : LLB} : (run2 g t).1.length ≤ 64 := by
 unfold run2
 split
 ·simp
 split
 ·simp
 ·cases e : t.findSome? (wide g) with
  | some _ => simp
  | none => simp only [Option.elim_none, (sim2_len g t _).1]; omega
theorem fails_prog {g : TAig} (hb : AigB g) (out : Int) (t : LLB) : F_trace_Fails g out t = some (fails g out t) := by
 unfold F_trace_Fails fails
 rw [show F_aig_Check (g.1, (g.2.1, (g.2.2.1, g.2.2.2))) = some (chk g) from F_aig_Check_eq g hb, ob_some]
 simp only [br_def, ne_def, lt_def, le_def, ni_def, len_def, decide_eq_true_eq]
 by_cases hc : chk g ≠ 0
 ·rw [if_pos hc, if_pos hc]
 rw [if_neg hc, if_neg hc]
 by_cases h0 : out < 0
 ·rw [if_pos h0, if_pos h0]
 rw [if_neg h0, if_neg h0]
 by_cases h1 : (g.2.2.2.length : Int) ≤ out
 ·rw [if_pos h1, if_pos h1]
 rw [if_neg h1, if_neg h1, show F_aig_Run (g.1, (g.2.1, (g.2.2.1, g.2.2.2))) t = some (run2 g t) from run_prog hb t, ob_some]
 by_cases hr : (run2 g t).2.2 ≠ 0
 ·rw [if_pos hr, if_pos hr]
 rw [if_neg hr, if_neg hr]
 have hc0 : chk g = 0 := by omega
 have hl := outs_len (g := g) (t := t)
 have key := iterS_findR (f := F_trace_Fails_l0 g out t (chk g) (run2 g t)) (run2 g t).1.length (fun i => ((i : Int), ())) (hit (run2 g t).1 out.toNat) (.inl (((run2 g t).1.length : Int), ())) (fun i => .inr ((i : Int), (true, 0)))
  (fun i hi => by
   have hrow := outs_row hc0 _ (List.getElem_mem hi)
   simp only [F_trace_Fails_l0, tn_nat, rd_lt hi]
   unfold hit
   rw [getD_lt hi]
   simp only [br_def, lt_def, ni_def, len_def, ix_def, decide_eq_true_eq, ad_def, rd_def, tn_def, inR_some', mx_def, le_def]
   rw [if_pos (by omega), if_pos (by omega), if_pos (by omega), if_neg (show ¬ (i : Int) < 0 by omega), decide_eq_true (show (0 : Int) ≤ (i : Int) by omega)]
   by_cases e : (run2 g t).1[i].getD out.toNat false = true
   ·rw [if_pos e, if_pos e]; rfl
   ·rw [if_neg e, if_neg e, wr64 (by omega) (by omega)]; rfl)
  (by simp [F_trace_Fails_l0])
 rw [show ((0 : Int), ()) = (((0 : Nat) : Int), ()) from rfl, key]
 cases (List.range (run2 g t).1.length).findSome? (hit (run2 g t).1 out.toNat) <;> rfl
theorem fails_ref {g : TAig} (hb : AigB g) (out : Int) (t : LLB) : F_r36_Fails g out t = some (fails g out t) := by
 unfold F_r36_Fails fails
 rw [show F_r20_Check (g.1, (g.2.1, (g.2.2.1, g.2.2.2))) = some (chk g) from F_r20_Check_eq g hb, ob_some]
 simp only [br_def, ne_def, lt_def, le_def, ni_def, len_def, decide_eq_true_eq]
 by_cases hc : chk g ≠ 0
 ·rw [if_pos hc, if_pos hc]
 rw [if_neg hc, if_neg hc]
 by_cases h0 : out < 0
 ·rw [if_pos h0, if_pos h0]
 rw [if_neg h0, if_neg h0]
 by_cases h1 : (g.2.2.2.length : Int) ≤ out
 ·rw [if_pos h1, if_pos h1]
 rw [if_neg h1, if_neg h1, show F_r20_Run (g.1, (g.2.1, (g.2.2.1, g.2.2.2))) t = some (run2 g t) from run_ref hb t, ob_some]
 by_cases hr : (run2 g t).2.2 ≠ 0
 ·rw [if_pos hr, if_pos hr]
 rw [if_neg hr, if_neg hr]
 have hc0 : chk g = 0 := by omega
 have hl := outs_len (g := g) (t := t)
 have key := iterS_findR (f := F_r36_Fails_l0 g out t (chk g) (run2 g t)) (run2 g t).1.length (fun i => ((i : Int), ())) (hit (run2 g t).1 out.toNat) (.inl (((run2 g t).1.length : Int), ())) (fun i => .inr ((i : Int), (true, 0)))
  (fun i hi => by
   have hrow := outs_row hc0 _ (List.getElem_mem hi)
   simp only [F_r36_Fails_l0, tn_nat, rd_lt hi]
   unfold hit
   rw [getD_lt hi]
   simp only [br_def, lt_def, ni_def, len_def, ix_def, decide_eq_true_eq, ad_def, rd_def, tn_def, inR_some']
   rw [if_pos (by omega), if_pos (by omega), if_pos (by omega)]
   by_cases e : (run2 g t).1[i].getD out.toNat false = true
   ·rw [if_pos e, if_pos e]; rfl
   ·rw [if_neg e, if_neg e, wr64 (by omega) (by omega)]; rfl)
  (by simp [F_r36_Fails_l0])
 rw [show ((0 : Int), ()) = (((0 : Nat) : Int), ()) from rfl, key]
 cases (List.range (run2 g t).1.length).findSome? (hit (run2 g t).1 out.toNat) <;> rfl
structure FailOk (g : TAig) (out : Int) (t : LLB) (n : Nat) : Prop where
 c : chk g = 0
 o0 : 0 ≤ out
 o1 : out < g.2.2.2.length
 n1 : n < t.length
 len : t.length ≤ 64
 row : ∀ r ∈ t, (r.length : Int) = g.1
 run : run2 g t = ((sim2 g t (start2 g)).1, (start2 g :: (sim2 g t (start2 g)).2, 0))
 hit : ((sim2 g t (start2 g)).1.getD n []).getD out.toNat false = true
theorem fails_ok {g : TAig} {out : Int} {t : LLB} (h1 : (fails g out t).2.2 = 0) (h2 : (fails g out t).2.1 = true) : ∃ n : Nat, (fails g out t).1 = (n : Int) ∧ FailOk g out t n := by
 unfold fails at *
 by_cases hc : chk g ≠ 0
 ·rw [if_pos hc] at h2; cases h2
 rw [if_neg hc] at *
 by_cases h3 : out < 0
 ·rw [if_pos h3] at h2; cases h2
 rw [if_neg h3] at *
 by_cases h4 : (g.2.2.2.length : Int) ≤ out
 ·rw [if_pos h4] at h2; cases h2
 rw [if_neg h4] at *
 by_cases h5 : (run2 g t).2.2 ≠ 0
 ·rw [if_pos h5] at h2; cases h2
 rw [if_neg h5] at *
 cases hf : (List.range (run2 g t).1.length).findSome? (hit (run2 g t).1 out.toNat) with
 | none => rw [hf] at h2; cases h2
 | some n =>
  have hc0 : chk g = 0 := by omega
  have hr : t.length ≤ 64 ∧ t.findSome? (wide g) = none := by
   unfold run2 at h5
   rw [if_neg (by omega)] at h5
   split at h5
   ·simp at h5
   ·refine ⟨by omega, ?_⟩
    cases e : t.findSome? (wide g) with
    | none => rfl
    | some _ => rw [e] at h5; simp at h5
  have hrun : run2 g t = ((sim2 g t (start2 g)).1, (start2 g :: (sim2 g t (start2 g)).2, 0)) := by
   unfold run2
   rw [if_neg (by omega), if_neg (by omega), hr.2]; rfl
  obtain ⟨l1, i, l2, e1, e2, -⟩ := List.findSome?_eq_some_iff.1 hf
  have hi : i < (run2 g t).1.length := by
   have : i ∈ List.range (run2 g t).1.length := by rw [e1]; simp
   simpa using this
  unfold hit at e2
  split at e2
  ·rename_i hh
   cases e2
   refine ⟨n, rfl, hc0, by omega, by omega, ?_, hr.1, wide_ok hr.2, hrun, ?_⟩
   ·rw [hrun] at hi
    simpa [(sim2_len g t _).1] using hi
   ·rw [hrun] at hh; exact hh
  ·cases e2
def setB (p : LLI) (k i : Nat) : LLI := p.set k ((p.getD k []).set i 2)
def tryB (g : TAig) (n o : Nat) (p : LLI) (k i : Nat) : LLI := if ((sim3 g (setB p k i) (start3 g)).getD n []).getD o 0 = 1 then setB p k i else p
def redR (g : TAig) (n o : Nat) (p : LLI) (k : Nat) : LLI := (List.range g.1.toNat).foldl (fun p i => tryB g n o p k i) p
def red (g : TAig) (n o : Nat) (p : LLI) : LLI := (List.range (n + 1)).foldl (fun p k => redR g n o p k) p
theorem setB_ok {g : TAig} {p : LLI} (h : PatOk g p) (k i : Nat) : PatOk g (setB p k i) ∧ (setB p k i).length = p.length := by
 refine ⟨fun r hr => ?_, by simp [setB]⟩
 unfold setB at hr
 rcases List.mem_or_eq_of_mem_set hr with hr | rfl
 ·exact h r hr
 ·by_cases hk : k < p.length
  ·have := h _ (List.getElem_mem hk)
   rw [getD_lt hk]
   refine ⟨by simpa using this.1, fun v hv => ?_⟩
   rcases List.mem_or_eq_of_mem_set hv with hv | rfl
   ·exact this.2 v hv
   ·exact ⟨by omega, by omega⟩
  ·rw [List.set_eq_of_length_le (by omega)] at hr
   exact h _ hr
theorem tryB_ok {g : TAig} {n o : Nat} {p : LLI} (h : PatOk g p) (k i : Nat) : PatOk g (tryB g n o p k i) ∧ (tryB g n o p k i).length = p.length := by
 unfold tryB
 split
 ·exact setB_ok h k i
 ·exact ⟨h, rfl⟩
theorem fold_ok {g : TAig} {α : Type} (f : LLI → α → LLI) (hf : ∀ p x, PatOk g p → PatOk g (f p x) ∧ (f p x).length = p.length) : ∀ (l : List α) (p : LLI), PatOk g p → PatOk g (l.foldl f p) ∧ (l.foldl f p).length = p.length := by
 intro l
 induction l with
 | nil => intro p h; exact ⟨h, rfl⟩
 | cons x l ih =>
  intro p h
  obtain ⟨h1, h2⟩ := hf p x h
  obtain ⟨h3, h4⟩ := ih _ h1
  exact ⟨h3, h4.trans h2⟩
theorem redR_ok {g : TAig} {n o : Nat} {p : LLI} (h : PatOk g p) (k : Nat) : PatOk g (redR g n o p k) ∧ (redR g n o p k).length = p.length :=
 fold_ok _ (fun p x hp => tryB_ok hp k x) _ p h
theorem red_ok {g : TAig} {n o : Nat} {p : LLI} (h : PatOk g p) : PatOk g (red g n o p) ∧ (red g n o p).length = p.length :=
 fold_ok _ (fun p x hp => redR_ok hp x) _ p h
theorem sim3_len (g : TAig) : ∀ (p : LLI) (st : LI), (sim3 g p st).length = p.length ∧ ∀ r ∈ sim3 g p st, r.length = g.2.2.2.length := by
 intro p
 induction p with
 | nil => intro st; exact ⟨rfl, fun r h => by cases h⟩
 | cons i p ih =>
  intro st
  refine ⟨by simp [sim3, (ih _).1], fun r hr => ?_⟩
  rcases List.mem_cons.1 hr with rfl | hr
  ·simp [outs3]
  ·exact (ih _).2 r hr
theorem pat3_ok {g : TAig} {t : LLB} (h : ∀ r ∈ t, (r.length : Int) = g.1) : PatOk g (pat3 t) := fun r hr => by
 obtain ⟨s, hs, rfl⟩ := List.mem_map.1 hr
 refine ⟨by simpa using h s hs, fun v hv => ?_⟩
 obtain ⟨b, -, rfl⟩ := List.mem_map.1 hv
 exact bit3_T b
end Go.Proofs.YtkcmacdakgohcaaDoor
