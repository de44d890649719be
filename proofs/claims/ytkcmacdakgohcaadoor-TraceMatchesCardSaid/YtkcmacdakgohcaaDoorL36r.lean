/- Plain laws: Check, Fails and Reduce agree with the reference. -/

import Derived.Test.YtkcmacdakgohcaaDoorL36q
set_option linter.unusedVariables false
set_option linter.unusedSimpArgs false
set_option linter.unusedSectionVars false
open Go Go.AM Go.TM
namespace Go.Proofs.YtkcmacdakgohcaaDoor
theorem check_prog {g : TAig} (hb : AigB g) (t : LLB) : F_trace_Check g t = some (run2 g t).2.2 := by
 unfold F_trace_Check run2
 rw [show F_aig_Check (g.1, (g.2.1, (g.2.2.1, g.2.2.2))) = some (chk g) from F_aig_Check_eq g hb, ob_some]
 simp only [br_def, ne_def, lt_def, ni_def, len_def, decide_eq_true_eq]
 by_cases hc : chk g ≠ 0
 ·rw [if_pos hc, if_pos hc]
 rw [if_neg hc, if_neg hc]
 by_cases hl : 64 < (t.length : Int)
 ·rw [if_pos hl, if_pos hl]
 rw [if_neg hl, if_neg hl]
 have key := iterS_find (f := F_trace_Check_l0 g t (chk g)) t (fun i => ((i : Int), ())) (wide g) (.inl ((t.length : Int), ())) (fun _ => .inr 12)
  (fun i hi => by
   simp only [F_trace_Check_l0, tn_nat, rd_lt hi]
   unfold wide
   simp only [br_def, lt_def, ni_def, len_def, ix_def, decide_eq_true_eq, ad_def, ne_def, le_def]
   rw [if_pos (by omega), if_pos (by omega)]
   by_cases e : (t[i].length : Int) = g.1
   ·rw [if_neg (by simpa using e), if_pos e, wr64 (by omega) (by omega)]; rfl
   ·rw [if_pos e, if_neg e, if_pos (by omega)]; rfl)
  (by simp [F_trace_Check_l0])
 rw [show ((0 : Int), ()) = (((0 : Nat) : Int), ()) from rfl, key]
 cases t.findSome? (wide g) <;> rfl
theorem check_ref {g : TAig} (hb : AigB g) (t : LLB) : F_r36_Check g t = some (run2 g t).2.2 := by
 unfold F_r36_Check
 rw [show F_r20_Run (g.1, (g.2.1, (g.2.2.1, g.2.2.2))) t = some (run2 g t) from run_ref hb t, ob_some]
theorem same_refl20 (g : TAig) (h1 : g.2.1.length ≤ 1000) (h2 : g.2.2.1.length ≤ 1000) (h3 : g.2.2.2.length ≤ 1000) : F_r20_Same g g = some true := by
 have k0 := iterS_upto (f := F_r20_Same_l0 g g) (fun i => ((i : Int), ())) g.2.1.length (r := .inl ((g.2.1.length : Int), ()))
  (fun i hi => by
   simp only [F_r20_Same_l0, tn_nat, rd_lt hi]
   simp only [br_def, lt_def, ni_def, len_def, ix_def, decide_eq_true_eq, ad_def, eq_def, ba_def, nt_def, decide_true, Bool.and_self, Bool.not_true]
   rw [if_pos (by omega), if_pos (by omega), if_pos (by omega), if_neg (by simp), wr64 (by omega) (by omega)]; rfl)
  (by simp [F_r20_Same_l0])
 have k1 := iterS_upto (f := F_r20_Same_l1 g g ((g.2.1.length : Int), ())) (fun i => ((i : Int), ())) g.2.2.1.length (r := .inl ((g.2.2.1.length : Int), ()))
  (fun i hi => by
   simp only [F_r20_Same_l1, tn_nat, rd_lt hi]
   simp only [br_def, lt_def, ni_def, len_def, ix_def, decide_eq_true_eq, ad_def, eq_def, ba_def, nt_def, decide_true, Bool.and_self, Bool.not_true]
   rw [if_pos (by omega), if_pos (by omega), if_pos (by omega), if_neg (by simp), wr64 (by omega) (by omega)]; rfl)
  (by simp [F_r20_Same_l1])
 have k2 := iterS_upto (f := F_r20_EqLits_l0 g.2.2.2 g.2.2.2) (fun i => ((i : Int), ())) g.2.2.2.length (r := .inl ((g.2.2.2.length : Int), ()))
  (fun i hi => by
   simp only [F_r20_EqLits_l0, tn_nat, rd_lt hi]
   simp only [br_def, lt_def, ni_def, len_def, ix_def, decide_eq_true_eq, ad_def, ne_def]
   rw [if_pos (by omega), if_pos (by omega), if_pos (by omega), if_neg (by simp), wr64 (by omega) (by omega)]; rfl)
  (by simp [F_r20_EqLits_l0])
 have e : F_r20_EqLits g.2.2.2 g.2.2.2 = some true := by
  unfold F_r20_EqLits
  rw [show ((0 : Int), ()) = (((0 : Nat) : Int), ()) from rfl, k2]
  simp
 unfold F_r20_Same
 rw [show ((0 : Int), ()) = (((0 : Nat) : Int), ()) from rfl, k0, oj_inl, k1, oj_inl, e]
 simp
theorem matches_law (x : Tys [yAig, .int .i64, yTrace]) (h : WfTs [yAig, .int .i64, yTrace] x) : F_w36_TraceMatches x.1 x.2.1 x.2.2 = some true := by
 obtain ⟨g, out, t⟩ := x
 obtain ⟨h1, -, h3⟩ := h
 have hg := aig_len h1
 have a1 : g.2.1.length ≤ 8796093021952 := hg.1
 have a2 : g.2.2.1.length ≤ 8796093021952 := hg.2.1
 have a3 : g.2.2.2.length ≤ 17592186043904 := hg.2.2
 show F_w36_TraceMatches g out t = some true
 have sB := small_B g 30 (by decide)
 have es : F_r20_Small (g.1, (g.2.1, (g.2.2.1, g.2.2.2))) 30 = some (small g 30) := small_eq g (by omega) (by omega) (by omega) 30
 have ef := fails_prog sB out (t.take 66)
 have eg := fails_ref sB out (t.take 66)
 obtain ⟨er, eq⟩ := reduce_both sB out (t.take 66)
 have ec := check_prog sB (t.take 66)
 have ed := check_ref sB (t.take 66)
 have e20 : F_r20_Same (small g 30) (small g 30) = some true := same_refl20 _ (by simp [small]; omega) (by simp [small]; omega) (by simp [small]; omega)
 have hred : (redO (small g 30) out (t.take 66)).1.length ≤ 70 ∧ ∀ r ∈ (redO (small g 30) out (t.take 66)).1, r.length ≤ 4096 := by
  unfold redO
  split
  ·exact ⟨by simp, fun r hr => by cases hr⟩
  ·rename_i q1
   split
   ·rename_i q2
    obtain ⟨n, e, f⟩ := fails_ok (by omega) q2
    have v := chk_ok f.c
    have i1 : (small g 30).1 ≤ 4096 := by have := v.sz; have := v.i0; unfold siz fst0 at *; omega
    have hrow : ∀ r ∈ (t.take 66).take (n + 1), (r.length : Int) = (small g 30).1 := fun r hr => f.row r (List.mem_of_mem_take hr)
    rw [show (fails (small g 30) out (t.take 66)).1.toNat = n by rw [e]; simp]
    obtain ⟨z1, z2⟩ := red_ok (n := n) (o := out.toNat) (pat3_ok hrow)
    have := f.n1
    have := f.len
    refine ⟨?_, fun r hr => ?_⟩
    ·simp only [z2, pat3, List.length_map, List.length_take] at *; omega
    ·have := (z1 r hr).1; omega
   ·exact ⟨by simp, fun r hr => by cases hr⟩
 have e16 : F_r36_Same (redO (small g 30) out (t.take 66)).1 (redO (small g 30) out (t.take 66)).1 = some true := by
  rw [F_r36_Same_eq _ _ (by omega) fun r hr => by have := hred.2 r hr; omega]
  simp
 unfold F_w36_TraceMatches
 rw [es, ob_some]
 rw [show (66 : Int) = ((66 : Nat) : Int) from rfl]
 simp only [mn_rg, mn_take]
 rw [br_t]
 rw [show F_trace_Fails ((small g 30).1, ((small g 30).2.1, ((small g 30).2.2.1, (small g 30).2.2.2))) out (t.take 66) = _ from ef, ob_some,
  show F_r36_Fails ((small g 30).1, ((small g 30).2.1, ((small g 30).2.2.1, (small g 30).2.2.2))) out (t.take 66) = _ from eg, ob_some,
  show F_trace_Reduce ((small g 30).1, ((small g 30).2.1, ((small g 30).2.2.1, (small g 30).2.2.2))) out (t.take 66) = _ from er, ob_some,
  show F_r36_Reduce ((small g 30).1, ((small g 30).2.1, ((small g 30).2.2.1, (small g 30).2.2.2))) out (t.take 66) = _ from eq, ob_some,
  show F_trace_Check ((small g 30).1, ((small g 30).2.1, ((small g 30).2.2.1, (small g 30).2.2.2))) (t.take 66) = _ from ec, ob_some,
  show F_r36_Check ((small g 30).1, ((small g 30).2.1, ((small g 30).2.2.1, (small g 30).2.2.2))) (t.take 66) = _ from ed, ob_some]
 have e20x : F_r20_Same ((small g 30).1, ((small g 30).2.1, ((small g 30).2.2.1, (small g 30).2.2.2))) ((small g 30).1, ((small g 30).2.1, ((small g 30).2.2.1, (small g 30).2.2.2))) = some true := e20
 simp only [e16, ob_some, e20x, br_def, eq_def, bq_def, beq_self_eq_true, decide_true, if_true]
 rfl
end Go.Proofs.YtkcmacdakgohcaaDoor
