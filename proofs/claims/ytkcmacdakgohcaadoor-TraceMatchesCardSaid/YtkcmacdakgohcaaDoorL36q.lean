/- Plain laws: reduced patterns, by the program and by the reference. -/

import Derived.Test.YtkcmacdakgohcaaDoorL36o
import Derived.Test.YtkcmacdakgohcaaDoorL36f
set_option linter.unusedVariables false
set_option linter.unusedSimpArgs false
set_option linter.unusedSectionVars false
open Go Go.AM Go.TM
namespace Go.Proofs.YtkcmacdakgohcaaDoor
theorem br_t {R : Type} (x y : Option R) : br true x y = x := rfl
theorem br_f {R : Type} (x y : Option R) : br false x y = y := rfl
theorem set_back {p : LLI} {k i : Nat} (hk : k < p.length) (hi : i < (p.getD k []).length) : (setB p k i).set k (((setB p k i).getD k []).set i ((p.getD k []).getD i 0)) = p := by
 unfold setB
 have e : (p.set k ((p.getD k []).set i 2)).getD k [] = (p.getD k []).set i 2 := by rw [List.getD_eq_getElem?_getD, List.getElem?_set_self hk]; rfl
 rw [e, List.set_set, List.set_set, getD_lt hi, List.set_getElem_self, getD_lt hk, List.set_getElem_self]
def redO (g : TAig) (out : Int) (t : LLB) : LLI × Int :=
 if (fails g out t).2.2 ≠ 0 then ([], (fails g out t).2.2) else if (fails g out t).2.1 = true then (red g (fails g out t).1.toNat out.toNat (pat3 (t.take ((fails g out t).1.toNat + 1))), 0) else ([], 8)
theorem cut_take {t : LLB} {n : Nat} (hn : n < t.length) (hl : t.length ≤ 64) : cut t 0 (tn (wr .i64 (ad (n : Int) 1))) = t.take (n + 1) ∧ rg 0 (wr .i64 (ad (n : Int) 1)) (ni (len t)) = true := by
 simp only [ad_def]
 rw [wr64 (by omega) (by omega)]
 refine ⟨?_, by simp; omega⟩
 rw [show ((n : Int) + 1) = ((n + 1 : Nat) : Int) by omega, tn_nat, cut_eq]
theorem pat_prog {g : TAig} {out : Int} {t : LLB} {y0 : Int × (Bool × Int)} {q : LLB} (hq : cut t 0 (tn (wr .i64 (ad y0.1 1))) = q) (h : q.length ≤ 64) (h2 : ∀ r ∈ q, r.length ≤ 4096) :
  iterS (F_trace_Reduce_l0 g out t y0) (0, ([], ())) = some (.inl ((q.length : Int), (pat3 q, ()))) := by
 have inner : ∀ (i : Nat) (hi : i < q.length) o, iterS (F_trace_Reduce_l1 g out t y0 ((i : Int), (o, ()))) (0, (List.replicate q[i].length 0, ())) = some (.inl ((q[i].length : Int), (q[i].map bit3, ()))) := fun i hi o => by
  have hr := h2 _ (List.getElem_mem hi)
  have := iterS_upto (f := F_trace_Reduce_l1 g out t y0 ((i : Int), (o, ()))) (fun j => ((j : Int), ((q[i].take j).map bit3 ++ List.replicate (q[i].length - j) 0, ()))) q[i].length (r := .inl ((q[i].length : Int), (q[i].map bit3, ())))
   (fun j hj => by
    have e : j < ((q[i].take j).map bit3 ++ List.replicate (q[i].length - j) (0 : Int)).length := by simp; omega
    simp only [F_trace_Reduce_l1, hq, br_def, lt_def, ni_def, len_def, ix_def, tn_nat, rd_lt hi, rd_lt hj, decide_eq_true_eq, ad_def, F_trace_bit_eq, ob_some, put_def]
    rw [if_pos (by omega), if_pos (by omega), if_pos (by omega), wr64 (by omega) (by omega), set_map bit3 _ _ _ hj]; rfl)
   (by simp [F_trace_Reduce_l1, hq, hi])
  simpa using this
 have outer := iterS_fold (f := F_trace_Reduce_l0 g out t y0) q (fun i o => ((i : Int), (o, ()))) (fun o r => o ++ [r.map bit3]) (fun o => .inl ((q.length : Int), (o, ()))) (fun i o => o.length = i)
  (fun i o hi ho => by
   have hr := h2 _ (List.getElem_mem hi)
   refine ⟨?_, by simp [ho]⟩
   simp only [F_trace_Reduce_l0, hq, br_def, lt_def, ni_def, len_def, ix_def, tn_nat, rd_lt hi, decide_eq_true_eq, ad_def, rg_def, le_def, ml_def, rept_def, fits_def, app_def, List.length_singleton]
   rw [if_pos (by omega), if_pos (by omega), if_pos (by omega), if_pos (by omega), if_pos (by omega), inner i hi o, oj_inl, if_pos (by omega), wr64 (by omega) (by omega)]; rfl)
  (fun o _ => by simp [F_trace_Reduce_l0, hq]) (b := []) rfl
 rw [foldl_snoc] at outer
 exact outer
theorem pat_ref {g : TAig} {out : Int} {t : LLB} {y0 : Int × (Bool × Int)} {q : LLB} (hq : cut t 0 (tn (wr .i64 (ad y0.1 1))) = q) (h : q.length ≤ 64) (h2 : ∀ r ∈ q, r.length ≤ 4096) :
  iterS (F_r36_Reduce_l0 g out t y0) (0, ([], ())) = some (.inl ((q.length : Int), (pat3 q, ()))) := by
 have inner : ∀ (i : Nat) (hi : i < q.length) o, iterS (F_r36_Reduce_l1 g out t y0 ((i : Int), (o, ()))) (0, ([], ())) = some (.inl ((q[i].length : Int), (q[i].map bit3, ()))) := fun i hi o => by
  have hr := h2 _ (List.getElem_mem hi)
  have := iterS_fold (f := F_r36_Reduce_l1 g out t y0 ((i : Int), (o, ()))) q[i] (fun j o => ((j : Int), (o, ()))) (fun o v => o ++ [bit3 v]) (fun o => .inl ((q[i].length : Int), (o, ()))) (fun j o => o.length = j)
   (fun j o hj ho => by
    refine ⟨?_, by simp [ho]⟩
    simp only [F_r36_Reduce_l1, hq, br_def, lt_def, ni_def, len_def, ix_def, tn_nat, rd_lt hi, rd_lt hj, decide_eq_true_eq, ad_def, F_r36_bit_eq, ob_some, fits_def, app_def, List.length_singleton, ho]
    rw [if_pos (by omega), if_pos (by omega), if_pos (by omega), if_pos (by omega), if_pos (by omega), wr64 (by omega) (by omega)]; rfl)
   (fun o _ => by simp [F_r36_Reduce_l1, hq, rd_lt hi, hi]) (b := []) rfl
  rw [foldl_snoc] at this
  exact this
 have outer := iterS_fold (f := F_r36_Reduce_l0 g out t y0) q (fun i o => ((i : Int), (o, ()))) (fun o r => o ++ [r.map bit3]) (fun o => .inl ((q.length : Int), (o, ()))) (fun i o => o.length = i)
  (fun i o hi ho => by
   refine ⟨?_, by simp [ho]⟩
   simp only [F_r36_Reduce_l0, hq, br_def, lt_def, ni_def, len_def, decide_eq_true_eq, ad_def, fits_def, app_def, List.length_singleton]
   rw [if_pos (by omega), inner i hi o, oj_inl, if_pos (by omega), wr64 (by omega) (by omega)]; rfl)
  (fun o _ => by simp [F_r36_Reduce_l0, hq]) (b := []) rfl
 rw [foldl_snoc] at outer
 exact outer
section
variable {g : TAig} {out : Int} {t : LLB} {n : Nat} {y0 : Int × (Bool × Int)} {y3 : Int × (LLI × Unit)}
theorem bits_prog (v : AigV g) (hb : AigB g) (h0 : 0 ≤ out) (h1 : out < g.2.2.2.length) (hn : y0.1 = (n : Int)) {k : Nat} {p0 : LLI} {x} (hp0 : PatOk g p0) (hk : k < p0.length) (hnl : n < p0.length) (h64 : p0.length ≤ 64) :
  iterS (F_trace_Reduce_l3 g out t y0 y3 ((k : Int), (p0, x))) (0, (p0, ())) = some (.inl ((g.1.toNat : Int), (redR g n out.toNat p0 k, ()))) := by
 have i0 := v.i0
 have i1 : g.1 ≤ 4096 := by have := v.sz; unfold siz fst0 at this; omega
 have hrow0 := (hp0 _ (List.getElem_mem hk)).1
 have := iterS_fold (f := F_trace_Reduce_l3 g out t y0 y3 ((k : Int), (p0, x))) (List.range g.1.toNat) (fun i p => ((i : Int), (p, ()))) (fun p i => tryB g n out.toNat p k i) (fun p => .inl ((g.1.toNat : Int), (p, ()))) (fun i p => PatOk g p ∧ p.length = p0.length)
  (fun i p hi ⟨q1, q2⟩ => by
   have hi' : i < g.1.toNat := by simpa using hi
   rw [List.getElem_range]
   obtain ⟨z1, z2⟩ := tryB_ok (n := n) (o := out.toNat) q1 k i
   refine ⟨?_, z1, z2.trans q2⟩
   have hk' : k < p.length := by omega
   have hrow := (q1 _ (List.getElem_mem hk')).1
   have hil : i < p[k].length := by omega
   obtain ⟨s1, s2⟩ := setB_ok q1 k i
   have hsim : F_trace_simulate (g.1, (g.2.1, (g.2.2.1, g.2.2.2))) (setB p k i) = some (sim3 g (setB p k i) (start3 g)) := F_trace_simulate_eq v hb s1 (by omega)
   obtain ⟨u1, u2⟩ := sim3_len g (setB p k i) (start3 g)
   have hnS : n < (sim3 g (setB p k i) (start3 g)).length := by omega
   have hrS := u2 _ (List.getElem_mem hnS)
   have eset : p.set k (p[k].set i 2) = setB p k i := by unfold setB; rw [getD_lt hk']
   have hback := set_back hk' (by rw [getD_lt hk']; exact hil)
   rw [getD_lt hk'] at hback
   have hkS : k < (setB p k i).length := by omega
   have hrow2 := (s1 _ (List.getElem_mem hkS)).1
   simp only [F_trace_Reduce_l3, hn, tn_nat, rd_lt hk, rd_lt hk', put_def, eset, hsim, ob_some, rd_lt hnS, rd_lt hkS]
   rw [getD_lt hkS] at hback
   simp only [br_def, lt_def, ni_def, len_def, ix_def, decide_eq_true_eq, ad_def, ne_def, rd_def, hback]
   rw [if_pos (by omega), if_pos (by omega), if_pos (by omega), if_pos (by omega), if_pos (by omega), if_pos (by omega)]
   unfold tryB
   rw [getD_lt hnS, tn_def]
   by_cases e : (sim3 g (setB p k i) (start3 g))[n].getD out.toNat 0 = 1
   ·rw [if_neg (by simpa using e), if_pos e, wr64 (by omega) (by omega)]; rfl
   ·rw [if_pos e, if_neg e, if_pos (by omega), if_pos (by omega), wr64 (by omega) (by omega)]; rfl)
  (fun p ⟨q1, q2⟩ => by
   simp only [F_trace_Reduce_l3, tn_nat, rd_lt hk]
   simp only [br_def, lt_def, ni_def, len_def, decide_eq_true_eq, List.length_range]
   rw [if_neg (by omega)]) (b := p0) ⟨hp0, rfl⟩
 exact this
theorem rows_prog (v : AigV g) (hb : AigB g) (h0 : 0 ≤ out) (h1 : out < g.2.2.2.length) (hn : y0.1 = (n : Int)) {p0 : LLI} (hy : y3.2.1 = p0) (hp0 : PatOk g p0) (hnl : p0.length = n + 1) (h64 : p0.length ≤ 64) :
  iterS (F_trace_Reduce_l2 g out t y0 y3) (0, (p0, ())) = some (.inl (((n + 1 : Nat) : Int), (red g n out.toNat p0, ()))) := by
 have := iterS_fold (f := F_trace_Reduce_l2 g out t y0 y3) (List.range (n + 1)) (fun i p => ((i : Int), (p, ()))) (fun p k => redR g n out.toNat p k) (fun p => .inl (((n + 1 : Nat) : Int), (p, ()))) (fun i p => PatOk g p ∧ p.length = p0.length)
  (fun k p hk ⟨q1, q2⟩ => by
   have hk' : k < n + 1 := by simpa using hk
   rw [List.getElem_range]
   obtain ⟨z1, z2⟩ := redR_ok (n := n) (o := out.toNat) q1 k
   refine ⟨?_, z1, z2.trans q2⟩
   have hb' := bits_prog (t := t) (y3 := y3) (x := ()) v hb h0 h1 hn q1 (by omega : k < p.length) (by omega) (by omega)
   simp only [F_trace_Reduce_l2, hy, hb']
   simp only [br_def, lt_def, ni_def, len_def, ix_def, decide_eq_true_eq, ad_def]
   rw [if_pos (by omega), if_pos (by omega), oj_inl, wr64 (by omega) (by omega)]; rfl)
  (fun p ⟨q1, q2⟩ => by
   simp only [F_trace_Reduce_l2, hy]
   simp only [br_def, lt_def, ni_def, len_def, decide_eq_true_eq, List.length_range]
   rw [if_neg (by omega)]) (b := p0) ⟨hp0, rfl⟩
 exact this
theorem bits_ref (v : AigV g) (hb : AigB g) (h0 : 0 ≤ out) (h1 : out < g.2.2.2.length) (hn : y0.1 = (n : Int)) {k : Nat} {p0 : LLI} {x} (hp0 : PatOk g p0) (hk : k < p0.length) (hnl : n < p0.length) (h64 : p0.length ≤ 64) :
  iterS (F_r36_Reduce_l3 g out t y0 y3 ((k : Int), (p0, x))) (0, (p0, ())) = some (.inl ((g.1.toNat : Int), (redR g n out.toNat p0 k, ()))) := by
 have i0 := v.i0
 have i1 : g.1 ≤ 4096 := by have := v.sz; unfold siz fst0 at this; omega
 have copy : ∀ (p : LLI) (i : Nat) z, PatOk g p → p.length ≤ 64 → iterS (F_r36_Reduce_l4 g out t y0 y3 ((k : Int), (p0, x)) ((i : Int), (p, z))) (0, ([], ())) = some (.inl ((p.length : Int), (p, ()))) := fun p i z hp hl => by
  have := iterS_upto (f := F_r36_Reduce_l4 g out t y0 y3 ((k : Int), (p0, x)) ((i : Int), (p, z))) (fun i => ((i : Int), (p.take i, ()))) p.length (r := .inl ((p.length : Int), (p, ())))
   (fun i hi => by
    have hr := (hp _ (List.getElem_mem hi)).1
    simp only [F_r36_Reduce_l4, tn_nat, rd_lt hi]
    simp only [br_def, lt_def, ni_def, len_def, ix_def, fits_def, decide_eq_true_eq, ad_def, app_def, List.length_take, List.length_singleton]
    rw [if_pos (by omega), if_pos (by omega), if_pos (by omega), if_pos (by omega), wr64 (by omega) (by omega), List.take_append_getElem hi]; rfl)
   (by simp [F_r36_Reduce_l4])
  simpa using this
 have := iterS_fold (f := F_r36_Reduce_l3 g out t y0 y3 ((k : Int), (p0, x))) (List.range g.1.toNat) (fun i p => ((i : Int), (p, ()))) (fun p i => tryB g n out.toNat p k i) (fun p => .inl ((g.1.toNat : Int), (p, ()))) (fun i p => PatOk g p ∧ p.length = p0.length)
  (fun i p hi ⟨q1, q2⟩ => by
   have hi' : i < g.1.toNat := by simpa using hi
   rw [List.getElem_range]
   obtain ⟨z1, z2⟩ := tryB_ok (n := n) (o := out.toNat) q1 k i
   refine ⟨?_, z1, z2.trans q2⟩
   have hk' : k < p.length := by omega
   have hrow := (q1 _ (List.getElem_mem hk')).1
   have hil : i < p[k].length := by omega
   obtain ⟨s1, s2⟩ := setB_ok q1 k i
   have hsim : F_r36_simulate (g.1, (g.2.1, (g.2.2.1, g.2.2.2))) (setB p k i) = some (sim3 g (setB p k i) (start3 g)) := F_r36_simulate_eq v hb s1 (by omega)
   obtain ⟨u1, u2⟩ := sim3_len g (setB p k i) (start3 g)
   have hnS : n < (sim3 g (setB p k i) (start3 g)).length := by omega
   have hrS := u2 _ (List.getElem_mem hnS)
   have eset : p.set k (p[k].set i 2) = setB p k i := by unfold setB; rw [getD_lt hk']
   simp only [F_r36_Reduce_l3, copy p i () q1 (by omega), hn, tn_nat]
   rw [oj_inl]
   simp only [rd_lt hk', put_def, eset, hsim, ob_some, rd_lt hnS]
   simp only [br_def, lt_def, ni_def, len_def, ix_def, decide_eq_true_eq, ad_def, eq_def, rd_def]
   rw [if_pos (by omega), if_pos (by omega), if_pos (by omega), if_pos (by omega), if_pos (by omega)]
   unfold tryB
   rw [getD_lt hnS, tn_def]
   by_cases e : (sim3 g (setB p k i) (start3 g))[n].getD out.toNat 0 = 1
   ·rw [if_pos e, if_pos e, wr64 (by omega) (by omega)]; rfl
   ·rw [if_neg e, if_neg e, wr64 (by omega) (by omega)]; rfl)
  (fun p ⟨q1, q2⟩ => by
   simp only [F_r36_Reduce_l3]
   simp only [br_def, lt_def, decide_eq_true_eq, List.length_range]
   rw [if_neg (by omega)]) (b := p0) ⟨hp0, rfl⟩
 exact this
theorem rows_ref (v : AigV g) (hb : AigB g) (h0 : 0 ≤ out) (h1 : out < g.2.2.2.length) (hn : y0.1 = (n : Int)) {p0 : LLI} (hp0 : PatOk g p0) (hnl : p0.length = n + 1) (h64 : p0.length ≤ 64) :
  iterS (F_r36_Reduce_l2 g out t y0 y3) (0, (p0, ())) = some (.inl (((n + 1 : Nat) : Int), (red g n out.toNat p0, ()))) := by
 have := iterS_fold (f := F_r36_Reduce_l2 g out t y0 y3) (List.range (n + 1)) (fun i p => ((i : Int), (p, ()))) (fun p k => redR g n out.toNat p k) (fun p => .inl (((n + 1 : Nat) : Int), (p, ()))) (fun i p => PatOk g p ∧ p.length = p0.length)
  (fun k p hk ⟨q1, q2⟩ => by
   have hk' : k < n + 1 := by simpa using hk
   rw [List.getElem_range]
   obtain ⟨z1, z2⟩ := redR_ok (n := n) (o := out.toNat) q1 k
   refine ⟨?_, z1, z2.trans q2⟩
   have hb' := bits_ref (t := t) (y3 := y3) (x := ()) v hb h0 h1 hn q1 (by omega : k < p.length) (by omega) (by omega)
   simp only [F_r36_Reduce_l2, hn, hb']
   simp only [br_def, le_def, decide_eq_true_eq, ad_def]
   rw [if_pos (by omega), oj_inl, wr64 (by omega) (by omega)]; rfl)
  (fun p ⟨q1, q2⟩ => by
   simp only [F_r36_Reduce_l2, hn]
   simp only [br_def, le_def, decide_eq_true_eq, List.length_range]
   rw [if_neg (by omega)]) (b := p0) ⟨hp0, rfl⟩
 exact this
end
theorem reduce_both {g : TAig} (hb : AigB g) (out : Int) (t : LLB) : F_trace_Reduce g out t = some (redO g out t) ∧ F_r36_Reduce g out t = some (redO g out t) := by
 unfold F_trace_Reduce F_r36_Reduce redO
 rw [show F_trace_Fails (g.1, (g.2.1, (g.2.2.1, g.2.2.2))) out t = some (fails g out t) from fails_prog hb out t, show F_r36_Fails (g.1, (g.2.1, (g.2.2.1, g.2.2.2))) out t = some (fails g out t) from fails_ref hb out t, ob_some, ob_some]
 by_cases h1 : (fails g out t).2.2 ≠ 0
 ·rw [if_pos h1]
  simp only [br_def, ne_def, decide_eq_true_eq]
  rw [if_pos h1, if_pos h1]; exact ⟨rfl, rfl⟩
 by_cases h2 : (fails g out t).2.1 = true
 ·obtain ⟨n, e, f⟩ := fails_ok (by omega : (fails g out t).2.2 = 0) h2
  have v := chk_ok f.c
  have i0 := v.i0
  have i1 : g.1 ≤ 4096 := by have := v.sz; unfold siz fst0 at this; omega
  obtain ⟨c1, c2⟩ := cut_take f.n1 f.len
  have hq : cut t 0 (tn (wr .i64 (ad (fails g out t).1 1))) = t.take (n + 1) := by rw [e]; exact c1
  have hrg : rg 0 (wr .i64 (ad (fails g out t).1 1)) (ni (len t)) = true := by rw [e]; exact c2
  have hl : (t.take (n + 1)).length = n + 1 := by have := f.n1; simp; omega
  have hn1 := f.n1
  have hlen := f.len
  have hrow : ∀ r ∈ t.take (n + 1), (r.length : Int) = g.1 := fun r hr => f.row r (List.mem_of_mem_take hr)
  have hp := pat3_ok hrow
  have hpl : (pat3 (t.take (n + 1))).length = n + 1 := by simp only [pat3, List.length_map, hl]
  have e1 := pat_prog (g := g) (out := out) (t := t) (y0 := fails g out t) hq (by omega) fun r hr => by have := hrow r hr; omega
  have e2 := pat_ref (g := g) (out := out) (t := t) (y0 := fails g out t) hq (by omega) fun r hr => by have := hrow r hr; omega
  have e3 := rows_prog (p0 := pat3 (t.take (n + 1))) (t := t) (y0 := fails g out t) (y3 := (((t.take (n + 1)).length : Int), (pat3 (t.take (n + 1)), ()))) v hb f.o0 f.o1 e rfl hp hpl (by omega)
  have e4 := rows_ref (p0 := pat3 (t.take (n + 1))) (t := t) (y0 := fails g out t) (y3 := (((t.take (n + 1)).length : Int), (pat3 (t.take (n + 1)), ()))) v hb f.o0 f.o1 e hp hpl (by omega)
  rw [if_neg h1, if_pos h2, show (fails g out t).1.toNat = n by rw [e]; simp]
  have nt1 : nt true = false := rfl
  have d1 : decide ((fails g out t).2.2 ≠ 0) = false := decide_eq_false h1
  refine ⟨?_, ?_⟩
  ·simp only [hrg, e1, h2, nt1, ne_def, d1]
   rw [br_f, br_f, br_t, oj_inl, e3, oj_inl]
  ·simp only [hrg, e2, h2, nt1, ne_def, d1]
   rw [br_f, br_f, br_t, oj_inl, e4, oj_inl]
 ·have h2' : (fails g out t).2.1 = false := by simpa using h2
  rw [if_neg h1, if_neg h2]
  simp only [br_def, ne_def, nt_def, h2', decide_eq_true_eq]
  rw [if_neg h1, if_neg h1]; exact ⟨rfl, rfl⟩
end Go.Proofs.YtkcmacdakgohcaaDoor
