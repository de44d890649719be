/- Plain laws: Parse of Format, Format of Parse. -/

import Derived.Test.YtkcmacdakgohcaaDoorL36m
set_option linter.unusedVariables false
set_option linter.unusedSimpArgs false
set_option linter.unusedSectionVars false
open Go Go.AM Go.TM
namespace Go.Proofs.YtkcmacdakgohcaaDoor
theorem mix_len {α : Type} (f : α → α) (r : List α) (i : Nat) (hi : i ≤ r.length) : ((r.take i).map f ++ r.drop i).length = r.length := by simp; omega
theorem mix_get {α : Type} (f : α → α) (r : List α) {i : Nat} (hi : i < r.length) (d : α) : ((r.take i).map f ++ r.drop i).getD i d = r[i] := by
 have hl : ((r.take i).map f).length = i := by simp; omega
 rw [List.getD_eq_getElem?_getD, List.getElem?_append_right (by omega), hl, Nat.sub_self, List.getElem?_drop, Nat.add_zero, List.getElem?_eq_getElem hi]; rfl
theorem mix_set {α : Type} (f : α → α) (r : List α) {i : Nat} (hi : i < r.length) : ((r.take i).map f ++ r.drop i).set i (f r[i]) = (r.take (i + 1)).map f ++ r.drop (i + 1) := by
 have hl : ((r.take i).map f).length = i := by simp; omega
 rw [List.set_append_right _ _ (by omega), hl, Nat.sub_self, List.drop_eq_getElem_cons hi, ← List.take_append_getElem hi, List.map_append, List.append_assoc]; rfl
theorem getD_set {α : Type} {l : List α} {i : Nat} (h : i < l.length) (x d : α) : (l.set i x).getD i d = x := by
 rw [List.getD_eq_getElem?_getD, List.getElem?_set_self h]; rfl
def m3 (v : Int) : Int := md v 3
def row3 (r : LI) : LI := (r.take 40).map m3
theorem copy_loop {a0 : LLI} {a1 : Str} (p : LLI) (hp : p = cut a0 0 (tn (mn (ni (len a0)) 64))) (h : p.length ≤ 64) (h2 : ∀ r ∈ p, r.length ≤ 140737488355328) : iterS (F_w36_TraceText_l0 a0 a1) (0, ([], ())) = some (.inl ((p.length : Int), (p, ()))) := by
 have := iterS_upto (f := F_w36_TraceText_l0 a0 a1) (fun i => ((i : Int), (p.take i, ()))) p.length (r := .inl ((p.length : Int), (p, ())))
  (fun i hi => by
   have hr := h2 _ (List.getElem_mem hi)
   simp only [F_w36_TraceText_l0, ← hp, tn_nat, rd_lt hi]
   simp only [br_def, lt_def, ni_def, len_def, ix_def, fits_def, decide_eq_true_eq, ad_def, app_def, List.length_take, List.length_singleton]
   rw [if_pos (by omega), if_pos (by omega), if_pos (by omega), if_pos (by omega), wr64 (by omega) (by omega), List.take_append_getElem hi]; rfl)
  (by simp [F_w36_TraceText_l0, ← hp])
 simpa using this
theorem bits_loop {a0 : LLI} {a1 : Str} {y0} {k : Nat} {x} (p : LLI) (r : LI) (hk : k < p.length) (hr : r.length ≤ 40) :
  iterS (F_w36_TraceText_l2 a0 a1 y0 ((k : Int), x)) (0, (p.set k r, ())) = some (.inl ((r.length : Int), (p.set k (r.map m3), ()))) := by
 have := iterS_upto (f := F_w36_TraceText_l2 a0 a1 y0 ((k : Int), x)) (fun i => ((i : Int), (p.set k ((r.take i).map m3 ++ r.drop i), ()))) r.length (r := .inl ((r.length : Int), (p.set k (r.map m3), ())))
  (fun i hi => by
   have hl := mix_len m3 r i (Nat.le_of_lt hi)
   have hk2 : k < (p.set k ((r.take i).map m3 ++ r.drop i)).length := by simpa using hk
   have e1 : rd (p.set k ((r.take i).map m3 ++ r.drop i)) k [] = (r.take i).map m3 ++ r.drop i := getD_set hk _ _
   have e2 : rd ((r.take i).map m3 ++ r.drop i) i 0 = r[i] := mix_get m3 r hi 0
   have e3 := mix_set m3 r hi
   simp only [F_w36_TraceText_l2, tn_nat, e1, e2, put_def]
   rw [show md r[i] 3 = m3 r[i] from rfl, e3, List.set_set]
   simp only [br_def, lt_def, ni_def, len_def, ix_def, decide_eq_true_eq, ad_def, List.length_set, hl]
   rw [if_pos (by omega), if_pos (by omega), if_pos (by omega), if_pos (by omega), if_pos (by omega), if_pos (by omega), wr64 (by omega) (by omega)]; rfl)
  (by
   have e1 : rd (p.set k (r.map m3)) k [] = r.map m3 := getD_set hk _ _
   simp only [List.take_length, List.drop_length, List.append_nil, F_w36_TraceText_l2, tn_nat, e1]
   simp only [br_def, lt_def, ni_def, len_def, ix_def, decide_eq_true_eq, List.length_set, List.length_map]
   rw [if_pos (by omega), if_neg (by omega)])
 simpa using this
theorem rows_loop {a0 : LLI} {a1 : Str} {y0} (p : LLI) (hn : p.length ≤ 64) : iterS (F_w36_TraceText_l1 a0 a1 y0) (0, (p, ())) = some (.inl ((p.length : Int), (p.map row3, ()))) := by
 have := iterS_upto (f := F_w36_TraceText_l1 a0 a1 y0) (fun k => ((k : Int), ((p.take k).map row3 ++ p.drop k, ()))) p.length (r := .inl ((p.length : Int), (p.map row3, ())))
  (fun k hk => by
   have hl := mix_len row3 p k (Nat.le_of_lt hk)
   have e1 : rd ((p.take k).map row3 ++ p.drop k) k [] = p[k] := mix_get row3 p hk []
   have hb := bits_loop (a0 := a0) (a1 := a1) (y0 := y0) (k := k) (x := ((p.take k).map row3 ++ p.drop k, ())) ((p.take k).map row3 ++ p.drop k) (p[k].take 40) (by omega) (by simp; omega)
   have e3 := mix_set row3 p hk
   simp only [F_w36_TraceText_l1, tn_nat, e1, put_def]
   rw [show (40 : Int) = ((40 : Nat) : Int) from rfl]
   simp only [mn_rg, mn_take, hb]
   rw [show (p[k].take 40).map m3 = row3 p[k] from rfl, e3]
   simp only [br_def, lt_def, ni_def, len_def, ix_def, decide_eq_true_eq, ad_def, hl, eqn, if_true]
   rw [if_pos (by omega), if_pos (by omega), if_pos (by omega), if_pos (by omega), oj_inl, wr64 (by omega) (by omega)]; rfl)
  (by simp [F_w36_TraceText_l1])
 simpa using this
theorem text_law (x : Tys [yPat, .str]) (h : WfTs [yPat, .str] x) : F_w36_TraceText x.1 x.2 = some true := by
 obtain ⟨p, s⟩ := x
 obtain ⟨h1, h2⟩ := h
 obtain ⟨b1, b2, b3⟩ := pat_len h1
 show F_w36_TraceText p s = some true
 have hlp : (p.take 64).length ≤ 64 := by simp; omega
 have hp : ∀ r ∈ p.take 64, r ∈ p := fun r hr => List.mem_of_mem_take hr
 have ec := copy_loop (a0 := p) (a1 := s) (p.take 64) (by rw [show (64 : Int) = ((64 : Nat) : Int) from rfl, mn_take]) hlp fun r hr => by have := b2 r (hp r hr); omega
 let q : LLI := (p.take 64).map row3
 have hq1 : q.length ≤ 64 := by simp [q]; omega
 have hq2 : ∀ r ∈ q, r.length ≤ 40 := fun r hr => by
  obtain ⟨r', -, rfl⟩ := List.mem_map.1 hr
  simp [row3]; omega
 have hqT : ∀ r ∈ q, ∀ v ∈ r, T3 v := fun r hr v hv => by
  obtain ⟨r', hr', rfl⟩ := List.mem_map.1 hr
  obtain ⟨w, hw, rfl⟩ := List.mem_map.1 hv
  have := (b3 r' (hp r' hr') w (List.mem_of_mem_take hw)).1
  unfold T3 m3
  rw [show md w 3 = w % 3 from Int.tmod_eq_emod_of_nonneg this]
  omega
 have ef : F_trace_Format q = some (txt q, 0) := by
  rw [format_prog (by omega) (fun r hr => by have := hq2 r hr; omega) (fun r hr v hv => (hqT r hr v hv).1), fmt_ok hq1 hqT]
 have ep : F_trace_Parse (txt q) = some (q, (0, 0)) := by rw [parse_prog, prs_txt hq1 (fun r hr => by have := hq2 r hr; omega) hqT]
 have es : F_r36_Same q q = some true := by
  rw [F_r36_Same_eq _ _ (by omega) fun r hr => by have := hq2 r hr; omega]
  simp
 have er := parse_prog (s.take 3000)
 have hst : (s.take 3000).length ≤ 3000 := by simp; omega
 have hpr : (prs (s.take 3000)).2.2 = 0 → F_trace_Format (prs (s.take 3000)).1 = some (s.take 3000, 0) := fun h0 => by
  have hpr : (prs (s.take 3000)).1.length ≤ 64 ∧ (∀ r ∈ (prs (s.take 3000)).1, r.length ≤ 3000) ∧ ∀ r ∈ (prs (s.take 3000)).1, ∀ v ∈ r, T3 v := by
   have nil : ∀ e : Int × Int, ((([], e) : LLI × (Int × Int)).1.length ≤ 64 ∧ (∀ r ∈ (([], e) : LLI × (Int × Int)).1, r.length ≤ 3000) ∧ ∀ r ∈ (([], e) : LLI × (Int × Int)).1, ∀ v ∈ r, T3 v) := fun e => ⟨by simp, fun r hr => (by cases hr), fun r hr => by cases hr⟩
   unfold prs
   split
   ·exact nil _
   cases (List.range (s.take 3000).length).findSome? (badI (s.take 3000)) with
   | some i => exact nil _
   | none =>
    simp only [Option.elim_none]
    split
    ·exact nil _
    split
    ·exact nil _
    ·rename_i q1 q2
     refine ⟨by simp only; omega, fun r hr => ?_, rows_T _ [] fun v hv => by cases hv⟩
     have := rows_row (s.take 3000) [] r hr
     simp at this
     omega
  rw [format_prog (by omega) (fun r hr => by have := hpr.2.1 r hr; omega) (fun r hr v hv => (hpr.2.2 r hr v hv).1), fmt_prs hst h0]
 unfold F_w36_TraceText
 rw [show (64 : Int) = ((64 : Nat) : Int) from rfl, show (3000 : Int) = ((3000 : Nat) : Int) from rfl]
 simp only [mn_rg, mn_take]
 rw [br_def, if_pos rfl, ec, oj_inl, rows_loop _ hlp, oj_inl]
 rw [show F_trace_Format ((((p.take 64).length : Int), (((p.take 64).map row3), ())) : Int × (LLI × Unit)).2.1 = some (txt q, 0) from ef, ob_some, ep, ob_some]
 rw [show F_r36_Same ((((p.take 64).length : Int), (((p.take 64).map row3), ())) : Int × (LLI × Unit)).2.1 ((q, (0, 0)) : LLI × (Int × Int)).1 = some true from es, ob_some, er, ob_some]
 by_cases h0 : (prs (s.take 3000)).2.2 = 0
 ·rw [hpr h0, ob_some]
  simp only [br_def, ne_def, eq_def, sq, nt_def, h0, decide_true, if_true]
  rfl
 ·simp only [br_def, ne_def, eq_def, nt_def, if_true, show decide ((prs (s.take 3000)).2.2 ≠ 0) = true from decide_eq_true h0]
  rfl
end Go.Proofs.YtkcmacdakgohcaaDoor
