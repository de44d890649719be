/- The law TraceWaves in plain Lean. -/
import Derived.Test.YtkcmacdakgohcaaDoorL36h
set_option linter.unusedVariables false
set_option linter.unusedSimpArgs false
set_option linter.unusedSectionVars false
open Go Go.AM Go.TM
namespace Go.Proofs.YtkcmacdakgohcaaDoor
/-- The values of a cycle; those before it; the changes up to it. -/
def rowK (t s o : LLB) (k : Nat) : LB := (t.getD k [] ++ s.getD k []) ++ o.getD k []
def wasK (t s o : LLB) : Nat → LB
  | 0 => []
  | k + 1 => rowK t s o k
def chUp (t s o : LLB) : Nat → List TChg
  | 0 => []
  | k + 1 => chUp t s o k ++ chgs k (wasK t s o k) (rowK t s o k) (rowK t s o k).length
def names (m : TMach) : LStr := (m.2.1 ++ m.2.2.1) ++ m.2.2.2
def vars (m : TMach) : List TVar := (names m).map fun n => ([], (n, 1))
def wave (m : TMach) (t : LLB) : TWave × Int :=
  if chk m.1 ≠ 0 then (([], ([], [])), chk m.1) else if (m.2.1.length : Int) ≠ m.1.1 then (([], ([], [])), 12) else if m.2.2.1.length ≠ m.1.2.1.length then (([], ([], [])), 12) else if m.2.2.2.length ≠ m.1.2.2.2.length then (([], ([], [])), 12) else
  if (run2 m.1 t).2.2 ≠ 0 then (([], ([], [])), (run2 m.1 t).2.2) else (([49, 110, 115], (vars m, chUp t (run2 m.1 t).2.1 (run2 m.1 t).1 t.length)), 0)
theorem sim2_len (g : TAig) : ∀ (t : LLB) (st : LB), (sim2 g t st).1.length = t.length ∧ (sim2 g t st).2.length = t.length := by
  intro t
  induction t with
  | nil => intro st; exact ⟨rfl, rfl⟩
  | cons i t ih => intro st; exact ⟨by simp [sim2, (ih _).1], by simp [sim2, (ih _).2]⟩
theorem sim2_row (g : TAig) : ∀ (t : LLB) (st : LB), (∀ o ∈ (sim2 g t st).1, o.length = g.2.2.2.length) ∧ ∀ s ∈ (sim2 g t st).2, s.length = g.2.1.length := by
  intro t
  induction t with
  | nil => intro st; exact ⟨fun o h => (by cases h), fun o h => (by cases h)⟩
  | cons i t ih =>
    intro st
    refine ⟨fun o h => ?_, fun s h => ?_⟩
    · rcases List.mem_cons.1 h with rfl | h
      · simp [outs2]
      · exact (ih _).1 o h
    · rcases List.mem_cons.1 h with rfl | h
      · simp [next2]
      · exact (ih _).2 s h
/-- What a run without error bears. -/
structure RunOk (g : TAig) (t : LLB) : Prop where
  c : chk g = 0
  n : t.length ≤ 64
  lo : (run2 g t).1.length = t.length
  ls : (run2 g t).2.1.length = t.length + 1
  row : ∀ k, k < t.length → (rowK t (run2 g t).2.1 (run2 g t).1 k).length = g.1.toNat + g.2.1.length + g.2.2.2.length
theorem run_ok {g : TAig} {t : LLB} (h : (run2 g t).2.2 = 0) (hc : chk g = 0) : RunOk g t := by
  unfold run2 at h
  rw [if_neg (by omega)] at h
  split at h
  · cases h
  · rename_i hl
    cases e : t.findSome? (wide g) with
    | some _ => rw [e] at h; cases h
    | none =>
      have hr : run2 g t = ((sim2 g t (start2 g)).1, (start2 g :: (sim2 g t (start2 g)).2, 0)) := by
        unfold run2
        rw [if_neg (by omega), if_neg hl, e]; rfl
      refine ⟨hc, by omega, by rw [hr]; exact (sim2_len g t _).1, by rw [hr]; simp [(sim2_len g t _).2], fun k hk => ?_⟩
      have h1 := wide_ok e _ (List.getElem_mem hk)
      have q1 : k < (sim2 g t (start2 g)).1.length := by rw [(sim2_len g t _).1]; exact hk
      have q2 : k < (start2 g :: (sim2 g t (start2 g)).2).length := by simp [(sim2_len g t _).2]; omega
      rw [hr]
      unfold rowK
      rw [getD_lt hk, getD_lt q1, getD_lt q2, List.length_append, List.length_append, (sim2_row g t _).1 _ (List.getElem_mem q1)]
      have h2 : (start2 g :: (sim2 g t (start2 g)).2)[k].length = g.2.1.length := by
        rcases List.mem_cons.1 (List.getElem_mem q2) with e | e
        · rw [e]; exact start2_len g
        · exact (sim2_row g t _).2 _ e
      rw [h2]
      omega
theorem chUp_len {t s o : LLB} {w : Nat} : ∀ k, (∀ j, j < k → (rowK t s o j).length = w) → (chUp t s o k).length ≤ k * w := by
  intro k
  induction k with
  | zero => intro _; simp [chUp]
  | succ k ih =>
    intro h
    have := ih fun j hj => h j (by omega)
    have h2 := chgs_len k (wasK t s o k) (rowK t s o k) (rowK t s o k).length
    rw [h k (by omega)] at h2
    simp only [chUp, List.length_append, h k (by omega)]
    rw [Nat.add_mul]
    omega
theorem wasK_len {t s o : LLB} {w : Nat} {k : Nat} (h : ∀ j, j < k → (rowK t s o j).length = w) (hk : k ≠ 0) : (wasK t s o k).length = w := by
  cases k with
  | zero => exact absurd rfl hk
  | succ k => exact h k (by omega)
/-- The sizes that are needed. -/
def WvB (m : TMach) : Prop := m.2.1.length ≤ 1000 ∧ m.2.2.1.length ≤ 1000 ∧ m.2.2.2.length ≤ 1000
theorem wave_prog {m : TMach} (hb : AigB m.1) (hm : WvB m) (t : LLB) : F_trace_Wave m t = some (wave m t) := by
  obtain ⟨m1, m2, m3⟩ := hm
  unfold F_trace_Wave wave
  rw [show F_aig_Check (m.1.1, (m.1.2.1, (m.1.2.2.1, m.1.2.2.2))) = some (chk m.1) from F_aig_Check_eq m.1 hb, ob_some]
  simp only [br_def, ne_def, ni_def, len_def, decide_eq_true_eq]
  by_cases h1 : chk m.1 ≠ 0
  · rw [if_pos h1, if_pos h1]
  rw [if_neg h1, if_neg h1]
  by_cases h2 : (m.2.1.length : Int) ≠ m.1.1
  · rw [if_pos h2, if_pos h2]
  rw [if_neg h2, if_neg h2]
  by_cases h3 : m.2.2.1.length ≠ m.1.2.1.length
  · rw [if_pos (by omega), if_pos h3]
  rw [if_neg (by omega), if_neg h3]
  by_cases h4 : m.2.2.2.length ≠ m.1.2.2.2.length
  · rw [if_pos (by omega), if_pos h4]
  rw [if_neg (by omega), if_neg h4, show F_aig_Run (m.1.1, (m.1.2.1, (m.1.2.2.1, m.1.2.2.2))) t = some (run2 m.1 t) from run_prog hb t, ob_some]
  by_cases h5 : (run2 m.1 t).2.2 ≠ 0
  · rw [if_pos h5, if_pos h5]
  rw [if_neg h5, if_neg h5]
  have ok := run_ok (by omega : (run2 m.1 t).2.2 = 0) (by omega)
  have hn := ok.n
  generalize hR : run2 m.1 t = R at ok h5
  have okr : ∀ k, k < t.length → (rowK t R.2.1 R.1 k).length ≤ 3000 ∧ (rowK t R.2.1 R.1 k).length = m.1.1.toNat + m.1.2.1.length + m.1.2.2.2.length := fun k hk => by
    have := ok.row k hk; rw [hR] at this; omega
  have okl := ok.lo; rw [hR] at okl
  have oks := ok.ls; rw [hR] at oks
  have e77 : F_slices_Concat_string_string [m.2.1, m.2.2.1, m.2.2.2] = some (names m) := by
    rw [F_slices_Concat_string_string_eq _ (by simp) (by simp; omega)]
    simp [names]
  rw [e77, ob_some]
  have hnl : (names m).length ≤ 3000 := by simp [names]; omega
  have lv := iterS_fold (f := F_trace_Wave_l0 m t (chk m.1) R (names m)) (names m) (fun i out => ((i : Int), out, ())) (fun out n => out ++ [(([], (n, 1)) : TVar)]) (fun out => .inl (((names m).length : Int), out, ())) (fun i out => out.length = i)
    (fun i out hi ho => by
      refine ⟨?_, by simp [ho]⟩
      have e : i + 1 ≤ 2932031007402 := by omega
      simp (disch := omega) [F_trace_Wave_l0, rd_lt hi, wr64, hi, ho, e])
    (fun out ho => by simp [F_trace_Wave_l0]) (b := []) rfl
  rw [foldl_snoc] at lv
  rw [show ((0 : Int), (([] : List TVar), ())) = ((((0 : Nat) : Int)), ([], ())) from rfl, lv, oj_inl]
  have lc := iterS_upto (f := F_trace_Wave_l1 m t (chk m.1) R (names m) (((names m).length : Int), ([] ++ (names m).map fun n => (([], (n, 1)) : TVar), ()))) (fun k => ((k : Int), (wasK t R.2.1 R.1 k, (chUp t R.2.1 R.1 k, ())))) t.length (r := .inl ((t.length : Int), (wasK t R.2.1 R.1 t.length, (chUp t R.2.1 R.1 t.length, ()))))
    (fun k hk => by
      have k1 : k < R.2.1.length := by omega
      have k2 : k < R.1.length := by omega
      obtain ⟨r1, r2⟩ := okr k hk
      have hch := chUp_len (t := t) (s := R.2.1) (o := R.1) k fun j hj => (okr j (by omega)).2
      have hrow : rowK t R.2.1 R.1 k = (t[k] ++ R.2.1[k]) ++ R.1[k] := by unfold rowK; rw [getD_lt hk, getD_lt k1, getD_lt k2]
      have hmul : k * (m.1.1.toNat + m.1.2.1.length + m.1.2.2.2.length) ≤ 64 * 3000 := Nat.mul_le_mul (by omega) (by omega)
      have e78 : F_slices_Concat_bool_bool [t[k], R.2.1[k], R.1[k]] = some (rowK t R.2.1 R.1 k) := by
        have : ([t[k], R.2.1[k], R.1[k]] : LLB).flatten = rowK t R.2.1 R.1 k := by rw [hrow]; simp
        rw [F_slices_Concat_bool_bool_eq _ (by simp) (by rw [this]; omega), this]
      simp only [F_trace_Wave_l1, br_def, lt_def, ni_def, len_def, ix_def, tn_nat, rd_lt hk, rd_lt k1, rd_lt k2, decide_eq_true_eq, ad_def]
      rw [if_pos (by omega), if_pos (by omega), if_pos (by omega), if_pos (by omega), e78, ob_some,
        row_prog (fun hk0 => by rw [wasK_len (fun j hj => (okr j (by omega)).2) hk0, r2]) (by omega), oj_inl, wr64 (by omega) (by omega)]
      rfl)
    (by simp [F_trace_Wave_l1])
  rw [show ((0 : Int), (([] : LB), (([] : List TChg), ()))) = ((((0 : Nat) : Int)), (wasK t R.2.1 R.1 0, (chUp t R.2.1 R.1 0, ()))) from rfl, lc, oj_inl]
  rfl
theorem chg_false {k : Nat} {was now : LB} {i : Nat} : chg k was now i = false ↔ k ≠ 0 ∧ now.getD i false = was.getD i false := by
  unfold chg
  by_cases h : k = 0
  · simp [h]
  · simp [h]
theorem wave_ref {m : TMach} (hb : AigB m.1) (hm : WvB m) (t : LLB) (ht : ∀ r ∈ t, r.length ≤ 140737488351232) : F_r36_Wave m t = some (wave m t) := by
  obtain ⟨m1, m2, m3⟩ := hm
  unfold F_r36_Wave wave
  rw [show F_r20_Check (m.1.1, (m.1.2.1, (m.1.2.2.1, m.1.2.2.2))) = some (chk m.1) from F_r20_Check_eq m.1 hb, ob_some]
  simp only [br_def, ne_def, ni_def, len_def, decide_eq_true_eq]
  by_cases h1 : chk m.1 ≠ 0
  · rw [if_pos h1, if_pos h1]
  rw [if_neg h1, if_neg h1]
  by_cases h2 : (m.2.1.length : Int) ≠ m.1.1
  · rw [if_pos h2, if_pos h2]
  rw [if_neg h2, if_neg h2]
  by_cases h3 : m.2.2.1.length ≠ m.1.2.1.length
  · rw [if_pos (by omega), if_pos h3]
  rw [if_neg (by omega), if_neg h3]
  by_cases h4 : m.2.2.2.length ≠ m.1.2.2.2.length
  · rw [if_pos (by omega), if_pos h4]
  rw [if_neg (by omega), if_neg h4, show F_r20_Run (m.1.1, (m.1.2.1, (m.1.2.2.1, m.1.2.2.2))) t = some (run2 m.1 t) from run_ref hb t, ob_some]
  by_cases h5 : (run2 m.1 t).2.2 ≠ 0
  · rw [if_pos h5, if_pos h5]
  rw [if_neg h5, if_neg h5]
  have ok := run_ok (by omega : (run2 m.1 t).2.2 = 0) (by omega)
  have hn := ok.n
  generalize hR : run2 m.1 t = R at ok h5
  have v0 := (chk_ok ok.c).i0
  have okr : ∀ k, k < t.length → (rowK t R.2.1 R.1 k).length ≤ 3000 ∧ (rowK t R.2.1 R.1 k).length = (names m).length := fun k hk => by
    have := ok.row k hk; rw [hR] at this
    have hnl : (names m).length = m.2.1.length + m.2.2.1.length + m.2.2.2.length := by simp [names]; omega
    omega
  have okl := ok.lo; rw [hR] at okl
  have oks := ok.ls; rw [hR] at oks
  have hnl : (names m).length ≤ 3000 := by simp [names]; omega
  have hnm : app (app m.2.1 m.2.2.1) m.2.2.2 = names m := rfl
  rw [hnm]
  simp only [fits_def, app_def, List.length_append, decide_eq_true_eq, rg_def, le_def, ml_def, tn_nat, rept_def]
  rw [if_pos (by omega), if_pos (by omega), if_pos (by omega)]
  have lv := iterS_fold (f := F_r36_Wave_l0 m t (chk m.1) R) (names m) (fun i out => ((i : Int), out, ())) (fun out n => out ++ [(([], (n, 1)) : TVar)]) (fun out => .inl (((names m).length : Int), out, ())) (fun i out => out.length = i)
    (fun i out hi ho => by
      refine ⟨?_, by simp [ho]⟩
      have e : i + 1 ≤ 2932031007402 := by omega
      simp only [F_r36_Wave_l0, hnm]
      simp (disch := omega) [rd_lt hi, wr64, hi, ho, e])
    (fun out ho => by simp only [F_r36_Wave_l0, hnm]; simp) (b := []) rfl
  rw [foldl_snoc] at lv
  rw [show ((0 : Int), (([] : List TVar), ())) = ((((0 : Nat) : Int)), ([], ())) from rfl, lv, oj_inl, if_pos (by omega), if_pos (by omega), if_pos (by omega)]
  have lc := iterS_upto (f := F_r36_Wave_l1 m t (chk m.1) R (((names m).length : Int), ([] ++ (names m).map fun n => (([], (n, 1)) : TVar), ()))) (fun k => ((k : Int), (chUp t R.2.1 R.1 k, ((if k = 0 then List.replicate (names m).length [] else (wasK t R.2.1 R.1 k).map cs), ())))) t.length
    (r := .inl ((t.length : Int), (chUp t R.2.1 R.1 t.length, ((if t.length = 0 then List.replicate (names m).length [] else (wasK t R.2.1 R.1 t.length).map cs), ()))))
    (fun k hk => by
      have k1 : k < R.2.1.length := by omega
      have k2 : k < R.1.length := by omega
      obtain ⟨r1, r2⟩ := okr k hk
      have hch := chUp_len (t := t) (s := R.2.1) (o := R.1) k fun j hj => (okr j (by omega)).2
      have hmul : k * (names m).length ≤ 64 * 3000 := Nat.mul_le_mul (by omega) (by omega)
      have hrow : rowK t R.2.1 R.1 k = (t[k] ++ R.2.1[k]) ++ R.1[k] := by unfold rowK; rw [getD_lt hk, getD_lt k1, getD_lt k2]
      have hl := congrArg List.length hrow
      simp only [List.length_append] at hl
      have hnow : app (app (rd t (tn (k : Int)) []) (rd R.2.1 (tn (k : Int)) [])) (rd R.1 (tn (k : Int)) []) = rowK t R.2.1 R.1 k := by
        rw [hrow, tn_nat, rd_lt hk, rd_lt k1, rd_lt k2]
      have hw : ∀ j, j < k → (rowK t R.2.1 R.1 j).length = (names m).length := fun j hj => (okr j (by omega)).2
      have rr := row_ref (m := m) (t := t) (y0 := chk m.1) (y1 := R) (y2 := (((names m).length : Int), ([] ++ (names m).map fun n => (([], (n, 1)) : TVar), ()))) (k := k) (was := wasK t R.2.1 R.1 k) (now := rowK t R.2.1 R.1 k) (ws := if k = 0 then List.replicate (names m).length [] else (wasK t R.2.1 R.1 k).map cs) (ch := chUp t R.2.1 R.1 k) hnow
        (by
          split
          · simp [r2]
          · rename_i h0; rw [List.length_map, wasK_len hw h0, r2])
        (fun i hi hi' => by
          rw [chg_false]
          by_cases h0 : k = 0
          · simp only [h0, if_true, List.getElem_replicate, ne_eq, not_true, false_and, iff_false]
            exact cs_ne _
          · have hiw : i < (wasK t R.2.1 R.1 k).length := by rw [wasK_len hw h0, ← r2]; exact hi
            simp only [h0, if_false, List.getElem_map, cs_inj, ne_eq, not_false_eq_true, true_and, getD_lt hi, getD_lt hiw])
        (by omega)
      simp only [F_r36_Wave_l1, br_def, lt_def, ni_def, len_def, ix_def, tn_nat, rd_lt hk, rd_lt k1, rd_lt k2, decide_eq_true_eq, ad_def, fits_def, app_def, List.length_append]
      rw [if_pos (by omega), if_pos (by omega), if_pos (by omega), if_pos (by omega), if_pos (by omega), if_pos (by omega), if_pos (by omega), rr, oj_inl, wr64 (by omega) (by omega)]
      rfl)
    (by simp [F_r36_Wave_l1])
  rw [show ((0 : Int), (([] : List TChg), ((List.replicate (names m).length ([] : Str)), ()))) = ((((0 : Nat) : Int)), (chUp t R.2.1 R.1 0, ((if 0 = 0 then List.replicate (names m).length [] else (wasK t R.2.1 R.1 0).map cs), ()))) from rfl, lc, oj_inl]
  rfl
abbrev yMach : Ty := .st (.pair yAig (.pair (.slice .str) (.pair (.slice .str) (.slice .str))))
theorem few_eq (l : LStr) : F_w36_few l = some (l.take 40) := by
  unfold F_w36_few
  rw [show (40 : Int) = ((40 : Nat) : Int) from rfl, mn_rg, mn_take]; rfl
theorem waves_law (x : Tys [yMach, yTrace]) (h : WfTs [yMach, yTrace] x) : F_w36_TraceWaves x.1 x.2 = some true := by
  obtain ⟨m, t⟩ := x
  obtain ⟨h1, h3⟩ := h
  have h1 : WfT yAig m.1 ∧ _ := h1
  obtain ⟨a1, a2, a3⟩ := aig_len h1.1
  obtain ⟨c1, c2⟩ := trace_len h3
  show F_w36_TraceWaves m t = some true
  have sB := small_B m.1 30 (by decide)
  have ht : ∀ r ∈ t.take 66, r.length ≤ 140737488351232 := fun r hr => c2 r (List.mem_of_mem_take hr)
  let x : TMach := (small m.1 30, (m.2.1.take 40, (m.2.2.1.take 40, m.2.2.2.take 40)))
  have hx : WvB x := ⟨by simp [x]; omega, by simp [x]; omega, by simp [x]; omega⟩
  have e1 : F_trace_Wave x (t.take 66) = some (wave x (t.take 66)) := wave_prog sB hx _
  have e2 : F_r36_Wave x (t.take 66) = some (wave x (t.take 66)) := wave_ref sB hx _ ht
  have hnl : (names x).length ≤ 3000 := by obtain ⟨q1, q2, q3⟩ := hx; simp [names]; omega
  have e3 : F_r19_Same (wave x (t.take 66)).1 (wave x (t.take 66)).1 = some true := by
    have key : (wave x (t.take 66)).1.2.1.length ≤ 3000 ∧ (wave x (t.take 66)).1.2.2.length ≤ 9000000000 ∧ ∀ v ∈ (wave x (t.take 66)).1.2.1, v.1 = [] := by
      have nil : ∀ e : Int, (((([], ([], [])), e) : TWave × Int).1.2.1.length ≤ 3000 ∧ ((([], ([], [])), e) : TWave × Int).1.2.2.length ≤ 9000000000 ∧ ∀ v ∈ ((([], ([], [])), e) : TWave × Int).1.2.1, v.1 = []) := fun e => ⟨by simp, by simp, fun v hv => by cases hv⟩
      unfold wave
      split
      · exact nil _
      rename_i h1
      split
      · exact nil _
      split
      · exact nil _
      split
      · exact nil _
      split
      · exact nil _
      rename_i q2 q3 q4 h5
      have ok := run_ok (by omega : (run2 x.1 (t.take 66)).2.2 = 0) (by omega)
      have vo := (chk_ok ok.c).sz
      have vo2 := (chk_ok ok.c).outs
      have v0 := (chk_ok ok.c).i0
      have hs : siz x.1 = fst0 x.1 + x.1.2.2.1.length := rfl
      have hf : fst0 x.1 = 1 + x.1.1 + x.1.2.1.length := rfl
      have hu := chUp_len (t := t.take 66) (s := (run2 x.1 (t.take 66)).2.1) (o := (run2 x.1 (t.take 66)).1) (w := x.1.1.toNat + x.1.2.1.length + x.1.2.2.2.length) (t.take 66).length fun j hj => ok.row j hj
      have hmul : (t.take 66).length * (x.1.1.toNat + x.1.2.1.length + x.1.2.2.2.length) ≤ 64 * 10000 := Nat.mul_le_mul ok.n (by omega)
      refine ⟨by simp [vars]; exact hnl, by show (chUp _ _ _ _).length ≤ _; omega, fun v hv => ?_⟩
      obtain ⟨n, -, rfl⟩ := List.mem_map.1 hv
      rfl
    exact same_refl _ (by omega) (by omega) fun v hv => by rw [key.2.2 v hv]; simp
  unfold F_w36_TraceWaves
  have a1 : m.1.2.1.length ≤ 8796093021952 := a1
  have a2 : m.1.2.2.1.length ≤ 8796093021952 := a2
  have a3 : m.1.2.2.2.length ≤ 17592186043904 := a3
  rw [show (fits 0 (len m.1.2.1) 8796093022208) = true by simp; omega, show (fits 0 (len m.1.2.2.1) 8796093022208) = true by simp; omega, show (fits 0 (len m.1.2.2.2) 17592186044416) = true by simp; omega]
  rw [show (30 : Int) = ((30 : Nat) : Int) from rfl, show (66 : Int) = ((66 : Nat) : Int) from rfl]
  simp only [mn_rg, mn_take, few_eq, br_def, if_true, ob_some]
  have sm : ((m.1.1, (m.1.2.1.take 30, (m.1.2.2.1.take 30, m.1.2.2.2.take 30))), (m.2.1.take 40, (m.2.2.1.take 40, m.2.2.2.take 40))) = x := rfl
  simp only [sm, e1, e2, ob_some, eq_def, decide_true, if_true]
  rw [show F_r19_Same ((wave x (t.take 66)).1.1, ((wave x (t.take 66)).1.2.1, (wave x (t.take 66)).1.2.2)) ((wave x (t.take 66)).1.1, ((wave x (t.take 66)).1.2.1, (wave x (t.take 66)).1.2.2)) = some true from e3]
  rfl
end Go.Proofs.YtkcmacdakgohcaaDoor
