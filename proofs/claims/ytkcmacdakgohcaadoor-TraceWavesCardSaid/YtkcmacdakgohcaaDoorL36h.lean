/- Plain laws: waveforms. -/
import Derived.Test.YtkcmacdakgohcaaDoorL36g
import Derived.Test.YtkcmacdakgohcaaDoorL36f
set_option linter.unusedVariables false
set_option linter.unusedSimpArgs false
set_option linter.unusedSectionVars false
open Go Go.AM Go.TM
namespace Go.Proofs.YtkcmacdakgohcaaDoor
abbrev TVar : Type := LStr × (Str × Int)
abbrev TChg : Type := Int × (Int × Str)
abbrev TWave : Type := Str × (List TVar × List TChg)
abbrev TMach : Type := TAig × (LStr × (LStr × LStr))
/-! Comparing -/
theorem texts_refl (a : LStr) (h : a.length ≤ 9000000000000) : F_r19_EqTexts a a = some true := by
  have l := iterS_upto (f := F_r19_EqTexts_l0 a a) (fun i => ((i : Int), ())) a.length (r := .inl ((a.length : Int), ()))
    (fun i hi => by simp (disch := omega) [F_r19_EqTexts_l0, rd_lt hi, hi, wr64, sq])
    (by simp [F_r19_EqTexts_l0])
  unfold F_r19_EqTexts
  simp only [br_def, ne_def, ni_def, len_def, decide_eq_true_eq]
  rw [if_neg (by omega), show ((0 : Int), ()) = (((0 : Nat) : Int), ()) from rfl, l, oj_inl]
theorem var_refl (a : TVar) (h : a.1.length ≤ 9000000000000) : F_r19_sameVar a a = some true := by
  unfold F_r19_sameVar
  rw [texts_refl a.1 h]
  simp [sq]
theorem same_refl (w : TWave) (h1 : w.2.1.length ≤ 9000000000000) (h2 : w.2.2.length ≤ 9000000000000) (h3 : ∀ v ∈ w.2.1, v.1.length ≤ 9000000000000) : F_r19_Same w w = some true := by
  have lv := iterS_upto (f := F_r19_sameVars_l0 w w) (fun i => ((i : Int), ())) w.2.1.length (r := .inl ((w.2.1.length : Int), ()))
    (fun i hi => by
      have e : F_r19_sameVar (w.2.1[i].1, (w.2.1[i].2.1, w.2.1[i].2.2)) (w.2.1[i].1, (w.2.1[i].2.1, w.2.1[i].2.2)) = some true := var_refl w.2.1[i] (h3 _ (List.getElem_mem hi))
      simp (disch := omega) only [F_r19_sameVars_l0, br_def, lt_def, ni_def, len_def, ix_def, tn_nat, rd_lt hi, decide_eq_true_eq, ne_def, e, ob_some, nt_def, ad_def, wr64]
      rw [if_pos (by omega), if_pos (by omega), if_pos (by omega), if_neg (by omega), if_pos (by omega), if_pos (by omega)]; rfl)
    (by simp [F_r19_sameVars_l0])
  have lc := iterS_upto (f := F_r19_Same_l0 w w true) (fun i => ((i : Int), ())) w.2.2.length (r := .inl ((w.2.2.length : Int), ()))
    (fun i hi => by simp (disch := omega) [F_r19_Same_l0, rd_lt hi, hi, wr64, sq])
    (by simp [F_r19_Same_l0])
  have ev : F_r19_sameVars w w = some true := by
    unfold F_r19_sameVars
    simp only [br_def, nt_def, ne_def, ni_def, len_def, sq, decide_true, decide_eq_true_eq]
    rw [if_neg (by simp), if_neg (by omega), show ((0 : Int), ()) = (((0 : Nat) : Int), ()) from rfl, lv, oj_inl]
  unfold F_r19_Same
  rw [show F_r19_sameVars (w.1, (w.2.1, w.2.2)) (w.1, (w.2.1, w.2.2)) = some true from ev, ob_some]
  simp only [br_def, nt_def, ne_def, ni_def, len_def, decide_eq_true_eq]
  rw [if_neg (by simp), if_neg (by omega), show ((0 : Int), ()) = (((0 : Nat) : Int), ()) from rfl, lc, oj_inl]
/-! Concatenations -/
theorem F_slices_Concat_bool_bool_eq (a : LLB) (h : a.length ≤ 140737488355328) (h2 : a.flatten.length ≤ 140737488355328) : F_slices_Concat_bool_bool a = some a.flatten := by
  have l0 := iterS_upto (f := F_slices_Concat_bool_bool_l0 a) (fun i => ((i : Int), ((a.take i).flatten.length : Int), ())) a.length (r := .inl ((a.length : Int), (a.flatten.length : Int), ()))
    (fun i hi => by
      have e := flat_take a i hi
      have e2 := flat_le a (i + 1)
      have e3 := congrArg List.length e
      rw [List.length_append] at e3
      simp only [F_slices_Concat_bool_bool_l0, br_def, lt_def, ni_def, len_def, ix_def, tn_nat, rd_lt hi, decide_eq_true_eq, ad_def]
      rw [if_pos (by omega), if_pos (by omega), wr64 (by omega) (by omega), if_neg (by omega), wr64 (by omega) (by omega), e3]; rfl)
    (by simp [F_slices_Concat_bool_bool_l0])
  have l1 : ∀ y0, iterS (F_slices_Concat_bool_bool_l1 a y0) (0, ([], ())) = some (.inl ((a.length : Int), a.flatten, ())) := fun y0 => by
    have := iterS_upto (f := F_slices_Concat_bool_bool_l1 a y0) (fun i => ((i : Int), (a.take i).flatten, ())) a.length (r := .inl ((a.length : Int), a.flatten, ()))
      (fun i hi => by
        have e := flat_take a i hi
        have e2 := flat_le a (i + 1)
        have e3 := congrArg List.length e
        rw [List.length_append] at e3
        simp only [F_slices_Concat_bool_bool_l1, br_def, lt_def, ni_def, len_def, ix_def, tn_nat, rd_lt hi, decide_eq_true_eq, ad_def, fits_def, app_def]
        rw [if_pos (by omega), if_pos (by omega), if_pos (by omega), wr64 (by omega) (by omega), e]; rfl)
      (by simp [F_slices_Concat_bool_bool_l1])
    simpa using this
  have l2 : ∀ y0, iterS (F_slices_Concat_bool_bool_l2 a y0) (0, ([], ())) = some (.inl ((a.length : Int), a.flatten, ())) := l1
  unfold F_slices_Concat_bool_bool
  rw [show ((0 : Int), ((0 : Int), ())) = (((0 : Nat) : Int), ((a.take 0).flatten.length : Int), ()) by simp, l0, oj_inl]
  simp only [br_def, lt_def, sb_def, ni_def, len_def, rept_def, cut_def, rg_def, fits_def, decide_eq_true_eq]
  rw [if_neg (by omega), show wr .i64 (0 - ((0 : Nat) : Int)) = 0 from wr64 (by decide) (by decide), wr64 (by omega) (by omega)]
  by_cases h0 : a.flatten.length = 0
  · rw [if_neg (by omega), l2]
  · have e : tn ((a.flatten.length : Int) - 0) = a.flatten.length := by
      show Int.toNat _ = _
      omega
    rw [if_pos (by omega), if_pos (by omega), e, if_pos (by omega), if_pos (by simp)]
    rw [show tn (((0 : Nat) : Int)) = 0 from rfl, List.take_zero, l1]
theorem F_slices_Concat_string_string_eq (a : List LStr) (h : a.length ≤ 140737488355328) (h2 : a.flatten.length ≤ 8796093022208) : F_slices_Concat_string_string a = some a.flatten := by
  have l0 := iterS_upto (f := F_slices_Concat_string_string_l0 a) (fun i => ((i : Int), ((a.take i).flatten.length : Int), ())) a.length (r := .inl ((a.length : Int), (a.flatten.length : Int), ()))
    (fun i hi => by
      have e := flat_take a i hi
      have e2 := flat_le a (i + 1)
      have e3 := congrArg List.length e
      rw [List.length_append] at e3
      simp only [F_slices_Concat_string_string_l0, br_def, lt_def, ni_def, len_def, ix_def, tn_nat, rd_lt hi, decide_eq_true_eq, ad_def]
      rw [if_pos (by omega), if_pos (by omega), wr64 (by omega) (by omega), if_neg (by omega), wr64 (by omega) (by omega), e3]; rfl)
    (by simp [F_slices_Concat_string_string_l0])
  have l1 : ∀ y0, iterS (F_slices_Concat_string_string_l1 a y0) (0, ([], ())) = some (.inl ((a.length : Int), a.flatten, ())) := fun y0 => by
    have := iterS_upto (f := F_slices_Concat_string_string_l1 a y0) (fun i => ((i : Int), (a.take i).flatten, ())) a.length (r := .inl ((a.length : Int), a.flatten, ()))
      (fun i hi => by
        have e := flat_take a i hi
        have e2 := flat_le a (i + 1)
        have e3 := congrArg List.length e
        rw [List.length_append] at e3
        simp only [F_slices_Concat_string_string_l1, br_def, lt_def, ni_def, len_def, ix_def, tn_nat, rd_lt hi, decide_eq_true_eq, ad_def, fits_def, app_def]
        rw [if_pos (by omega), if_pos (by omega), if_pos (by omega), wr64 (by omega) (by omega), e]; rfl)
      (by simp [F_slices_Concat_string_string_l1])
    simpa using this
  have l2 : ∀ y0, iterS (F_slices_Concat_string_string_l2 a y0) (0, ([], ())) = some (.inl ((a.length : Int), a.flatten, ())) := l1
  unfold F_slices_Concat_string_string
  rw [show ((0 : Int), ((0 : Int), ())) = (((0 : Nat) : Int), ((a.take 0).flatten.length : Int), ()) by simp, l0, oj_inl]
  simp only [br_def, lt_def, sb_def, ni_def, len_def, rept_def, cut_def, rg_def, fits_def, decide_eq_true_eq]
  rw [if_neg (by omega), show wr .i64 (0 - ((0 : Nat) : Int)) = 0 from wr64 (by decide) (by decide), wr64 (by omega) (by omega)]
  by_cases h0 : a.flatten.length = 0
  · rw [if_neg (by omega), l2]
  · have e : tn ((a.flatten.length : Int) - 0) = a.flatten.length := by
      show Int.toNat _ = _
      omega
    rw [if_pos (by omega), if_pos (by omega), e, if_pos (by omega), if_pos (by simp)]
    rw [show tn (((0 : Nat) : Int)) = 0 from rfl, List.take_zero, l1]
/-! Changes -/
def cs (v : Bool) : Str := if v = true then [49] else [48]
theorem cs_inj {a b : Bool} : cs a = cs b ↔ a = b := by cases a <;> cases b <;> simp [cs]
theorem cs_ne (a : Bool) : cs a ≠ [] := by cases a <;> simp [cs]
/-- Has the value at a place changed? -/
def chg (k : Nat) (was now : LB) (i : Nat) : Bool := decide (k = 0) || now.getD i false != was.getD i false
def chgI (k : Nat) (was now : LB) (i : Nat) : Option TChg := if chg k was now i = true then some ((k : Int), ((i : Int), cs (now.getD i false))) else none
def chgs (k : Nat) (was now : LB) (n : Nat) : List TChg := (List.range n).filterMap (chgI k was now)
theorem chgs_succ (k : Nat) (was now : LB) (n : Nat) : chgs k was now (n + 1) = chgs k was now n ++ (if chg k was now n = true then [((k : Int), ((n : Int), cs (now.getD n false)))] else []) := by
  unfold chgs
  rw [List.range_succ, List.filterMap_append]
  congr 1
  simp only [List.filterMap_cons, List.filterMap_nil, chgI]
  split <;> rename_i h
  · split at h
    · cases h
    · rename_i q; rw [if_neg q]
  · split at h
    · rename_i q; rw [if_pos q]; cases h; rfl
    · cases h
theorem chgs_len (k : Nat) (was now : LB) (n : Nat) : (chgs k was now n).length ≤ n := by
  have := List.length_filterMap_le (chgI k was now) (List.range n)
  rw [List.length_range] at this
  exact this
theorem bit_cut (v : Bool) : rg (bit3 v) (wr .u8 (ad (bit3 v) 1)) (ni (len ([48, 49, 120] : Str))) = true ∧ cut ([48, 49, 120] : Str) (tn (bit3 v)) (nsub (tn (wr .u8 (ad (bit3 v) 1))) (tn (bit3 v))) = cs v := by
  cases v <;> exact ⟨by decide, by decide⟩
theorem row_prog {m : TMach} {t : LLB} {y0 y1 y2 y3} {k : Nat} {was now : LB} {ch : List TChg} (hw : k ≠ 0 → was.length = now.length) (hn : ch.length + now.length ≤ 4000000000000) :
    iterS (F_trace_Wave_l2 m t y0 y1 y2 y3 ((k : Int), (was, (ch, ()))) now) (0, (ch, ())) = some (.inl ((now.length : Int), (ch ++ chgs k was now now.length, ()))) := by
  have := iterS_upto (f := F_trace_Wave_l2 m t y0 y1 y2 y3 ((k : Int), (was, (ch, ()))) now) (fun i => ((i : Int), (ch ++ chgs k was now i, ()))) now.length (r := .inl ((now.length : Int), (ch ++ chgs k was now now.length, ())))
    (fun i hi => by
      obtain ⟨b1, b2⟩ := bit_cut now[i]
      have hl := chgs_len k was now i
      simp only [F_trace_Wave_l2, br_def, lt_def, rd_lt hi, F_trace_bit_eq, ob_some, b1, b2, if_true, app_def]
      simp only [ni_def, len_def, ix_def, tn_nat, decide_eq_true_eq, ad_def, bq_def, rd_lt hi, F_trace_bit_eq, ob_some, b1, b2, fits_def, List.length_append, List.length_singleton, if_true]
      rw [if_pos (by omega), if_pos (by omega), wr64 (by omega) (by omega), chgs_succ]
      have hf : List.length ch + (chgs k was now i).length + 1 ≤ 4398046511104 := by omega
      by_cases h0 : k = 0
      · subst h0
        rw [if_neg (by simp), if_pos hf, if_pos (by simp [chg])]
        simp [hi]
      · have hi' : i < was.length := by rw [hw h0]; exact hi
        rw [if_pos (by omega), if_pos (by omega)]
        simp only [rd_lt hi']
        by_cases e : now[i] = was[i]
        · rw [if_pos (by simp [e]), if_neg (by simp [chg, h0, hi, hi', e])]
          simp
        · rw [if_neg (by simpa using e), if_pos hf, if_pos (by simp [chg, h0, hi, hi', e])]
          simp [hi])
    (by simp [F_trace_Wave_l2])
  simpa [chgs] using this
theorem set_mid {α : Type} (a b : List α) (x : α) (i : Nat) (ha : a.length = i) (hb : i < (a ++ b).length) : (a ++ b).set i x = a ++ x :: b.tail := by
  cases b with
  | nil => simp at hb; omega
  | cons y b => rw [List.set_append_right _ _ (by omega), ha, Nat.sub_self]; rfl
theorem row_ref {m : TMach} {t : LLB} {y0 y1 y2} {k : Nat} {was now : LB} {ws : LStr} {ch : List TChg} (hnow : app (app (rd t (tn (k : Int)) []) (rd y1.2.1 (tn (k : Int)) [])) (rd y1.1 (tn (k : Int)) []) = now) (hws : ws.length = now.length)
    (hW : ∀ (i : Nat) (h : i < now.length) (h' : i < ws.length), cs now[i] = ws[i] ↔ chg k was now i = false) (hn : ch.length + now.length ≤ 4000000000000) :
    iterS (F_r36_Wave_l2 m t y0 y1 y2 ((k : Int), (ch, (ws, ())))) (0, (ch, (ws, ()))) = some (.inl ((now.length : Int), (ch ++ chgs k was now now.length, (now.map cs, ())))) := by
  have := iterS_upto (f := F_r36_Wave_l2 m t y0 y1 y2 ((k : Int), (ch, (ws, ())))) (fun i => ((i : Int), (ch ++ chgs k was now i, ((now.take i).map cs ++ ws.drop i, ())))) now.length (r := .inl ((now.length : Int), (ch ++ chgs k was now now.length, (now.map cs, ()))))
    (fun i hi => by
      have hl := chgs_len k was now i
      have hi' : i < ws.length := by omega
      have hlen : ((now.take i).map cs ++ ws.drop i).length = now.length := by simp; omega
      have hi2 : i < ((now.take i).map cs ++ ws.drop i).length := by omega
      have hget : ((now.take i).map cs ++ ws.drop i)[i] = ws[i] := by
        rw [List.getElem_append_right (by simp; omega)]
        simp [Nat.min_eq_left (Nat.le_of_lt hi)]
      have hset : ∀ x, ((now.take i).map cs ++ ws.drop i).set i x = (now.take i).map cs ++ x :: ws.drop (i + 1) := fun x => by
        rw [set_mid _ _ x i (by simp; omega) hi2, List.tail_drop]
      have hnext : (now.take i).map cs ++ cs now[i] :: ws.drop (i + 1) = (now.take (i + 1)).map cs ++ ws.drop (i + 1) := by
        rw [← List.take_append_getElem hi, List.map_append, List.append_assoc]; rfl
      have hw := hW i hi hi'
      simp only [F_r36_Wave_l2, hnow]
      simp only [br_def, lt_def, rd_lt hi, ni_def, len_def, ix_def, tn_nat, decide_eq_true_eq, ad_def, rd_lt hi2, hget, hlen, nt_def, sq, app_def, put_def, hset]
      rw [if_pos (by omega), if_pos (by omega), wr64 (by omega) (by omega), chgs_succ]
      simp only [fits_def, List.length_append, List.length_singleton, decide_eq_true_eq]
      have hf : List.length ch + (chgs k was now i).length + 1 ≤ 4398046511104 := by omega
      have hix : (0 : Int) ≤ i ∧ (i : Int) < (now.length : Int) := by omega
      rw [← hnext]
      simp only [hix, and_self, if_true, hf, getD_lt hi]
      cases hv : now[i] with
      | true =>
        rw [if_pos rfl]
        rw [hv] at hw
        by_cases q : chg k was now i = true
        · have : ¬ ([49] : Str) = ws[i] := fun e => by rw [hw.1 e] at q; cases q
          rw [if_pos q, if_pos (by simpa using this)]
          simp [cs]
        · have : ([49] : Str) = ws[i] := hw.2 (by simpa using q)
          rw [if_neg q, if_neg (by simpa using this)]
          simp [cs]
      | false =>
        rw [if_neg (by simp)]
        rw [hv] at hw
        by_cases q : chg k was now i = true
        · have : ¬ ([48] : Str) = ws[i] := fun e => by rw [hw.1 e] at q; cases q
          rw [if_pos q, if_pos (by simpa using this)]
          simp [cs]
        · have : ([48] : Str) = ws[i] := hw.2 (by simpa using q)
          rw [if_neg q, if_neg (by simpa using this)]
          simp [cs])
    (by
      simp only [F_r36_Wave_l2, hnow]
      simp only [br_def, lt_def, ni_def, len_def, decide_eq_true_eq]
      rw [if_neg (by omega), List.take_length, List.drop_of_length_le (by omega), List.append_nil])
  simpa [chgs] using this
end Go.Proofs.YtkcmacdakgohcaaDoor
