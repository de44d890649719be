/- The law VcdIds in plain Lean. -/

import Derived.Test.YtomnbibmflodlaaDoorD19
import Derived.Test.YtomnbibmflodlaaDoorL19a
set_option linter.unusedVariables false
set_option linter.unusedSimpArgs false
set_option linter.unusedSectionVars false
open Go Go.AM Go.TM Go.AM.Ids
namespace Go.Proofs.YtomnbibmflodlaaDoor
theorem id_loop (a0 : Int) : ∀ (n : Nat) (i : Int) (out : LI), i < idB n → -1 ≤ i ∨ i = a0 → i ≤ 9223372036854775807 → out.length + n ≤ 1000 → ∃ r, iterS (F_vcd_Id_l0 a0) (i, (out, ())) = some (.inl (r, (out ++ idF n i, ()))) := by
 intro n
 induction n with
 | zero =>
  intro i out h _ _ _
  refine ⟨i, iterS_inr ?_⟩
  have h : i < 0 := h
  unfold F_vcd_Id_l0 idF
  simp only [br_def, le_def, decide_eq_true_eq]
  rw [if_neg (by omega), List.append_nil]
 | succ n ih =>
  intro i out h h0 h1 h2
  simp only [idB] at h
  by_cases hi : i < 0
  ·refine ⟨i, iterS_inr ?_⟩
   unfold F_vcd_Id_l0 idF
   simp only [br_def, le_def, decide_eq_true_eq]
   rw [if_neg (by omega), if_pos hi, List.append_nil]
  ·have e94 : md i 94 = i % 94 := Int.tmod_eq_emod_of_nonneg (by omega)
   have d94 : dv i 94 = i / 94 := Int.tdiv_eq_ediv_of_nonneg (by omega)
   obtain ⟨r, hr⟩ := ih (i / 94 - 1) (out ++ [33 + i % 94]) (by omega) (by omega) (by omega) (by simp; omega)
   refine ⟨r, ?_⟩
   rw [iterS_inl (s' := (i / 94 - 1, (out ++ [33 + i % 94], ()))) (by
    unfold F_vcd_Id_l0
    simp only [br_def, le_def, decide_eq_true_eq, e94, d94, ad_def, sb_def, fits_def, app_def, len_def, List.length_singleton]
    rw [wr64 (n := 33 + i % 94) (by omega) (by omega), wr8 (by omega) (by omega), wr64 (n := i / 94) (by omega) (by omega), wr64 (by omega) (by omega), if_pos (by omega), if_pos (by omega)]), hr]
   rw [show idF (n + 1) i = (33 + i % 94) :: idF n (i / 94 - 1) by rw [idF, if_neg hi], List.append_assoc]
   rfl
def idS (i : Int) : Str := bstr (idF 10 i)
theorem id_eq (i : Int) (h : i ≤ 9223372036854775807) : F_vcd_Id i = some (idS i) := by
 obtain ⟨r, e⟩ := id_loop i 10 i [] (by have := idB10; omega) (.inr rfl) h (by simp)
 unfold F_vcd_Id
 rw [e, oj_inl, List.nil_append]
 have hb : isb (idF 10 i) = true := by
  rw [isb, List.all_eq_true]
  intro b hb
  have := idF_byte 10 i b hb
  exact decide_eq_true (by omega)
 show br (isb (idF 10 i)) (some (bstr (idF 10 i))) none = _
 rw [hb]; rfl
theorem byt_of {b : Int} (h : 33 ≤ b ∧ b ≤ 126) : byt (UInt8.ofNat b.toNat) = b := by
 show ((UInt8.ofNat b.toNat).toNat : Int) = b
 rw [UInt8.toNat_ofNat', Nat.mod_eq_of_lt (by omega)]; omega
theorem bstr_back : ∀ {l : LI}, (∀ b ∈ l, 33 ≤ b ∧ b ≤ 126) → (bstr l).map byt = l := by
 intro l h
 rw [bstr, List.map_map]
 exact (List.map_congr_left fun b hb => byt_of (h b hb)).trans (List.map_id l)
theorem idS_len (i : Int) : (idS i).length ≤ 10 := by
 unfold idS bstr
 rw [List.length_map]; exact idF_len 10 i
theorem ids_main (a b : Int) (h1 : -9223372036854775808 ≤ a ∧ a ≤ 9223372036854775807) (h2 : -9223372036854775808 ≤ b ∧ b ≤ 9223372036854775807) : F_w19_VcdIds a b = some true := by
 have ha := idS_len a
 have hby : ∀ i : Int, ∀ c ∈ idF 10 i, 33 ≤ c ∧ c ≤ 126 := fun i => idF_byte 10 i
 have loop := iterS_upto (f := F_w19_VcdIds_l0 a b (idS a) (idS b)) (fun i => ((i : Int), ())) (idS a).length (r := .inl (((idS a).length : Int), ()))
  (fun i hi => by
   have hi' : i < (idF 10 a).length := by unfold idS bstr at hi; rwa [List.length_map] at hi
   have e : byt (idS a)[i] = (idF 10 a)[i] := by
    have q : (idS a)[i] = UInt8.ofNat ((idF 10 a)[i]).toNat := List.getElem_map _
    rw [q]
    exact byt_of (hby a _ (List.getElem_mem hi'))
   have hb := hby a _ (List.getElem_mem hi')
   unfold F_w19_VcdIds_l0
   simp only [tn_nat, rd_lt hi, e]
   simp only [br_def, lt_def, ix_def, ni_def, len_def, decide_eq_true_eq, ad_def]
   rw [if_pos (by omega), if_pos (by omega), if_neg (by omega), if_pos (by omega), if_neg (by omega), wr64 (by omega) (by omega)]
   rfl)
  (by unfold F_w19_VcdIds_l0; simp only [br_def, lt_def, ni_def, len_def, decide_eq_true_eq]; rw [if_neg (by omega)])
 have inj : ∀ i j : Int, idS i = idS j → idF 10 i = idF 10 j := fun i j h => by
  have := congrArg (List.map byt) h
  unfold idS at this
  rwa [bstr_back (hby i), bstr_back (hby j)] at this
 have q1 : sq (idS a) [] = lt a 0 := by
  rw [lt_def]
  refine decide_eq_decide.2 ⟨fun h => ?_, fun h => ?_⟩
  ·refine (idF_nil (n := 9)).1 ?_
   have := congrArg List.length h
   unfold idS bstr at this
   rw [List.length_map] at this
   exact List.eq_nil_of_length_eq_zero this
  ·show bstr (idF 10 a) = []
   rw [(idF_nil (n := 9)).2 h]; rfl
 have q2 : le (ni (len (idS a))) 10 = true := by simp only [le_def, ni_def, len_def, decide_eq_true_eq]; omega
 unfold F_w19_VcdIds
 rw [id_eq a h1.2, ob_some, id_eq b h2.2, ob_some, show ((0 : Int), ()) = (((0 : Nat) : Int), ()) from rfl, loop, oj_inl, q1]
 simp only [q2, ob_some, F_w19_awake, br_def, bq_def, lt_def, eq_def, if_true]
 by_cases n1 : a < 0
 ·simp [n1]
 by_cases n2 : b < 0
 ·simp [n1, n2]
 have q3 : decide (idS a = idS b) = decide (a = b) := by
  refine decide_eq_decide.2 ⟨fun h => ?_, fun h => by rw [h]⟩
  have := idB10
  exact idF_inj 10 a b (by omega) (by omega) (by omega) (by omega) (inj a b h)
 simp [n1, n2, sq, q3]
theorem ids_law (x : Tys [.int .i64, .int .i64]) (h : WfTs [.int .i64, .int .i64] x) : F_w19_VcdIds x.1 x.2 = some true := by
 obtain ⟨a, b⟩ := x
 obtain ⟨h1, h2⟩ := h
 exact ids_main a b (by simpa [WfT, IntKind.min, IntKind.max, IntKind.signed, IntKind.bits] using h1) (by simpa [WfTs, WfT, IntKind.min, IntKind.max, IntKind.signed, IntKind.bits] using h2)
end Go.Proofs.YtomnbibmflodlaaDoor
