/- Plain laws of the chapter's functions. -/

import Derived.Test.YtkcmacdakgohcaaDoorD36
import Derived.Test.YtkcmacdakgohcaaDoorPl
set_option linter.unusedVariables false
set_option linter.unusedSimpArgs false
set_option linter.unusedSectionVars false
open Go Go.AM Go.TM
namespace Go.Proofs.YtkcmacdakgohcaaDoor
theorem find_ne {α : Type} [DecidableEq α] {a b : List α} (h : a.length = b.length) {R : Type} (r : R) :
  (List.range a.length).findSome? (fun i => if a[i]? = b[i]? then none else some r) = if a = b then none else some r := by
 split
 ·rename_i e; subst e
  simp
 ·rename_i e
  cases hf : (List.range a.length).findSome? (fun i => if a[i]? = b[i]? then none else some r) with
  | none =>
   refine absurd (List.ext_getElem? fun i => ?_) e
   rw [List.findSome?_eq_none_iff] at hf
   by_cases hi : i < a.length
   ·have := hf i (by simpa using hi)
    by_cases q : a[i]? = b[i]?
    ·exact q
    ·simp [q] at this
   ·rw [List.getElem?_eq_none (by omega), List.getElem?_eq_none (by omega)]
  | some x =>
   obtain ⟨l1, i, l2, -, h2, -⟩ := List.findSome?_eq_some_iff.1 hf
   split at h2
   ·cases h2
   ·cases h2; rfl
theorem F_r36_Same_eq (a b : LLI) (h : a.length ≤ 140737488355328) (h2 : ∀ r ∈ a, r.length ≤ 140737488355328) : F_r36_Same a b = some (decide (a = b)) := by
 unfold F_r36_Same
 simp only [br_def, ne_def, ni_def, len_def, decide_eq_true_eq]
 split
 ·rename_i hne
  rw [decide_eq_false (by intro e; subst e; exact hne rfl)]
 ·rename_i hne
  have hlen : a.length = b.length := by omega
  have inner : ∀ (i : Nat) (hi : i < a.length) (hb : i < b.length), a[i].length = b[i].length →
    iterS (F_r36_Same_l1 a b (((i : Int), ()))) (0, ()) = some ((if a[i] = b[i] then none else some ()).elim (.inl ((a[i].length : Int), ())) fun _ => .inr (.inr (.inr false))) := by
   intro i hi hb hl
   have hr := h2 a[i] (List.getElem_mem hi)
   have := iterS_findR (f := F_r36_Same_l1 a b ((i : Int), ())) a[i].length (fun j => ((j : Int), ())) (fun j => if a[i][j]? = b[i][j]? then none else some ()) (.inl ((a[i].length : Int), ())) (fun _ => .inr (.inr (.inr false)))
    (fun j hj => by
     have hj' : j < b[i].length := by omega
     simp (disch := omega) [F_r36_Same_l1, br_def, lt_def, ni_def, len_def, ix_def, tn_nat, rd_lt hi, rd_lt hb, rd_lt hj, rd_lt hj', fits_def, app_def, ad_def, wr64, hi, hb, hj, hj', ne_def, inR_some', -Int.natCast_add, List.getElem?_eq_getElem hj, List.getElem?_eq_getElem hj']
     by_cases e : a[i][j] = b[i][j] <;> simp [e])
    (by simp [F_r36_Same_l1, br_def, lt_def, ni_def, len_def, ix_def, tn_nat, rd_lt hi, rd_lt hb, hi, hb])
   rw [find_ne hl] at this
   exact this
  have outer := iterS_findR (f := F_r36_Same_l0 a b) a.length (fun i => ((i : Int), ())) (fun i => if a[i]? = b[i]? then none else some ()) (.inl ((a.length : Int), ())) (fun _ => .inr false)
   (fun i hi => by
    have hb : i < b.length := by omega
    simp (disch := omega) only [F_r36_Same_l0, br_def, lt_def, ni_def, len_def, ix_def, tn_nat, rd_lt hi, rd_lt hb, ad_def, ne_def, inR_some', decide_eq_true_eq, List.getElem?_eq_getElem hi, List.getElem?_eq_getElem hb]
    rw [if_pos (by omega), if_pos (by omega), if_pos (by omega)]
    by_cases hl : a[i].length = b[i].length
    ·rw [if_neg (by omega), inner i hi hb hl]
     by_cases e : a[i] = b[i]
     ·simp (disch := omega) [e, oj_inl, wr64]
     ·simp [e, oj_inr]
    ·rw [if_pos (by omega)]
     have : a[i] ≠ b[i] := fun e => hl (by rw [e])
     simp [this])
   (by simp [F_r36_Same_l0, br_def, lt_def, ni_def, len_def])
  rw [find_ne hlen] at outer
  rw [show ((0 : Int), ()) = (((0 : Nat) : Int), ()) from rfl, outer]
  by_cases e : a = b
  ·simp [e, oj_inl]
  ·simp [e, oj_inr]
end Go.Proofs.YtkcmacdakgohcaaDoor
