/- Plain laws: the text of a pattern. -/

import Derived.Test.YtkcmacdakgohcaaDoorL36f
set_option linter.unusedVariables false
set_option linter.unusedSimpArgs false
set_option linter.unusedSectionVars false
open Go Go.AM Go.TM
namespace Go.Proofs.YtkcmacdakgohcaaDoor
def chI (v : Int) : Int := if v = 0 then 48 else if v = 1 then 49 else 120
def chB (v : Int) : UInt8 := if v = 0 then 48 else if v = 1 then 49 else 120
def rowI (r : LI) : LI := r.map chI ++ [10]
def rowT (r : LI) : Str := r.map chB ++ [10]
def txtI (p : LLI) : LI := p.flatMap rowI
def txt (p : LLI) : Str := p.flatMap rowT
def rowE (r : LI) : Option Unit := r.findSome? hi3
def fmt (p : LLI) : Str × Int := if 64 < (p.length : Int) then ([], 5) else (p.findSome? rowE).elim (txt p, 0) fun _ => ([], 3)
theorem rowE_none {r : LI} (h : rowE r = none) (h0 : ∀ v ∈ r, 0 ≤ v) : ∀ v ∈ r, T3 v := fun v hv => by
 have := List.findSome?_eq_none_iff.1 h v hv
 unfold hi3 at this
 split at this
 ·cases this
 ·exact ⟨h0 v hv, by omega⟩
theorem ch_rd {v : Int} (h : T3 v) : byt (rd ([48, 49, 120] : Str) (tn v) 0) = chI v ∧ ix v (ni (len ([48, 49, 120] : Str))) = true := by
 rcases h.cases with rfl | rfl | rfl <;> exact ⟨rfl, rfl⟩
theorem isb_app (a b : LI) : isb (a ++ b) = (isb a && isb b) := List.all_append
theorem bstr_app (a b : LI) : bstr (a ++ b) = bstr a ++ bstr b := List.map_append
theorem rowI_bytes (r : LI) : isb (rowI r) = true ∧ bstr (rowI r) = rowT r := by
 have h : ∀ r : LI, isb (r.map chI) = true ∧ bstr (r.map chI) = r.map chB := by
  intro r
  induction r with
  | nil => exact ⟨rfl, rfl⟩
  | cons v r ih =>
   have e : isb [chI v] = true ∧ bstr [chI v] = [chB v] := by
    unfold chI chB
    split
    ·exact ⟨by decide, by decide⟩
    split
    ·exact ⟨by decide, by decide⟩
    ·exact ⟨by decide, by decide⟩
   exact ⟨by rw [List.map_cons, ← List.singleton_append, isb_app, e.1, ih.1]; rfl, by rw [List.map_cons, ← List.singleton_append, bstr_app, e.2, ih.2]; rfl⟩
 unfold rowI rowT
 exact ⟨by rw [isb_app, (h r).1]; rfl, by rw [bstr_app, (h r).2]; rfl⟩
theorem txtI_bytes (p : LLI) : isb (txtI p) = true ∧ bstr (txtI p) = txt p := by
 induction p with
 | nil => exact ⟨rfl, rfl⟩
 | cons r p ih =>
  unfold txtI txt at *
  rw [List.flatMap_cons, List.flatMap_cons]
  exact ⟨by rw [isb_app, (rowI_bytes r).1, ih.1]; rfl, by rw [bstr_app, (rowI_bytes r).2, ih.2]⟩
theorem txt_len {p : LLI} (h : ∀ r ∈ p, r.length ≤ 4000) : (txtI p).length ≤ p.length * 4001 := by
 induction p with
 | nil => simp [txtI]
 | cons r p ih =>
  have := ih fun r hr => h r (List.mem_cons_of_mem _ hr)
  have h1 := h r (List.mem_cons_self ..)
  unfold txtI at *
  rw [List.flatMap_cons, List.length_append, List.length_cons, Nat.add_mul]
  simp only [rowI, List.length_append, List.length_map, List.length_singleton]
  omega
theorem format_prog {p : LLI} (hn : p.length ≤ 400) (h2 : ∀ r ∈ p, r.length ≤ 4000) (h0 : ∀ r ∈ p, ∀ v ∈ r, 0 ≤ v) : F_trace_Format p = some (fmt p) := by
 unfold F_trace_Format fmt
 simp only [br_def, lt_def, ni_def, len_def, decide_eq_true_eq]
 by_cases hl : 64 < (p.length : Int)
 ·rw [if_pos hl, if_pos hl]
 rw [if_neg hl, if_neg hl]
 have inner : ∀ (i : Nat) (hi : i < p.length) x, iterS (F_trace_Format_l1 p ((i : Int), x)) (0, ()) = some ((rowE p[i]).elim (.inl ((p[i].length : Int), ())) fun _ => .inr (.inr (.inr ([], 3)))) := fun i hi x => by
  have hr := h2 _ (List.getElem_mem hi)
  exact iterS_find (f := F_trace_Format_l1 p ((i : Int), x)) p[i] (fun j => ((j : Int), ())) hi3 (.inl ((p[i].length : Int), ())) (fun _ => .inr (.inr (.inr ([], 3))))
   (fun j hj => by
    have hle : le 0 (j : Int) = true := by simp
    simp only [F_trace_Format_l1, F_trace_wrong, hle]
    simp (disch := omega) [rd_lt hi, rd_lt hj, hi, hj, wr64, hi3]
    by_cases e : 2 < p[i][j] <;> simp [e])
   (by simp [F_trace_Format_l1, hi])
 have bytes : ∀ (i : Nat) (hi : i < p.length), (∀ v ∈ p[i], T3 v) → ∀ (b : Bool) (o : LI), o.length ≤ 2000000 → ∀ x y4, iterS (F_trace_Format_l3 p ((i : Int), x) y4) (0, (b, (o, ()))) = some (.inl ((p[i].length : Int), ((if p[i].length = 0 then b else false), (o ++ p[i].map chI, ())))) := fun i hi hT b o ho x y4 => by
  have hr := h2 _ (List.getElem_mem hi)
  have := iterS_upto (f := F_trace_Format_l3 p ((i : Int), x) y4) (fun j => ((j : Int), ((if j = 0 then b else false), (o ++ (p[i].take j).map chI, ())))) p[i].length (r := .inl ((p[i].length : Int), ((if p[i].length = 0 then b else false), (o ++ p[i].map chI, ()))))
   (fun j hj => by
    obtain ⟨c1, c2⟩ := ch_rd (hT _ (List.getElem_mem hj))
    have e : (p[i].take (j + 1)).map chI = (p[i].take j).map chI ++ [chI p[i][j]] := by rw [← List.take_append_getElem hj, List.map_append]; rfl
    have hlen : (o ++ (p[i].take j).map chI).length ≤ 3000000 := by simp; omega
    simp only [F_trace_Format_l3, rd_lt hi, tn_nat, rd_lt hj, c1, c2, cc_eq, e]
    simp only [br_def, lt_def, ni_def, len_def, ix_def, decide_eq_true_eq, fits_def, ad_def, app_def, List.length_singleton, if_true]
    rw [if_pos (by omega), if_pos (by omega), if_pos (by omega), wr64 (by omega) (by omega), if_neg (show ¬ (j + 1 = 0) by omega), List.append_assoc]; rfl)
   (by simp [F_trace_Format_l3, hi])
  simpa using this
 have outer := iterS_findF (f := F_trace_Format_l0 p) p (fun i (o : LI) => ((i : Int), (decide (i = 0), (o, ())))) rowE (fun o r => o ++ rowI r) (fun o => .inl ((p.length : Int), (decide (p.length = 0), (o, ())))) (fun _ => .inr ([], 3)) (fun i o => o.length ≤ i * 4001)
  (fun i o hi ho => by
   have hr := h2 _ (List.getElem_mem hi)
   refine ⟨fun hb => ⟨?_, by simp only [rowI, List.length_append, List.length_map, List.length_singleton, Nat.add_mul]; omega⟩, fun r hb => ?_⟩
   ·have hT := rowE_none hb (h0 _ (List.getElem_mem hi))
    have hmul : i * 4001 ≤ 400 * 4001 := Nat.mul_le_mul (by omega) (by omega)
    have hlen : (o ++ p[i].map chI).length ≤ 3000000 := by simp; omega
    simp only [F_trace_Format_l0, inner i hi, hb, Option.elim_none]
    rw [oj_inl, bytes i hi hT _ o (by omega), oj_inl, cc_eq]
    simp only [br_def, lt_def, ni_def, len_def, ix_def, decide_eq_true_eq, fits_def, ad_def, app_def, List.length_singleton]
    rw [if_pos (by omega), if_pos (by omega), if_pos (by omega), wr64 (by omega) (by omega), List.append_assoc]
    rfl
   ·simp only [F_trace_Format_l0, inner i hi, hb, Option.elim_some]
    rw [oj_inr]
    simp only [br_def, lt_def, ni_def, len_def, ix_def, decide_eq_true_eq]
    rw [if_pos (by omega), if_pos (by omega)])
  (fun o _ => by simp [F_trace_Format_l0]) (b := []) (by simp)
 rw [show ((0 : Int), (true, (([] : LI), ()))) = ((((0 : Nat) : Int)), (decide ((0 : Nat) = 0), ([], ()))) from rfl, outer]
 cases e : p.findSome? rowE with
 | some _ => rfl
 | none =>
  have hf : ∀ (l : LLI) (o : LI), l.foldl (fun o r => o ++ rowI r) o = o ++ txtI l := by
   intro l
   induction l with
   | nil => intro o; simp [txtI]
   | cons r l ih => intro o; simp only [List.foldl_cons, ih, txtI, List.flatMap_cons, List.append_assoc]
  obtain ⟨b1, b2⟩ := txtI_bytes p
  have b3 := txt_len h2
  have hmul : p.length * 4001 ≤ 400 * 4001 := Nat.mul_le_mul hn (by omega)
  simp only [Option.elim_none]
  rw [oj_inl, hf, List.nil_append, b1, b2]
  simp only [eq_def, fits_def, decide_eq_true_eq, if_true]
  rw [if_pos (by omega)]
end Go.Proofs.YtkcmacdakgohcaaDoor
