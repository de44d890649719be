/- Plain laws: a pattern's text and the pattern of a text. -/

import Derived.Test.YtkcmacdakgohcaaDoorL36l
set_option linter.unusedVariables false
set_option linter.unusedSimpArgs false
set_option linter.unusedSectionVars false
open Go Go.AM Go.TM
namespace Go.Proofs.YtkcmacdakgohcaaDoor
theorem chB_good {v : Int} : goodN (chB v).toNat = true ∧ (chB v).toNat ≠ 10 := by
 unfold chB
 split
 ·exact ⟨by decide, by decide⟩
 split
 ·exact ⟨by decide, by decide⟩
 ·exact ⟨by decide, by decide⟩
theorem val_ch {v : Int} (h : T3 v) : val3 (chB v).toNat = v := by
 rcases h.cases with rfl | rfl | rfl <;> rfl
theorem ch_val {c : UInt8} (h : goodN c.toNat = true) (h2 : c.toNat ≠ 10) : chB (val3 c.toNat) = c := by
 apply UInt8.toNat_inj.1
 rcases good_cases h with e | e | e | e
 ·rw [e]; rfl
 ·rw [e]; rfl
 ·rw [e]; rfl
 ·exact absurd e h2
theorem val3_T (n : Nat) : T3 (val3 n) := by unfold val3 T3; split <;> (try split) <;> omega
theorem txt_cons (r : LI) (p : LLI) : txt (r :: p) = r.map chB ++ 10 :: txt p := by
 unfold txt
 rw [List.flatMap_cons, rowT, List.append_assoc]; rfl
theorem rows_txt : ∀ (p : LLI), (∀ r ∈ p, ∀ v ∈ r, T3 v) → rows (txt p) [] = p := by
 intro p
 induction p with
 | nil => intro _; rfl
 | cons r p ih =>
  intro h
  rw [txt_cons, rows_line _ (fun c hc => by obtain ⟨v, -, rfl⟩ := List.mem_map.1 hc; exact chB_good.2), ih fun r hr => h r (List.mem_cons_of_mem _ hr)]
  congr 1
  rw [List.nil_append, List.map_map]
  conv => rhs; rw [← List.map_id r]
  exact List.map_congr_left fun v hv => val_ch (h r (List.mem_cons_self ..) v hv)
theorem txt_good (p : LLI) : ∀ c ∈ txt p, goodN c.toNat = true := by
 induction p with
 | nil => intro c hc; cases hc
 | cons r p ih =>
  intro c hc
  rw [txt_cons] at hc
  rcases List.mem_append.1 hc with hc | hc
  ·obtain ⟨v, -, rfl⟩ := List.mem_map.1 hc; exact chB_good.1
  ·rcases List.mem_cons.1 hc with rfl | hc
   ·rfl
   ·exact ih c hc
theorem txt_ends : ∀ p : LLI, endsN (txt p) := by
 intro p
 induction p with
 | nil => exact .inl rfl
 | cons r p ih =>
  right
  rw [txt_cons]
  rcases ih with e | ⟨l, e⟩
  ·exact ⟨r.map chB, by rw [e]⟩
  ·exact ⟨r.map chB ++ 10 :: l, by rw [e]; simp⟩
theorem bad_none {s : Str} (h : ∀ c ∈ s, goodN c.toNat = true) : (List.range s.length).findSome? (badI s) = none := by
 rw [List.findSome?_eq_none_iff]
 intro i hi
 have hi' : i < s.length := by simpa using hi
 unfold badI
 rw [getD_lt hi', if_pos (h _ (List.getElem_mem hi'))]
theorem txt_lenT {B : Nat} {p : LLI} (h : ∀ r ∈ p, r.length ≤ B) : (txt p).length ≤ p.length * (B + 1) := by
 induction p with
 | nil => simp [txt]
 | cons r p ih =>
  have := ih fun r hr => h r (List.mem_cons_of_mem _ hr)
  have h1 := h r (List.mem_cons_self ..)
  rw [txt_cons, List.length_append, List.length_cons, List.length_map, List.length_cons, Nat.succ_mul]
  omega
theorem prs_txt {p : LLI} (hn : p.length ≤ 64) (h2 : ∀ r ∈ p, r.length ≤ 900) (hT : ∀ r ∈ p, ∀ v ∈ r, T3 v) : prs (txt p) = (p, (0, 0)) := by
 have hlen := txt_lenT h2
 have hmul : p.length * (900 + 1) ≤ 64 * (900 + 1) := Nat.mul_le_mul hn (Nat.le_refl _)
 unfold prs
 have hends : ¬ (txt p ≠ [] ∧ (txt p).getD ((txt p).length - 1) 0 ≠ 10) := fun ⟨h1, h3⟩ => h3 ((ends_iff h1).1 (txt_ends p))
 rw [if_neg (by omega), bad_none (txt_good p), Option.elim_none, rows_txt p hT, if_neg hends, if_neg (by omega)]
theorem fmt_ok {p : LLI} (hn : p.length ≤ 64) (hT : ∀ r ∈ p, ∀ v ∈ r, T3 v) : fmt p = (txt p, 0) := by
 unfold fmt
 rw [if_neg (by omega)]
 have : p.findSome? rowE = none := by
  rw [List.findSome?_eq_none_iff]
  intro r hr
  unfold rowE
  rw [List.findSome?_eq_none_iff]
  intro v hv
  unfold hi3
  rw [if_neg (by have := (hT r hr v hv).2; omega)]
 rw [this]; rfl
theorem rows_T : ∀ (s : Str) (cur : LI), (∀ v ∈ cur, T3 v) → ∀ r ∈ rows s cur, ∀ v ∈ r, T3 v := by
 intro s
 induction s with
 | nil => intro cur _ r hr; cases hr
 | cons c s ih =>
  intro cur hc r hr
  rw [rows] at hr
  split at hr
  ·rcases List.mem_cons.1 hr with rfl | hr
   ·exact hc
   ·exact ih [] (fun v hv => by cases hv) r hr
  ·refine ih _ (fun v hv => ?_) r hr
   rcases List.mem_append.1 hv with hv | hv
   ·exact hc v hv
   ·rw [List.mem_singleton.1 hv]; exact val3_T _
theorem txt_rows : ∀ (n : Nat) (s : Str), s.length ≤ n → (∀ c ∈ s, goodN c.toNat = true) → endsN s → txt (rows s []) = s := by
 intro n
 induction n with
 | zero => intro s hs _ _; rw [List.eq_nil_of_length_eq_zero (Nat.le_zero.1 hs)]; rfl
 | succ n ih =>
  intro s hs hg he
  by_cases h0 : s = []
  ·subst h0; rfl
  obtain ⟨l, r, rfl, h1, h2⟩ := split_line s h0 he
  rw [rows_line l h1, txt_cons, ih r (by simp at hs; omega) (fun c hc => hg c (by simp [hc])) h2, List.nil_append, List.map_map]
  congr 1
  conv => rhs; rw [← List.map_id l]
  exact List.map_congr_left fun c hc => ch_val (hg c (by simp [hc])) (h1 c hc)
theorem fmt_prs {s : Str} (hs : s.length ≤ 3000) (h : (prs s).2.2 = 0) : fmt (prs s).1 = (s, 0) := by
 have key : (List.range s.length).findSome? (badI s) = none ∧ ¬ (s ≠ [] ∧ s.getD (s.length - 1) 0 ≠ 10) ∧ ¬ 64 < ((rows s []).length : Int) := by
  unfold prs at h
  rw [if_neg (by omega)] at h
  cases hf : (List.range s.length).findSome? (badI s) with
  | some i => rw [hf] at h; simp at h
  | none =>
   rw [hf, Option.elim_none] at h
   split at h
   ·simp at h
   ·rename_i h1
    split at h
    ·simp at h
    ·rename_i h2; exact ⟨rfl, h1, h2⟩
 obtain ⟨k1, k2, k3⟩ := key
 have e : prs s = (rows s [], (0, 0)) := by
  unfold prs
  rw [if_neg (by omega), k1, Option.elim_none, if_neg k2, if_neg k3]
 rw [e]
 have he : endsN s := by
  by_cases h0 : s = []
  ·exact .inl h0
  ·rw [ends_iff h0]
   exact Classical.byContradiction fun q => k2 ⟨h0, q⟩
 rw [fmt_ok (by omega) (rows_T s [] fun v hv => by cases hv), txt_rows _ s (Nat.le_refl _) (good_all k1) he]
end Go.Proofs.YtkcmacdakgohcaaDoor
