/- Plain laws: reading a pattern's text; the law TraceTextMatches. -/

import Derived.Test.YtkcmacdakgohcaaDoorL36k
set_option linter.unusedVariables false
set_option linter.unusedSimpArgs false
set_option linter.unusedSectionVars false
open Go Go.AM Go.TM
namespace Go.Proofs.YtkcmacdakgohcaaDoor
def val3 (n : Nat) : Int := if n = 48 then 0 else if n = 49 then 1 else 2
def rows : Str → LI → LLI
 | [], _ => []
 | c :: s, cur => if c.toNat = 10 then cur :: rows s [] else rows s (cur ++ [val3 c.toNat])
def badI (s : Str) (i : Nat) : Option Nat := if goodN (s.getD i 0).toNat = true then none else some i
def endsN (s : Str) : Prop := s = [] ∨ ∃ l, s = l ++ [10]
def prs (s : Str) : LLI × (Int × Int) := if 65536 < (s.length : Int) then ([], (0, 5)) else
 ((List.range s.length).findSome? (badI s)).elim (if s ≠ [] ∧ s.getD (s.length - 1) 0 ≠ 10 then ([], ((s.length : Int), 3)) else if 64 < ((rows s []).length : Int) then ([], (0, 5)) else (rows s [], (0, 0))) fun i => ([], ((i : Int), 3))
theorem good_cases {n : Nat} (h : goodN n = true) : n = 48 ∨ n = 49 ∨ n = 120 ∨ n = 10 := by
 unfold goodN at h; simp only [Bool.or_eq_true, beq_iff_eq] at h; omega
theorem good_all {s : Str} (h : (List.range s.length).findSome? (badI s) = none) : ∀ c ∈ s, goodN c.toNat = true := fun c hc => by
 obtain ⟨i, hi, rfl⟩ := List.getElem_of_mem hc
 have := List.findSome?_eq_none_iff.1 h i (by simpa using hi)
 unfold badI at this
 rw [getD_lt hi] at this
 split at this
 ·assumption
 ·cases this
theorem rows_line (l : Str) (hl : ∀ c ∈ l, c.toNat ≠ 10) (r : Str) (cur : LI) : rows (l ++ 10 :: r) cur = (cur ++ l.map fun c => val3 c.toNat) :: rows r [] := by
 induction l generalizing cur with
 | nil => simp [rows]
 | cons c l ih =>
  rw [List.cons_append, rows, if_neg (hl c (List.mem_cons_self ..)), ih (fun x hx => hl x (List.mem_cons_of_mem _ hx))]
  simp
theorem rows_row (s : Str) (cur : LI) : ∀ r ∈ rows s cur, r.length ≤ cur.length + s.length := by
 induction s generalizing cur with
 | nil => intro r hr; cases hr
 | cons c s ih =>
  intro r hr
  rw [rows] at hr
  split at hr
  ·rcases List.mem_cons.1 hr with rfl | hr
   ·simp
   ·have := ih [] r hr; simp at this; simp; omega
  ·have := ih _ r hr; simp at this; simp; omega
theorem split_line : ∀ (s : Str), s ≠ [] → endsN s → ∃ l r, s = l ++ 10 :: r ∧ (∀ c ∈ l, c.toNat ≠ 10) ∧ endsN r := by
 intro s
 induction s with
 | nil => intro h; exact absurd rfl h
 | cons c s ih =>
  intro _ he
  by_cases hc : c.toNat = 10
  ·have hc' : c = 10 := UInt8.toNat_inj.1 hc
   refine ⟨[], s, by rw [hc']; rfl, fun x hx => (by cases hx), ?_⟩
   rcases he with he | ⟨l, e⟩
   ·cases he
   ·cases l with
    | nil => simp at e; exact .inl e.2
    | cons a l => simp at e; exact .inr ⟨l, e.2⟩
  ·have hs : s ≠ [] := fun q => by
    subst q
    rcases he with he | ⟨l, e⟩
    ·cases he
    ·cases l with
     | nil => simp at e; exact hc (by rw [e]; rfl)
     | cons a l => simp at e
   have he2 : endsN s := by
    rcases he with he | ⟨l, e⟩
    ·cases he
    ·cases l with
     | nil => simp at e; exact absurd e.2 hs
     | cons a l => simp at e; exact .inr ⟨l, e.2⟩
   obtain ⟨l, r, rfl, h1, h2⟩ := ih hs he2
   exact ⟨c :: l, r, rfl, fun x hx => by rcases List.mem_cons.1 hx with rfl | hx; exact hc; exact h1 x hx, h2⟩
theorem ib3 {n : Nat} (h : n = 48 ∨ n = 49 ∨ n = 120) : F_strings_IndexByte ([48, 49, 120] : Str) (n : Int) = some (val3 n) ∧ wr .u8 (val3 n) = val3 n := by
 rcases h with rfl | rfl | rfl <;> exact ⟨by rw [ib_eq _ (by decide) (by decide)]; rfl, by decide⟩
theorem line_row {s : Str} {y14 y15} {st7 : Str × (LLI × Unit)} {line : Str} {i : Nat} (hc : cut (cut st7.1 0 (tn (wr .i64 (ad (i : Int) 1)))) 0 (tn (wr .i64 (sb (ni (len (cut st7.1 0 (tn (wr .i64 (ad (i : Int) 1)))))) 1))) = line)
  (hg : ∀ c ∈ line, goodN c.toNat = true) (h10 : ∀ c ∈ line, c.toNat ≠ 10) (hn : line.length ≤ 65536) :
  iterS (F_trace_Parse_l8 s y14 y15 st7 (i : Int)) (0, ([], ())) = some (.inl ((line.length : Int), (line.map fun c => val3 c.toNat, ()))) := by
 have := iterS_fold (f := F_trace_Parse_l8 s y14 y15 st7 (i : Int)) line (fun j (o : LI) => ((j : Int), (o, ()))) (fun o c => o ++ [val3 c.toNat]) (fun o => .inl ((line.length : Int), (o, ()))) (fun j o => o.length = j)
  (fun j o hj ho => by
   refine ⟨?_, by simp [ho]⟩
   have hb : j < (byts line).length := by simpa using hj
   have hr : rd (byts line) (tn (j : Int)) 0 = (line[j].toNat : Int) := by rw [tn_nat, rd_lt hb]; simp [byts]
   have hl : (byts line).length = line.length := by simp
   have hv : line[j].toNat = 48 ∨ line[j].toNat = 49 ∨ line[j].toNat = 120 := by
    have := good_cases (hg _ (List.getElem_mem hj))
    have := h10 _ (List.getElem_mem hj)
    omega
   obtain ⟨q1, q2⟩ := ib3 hv
   simp only [F_trace_Parse_l8, hc, hr, q1, ob_some, q2]
   simp only [br_def, lt_def, ni_def, len_def, ix_def, decide_eq_true_eq, fits_def, ad_def, app_def, List.length_singleton, hl, ho]
   rw [if_pos (by omega), if_pos (by omega), if_pos (by omega), wr64 (by omega) (by omega)]; rfl)
  (fun o ho => by
   have hl : (byts line).length = line.length := by simp
   simp only [F_trace_Parse_l8, hc]
   simp only [br_def, lt_def, ni_def, len_def, decide_eq_true_eq, hl]
   rw [if_neg (by omega)]) (b := []) rfl
 rw [foldl_snoc] at this
 exact this
theorem line_step {s : Str} {y14 y15} {l r : Str} {p : LLI} (hg : ∀ c ∈ l, goodN c.toNat = true) (h10 : ∀ c ∈ l, c.toNat ≠ 10) (hn : l.length + r.length ≤ 65536) (hp : p.length ≤ 65536) :
  F_trace_Parse_l7 s y14 y15 (l ++ 10 :: r, (p, ())) = some (.inl (r, (p ++ [l.map fun c => val3 c.toNat], ()))) := by
 have hlen : (l ++ 10 :: r).length = l.length + 1 + r.length := by simp; omega
 have hi : l.length < (l ++ 10 :: r).length := by omega
 have hib : F_strings_IndexByte (l ++ 10 :: r) 10 = some (l.length : Int) := by
  rw [ib_eq _ (by decide) (by decide), show (10 : Int).toNat = 10 from rfl, idx_first hi (by simp) fun j hj hlt => by
   rw [List.getElem_append_left hlt]; exact h10 _ (List.getElem_mem hlt)]
 have hw : wr .i64 (ad (l.length : Int) 1) = ((l.length + 1 : Nat) : Int) := by simp only [ad_def]; rw [wr64 (by omega) (by omega)]; rfl
 have c1 : cut (l ++ 10 :: r) 0 (l.length + 1) = l ++ [10] := by
  rw [cut_eq, show l ++ 10 :: r = (l ++ [10]) ++ r by simp, List.take_left' (by simp)]
 have hw2 : wr .i64 (sb (ni (len (l ++ [10]))) 1) = (l.length : Int) := by
  simp only [sb_def, ni_def, len_def, List.length_append, List.length_singleton]; rw [wr64 (by omega) (by omega)]; omega
 have hc : cut (cut (l ++ 10 :: r) 0 (tn (wr .i64 (ad (l.length : Int) 1)))) 0 (tn (wr .i64 (sb (ni (len (cut (l ++ 10 :: r) 0 (tn (wr .i64 (ad (l.length : Int) 1)))))) 1))) = l := by
  rw [hw, tn_nat, c1, hw2, tn_nat, cut_eq]; simp
 have hcr : cut (l ++ 10 :: r) (l.length + 1) ((l ++ 10 :: r).length - (l.length + 1)) = r := by
  rw [cut_def, show l ++ 10 :: r = (l ++ [10]) ++ r by simp, List.drop_left' (by simp)]
  rw [List.take_of_length_le (by simp; omega)]
 simp only [F_trace_Parse_l7, hib, ob_some]
 rw [line_row (st7 := (l ++ 10 :: r, (p, ()))) hc hg h10 (by omega), oj_inl]
 simp only [hw, tn_nat, c1]
 rw [hw2, tn_nat]
 have c3 : (TM.cut (l ++ [10]) 0 l.length).length ≤ 65537 := by rw [cut_eq]; simp; omega
 have c4 : (l ++ [10]).length = l.length + 1 := by simp
 simp only [br_def, lt_def, le_def, ni_def, len_def, rg_def, fits_def, decide_eq_true_eq, tn_nat, nsub_def, hcr, app_def, List.length_singleton]
 rw [if_pos (by omega), if_pos (by omega), if_pos (by omega), if_pos (by omega), if_pos (by omega), if_pos (by omega), if_pos (by omega)]
theorem lines_all {s : Str} {y14 y15} : ∀ (n : Nat) (t : Str) (p : LLI), t.length ≤ n → (∀ c ∈ t, goodN c.toNat = true) → endsN t → t.length + p.length ≤ 65536 →
  iterS (F_trace_Parse_l7 s y14 y15) (t, (p, ())) = some (.inl ([], (p ++ rows t [], ()))) := by
 intro n
 induction n with
 | zero =>
  intro t p hn hg he hp
  have : t = [] := List.eq_nil_of_length_eq_zero (by omega)
  subst this
  exact iterS_inr (by simp [F_trace_Parse_l7, rows])
 | succ n ih =>
  intro t p hn hg he hp
  by_cases h0 : t = []
  ·subst h0
   exact iterS_inr (by simp [F_trace_Parse_l7, rows])
  ·obtain ⟨l, r, rfl, h1, h2⟩ := split_line t h0 he
   have hlen : (l ++ 10 :: r).length = l.length + 1 + r.length := by simp; omega
   rw [iterS_inl (line_step (fun c hc => hg c (List.mem_append_left _ hc)) h1 (by omega) (by omega)),
    ih r _ (by omega) (fun c hc => hg c (List.mem_append_right _ (List.mem_cons_of_mem _ hc))) h2 (by simp; omega), rows_line l h1]
   simp
theorem ends_iff {s : Str} (h : s ≠ []) : endsN s ↔ s.getD (s.length - 1) 0 = 10 := by
 have hl : 0 < s.length := List.length_pos_iff.2 h
 constructor
 ·rintro (e | ⟨l, rfl⟩)
  ·exact absurd e h
  ·rw [getD_lt (by simp)]; simp
 ·intro e
  refine .inr ⟨s.take (s.length - 1), ?_⟩
  rw [getD_lt (by omega)] at e
  rw [← e, List.take_append_getElem (by omega), show s.length - 1 + 1 = s.length by omega, List.take_length]
theorem suffix_eq {s : Str} (h : s ≠ []) (hn : s.length ≤ 65536) : F_strings_HasSuffix s [10] = some (decide (s.getD (s.length - 1) 0 = 10)) := by
 have hl : 0 < s.length := List.length_pos_iff.2 h
 have e : F_stringslite_HasSuffix s [10] = some (decide (s.getD (s.length - 1) 0 = 10)) := by
  unfold F_stringslite_HasSuffix
  have hw : wr .i64 (sb (ni (len s)) (ni (len ([10] : Str)))) = ((s.length - 1 : Nat) : Int) := by
   simp only [sb_def, ni_def, len_def, List.length_singleton]; rw [wr64 (by omega) (by omega)]; omega
  rw [hw]
  simp only [br_def, le_def, rg_def, ni_def, len_def, tn_nat, nsub_def, decide_eq_true_eq, List.length_singleton]
  rw [if_pos (by omega), if_pos (by omega)]
  have hd : cut s (s.length - 1) (s.length - (s.length - 1)) = [s.getD (s.length - 1) 0] := by
   rw [cut_def, List.drop_eq_getElem_cons (by omega), getD_lt (by omega), show s.length - (s.length - 1) = 1 by omega]; rfl
  rw [hd]
  simp [sq]
 unfold F_strings_HasSuffix
 rw [e]; rfl
theorem parse_prog (s : Str) : F_trace_Parse s = some (prs s) := by
 unfold F_trace_Parse prs
 simp only [br_def, lt_def, ni_def, len_def, decide_eq_true_eq]
 by_cases hl : 65536 < (s.length : Int)
 ·rw [if_pos hl, if_pos hl]
 rw [if_neg hl, if_neg hl]
 have l0 := iterS_findR (f := F_trace_Parse_l0 s) s.length (fun i => (i, ())) (badI s) (.inl (s.length, ())) (fun i => .inr ([], ((i : Int), 3)))
  (fun i hi => by
   have hle : le 0 (ni i) = true := by simp
   simp only [F_trace_Parse_l0, parse1 hi, ob_some, hle]
   simp only [br_def, nlt_def, len_def, decide_eq_true_eq, if_true]
   rw [if_pos hi]
   unfold badI
   rw [getD_lt hi]
   by_cases hg : goodN s[i].toNat = true
   ·rw [if_pos hg, hg]
    have hlow : s[i].toNat < 128 := by have := good_cases hg; omega
    simp [(dec_low hi hlow).2]
   ·rw [if_neg hg]
    have : goodN s[i].toNat = false := by simpa using hg
    simp [this])
  (by simp [F_trace_Parse_l0])
 rw [l0]
 cases hb : (List.range s.length).findSome? (badI s) with
 | some i => rfl
 | none =>
  have hg := good_all hb
  simp only [Option.elim_none]
  rw [oj_inl]
  by_cases h0 : s = []
  ·subst h0
   rw [if_neg (by simp [sq]), iterS_inr (f := F_trace_Parse_l10 [] ([].length, ())) (r := .inl ([], ([], ()))) (by simp [F_trace_Parse_l10]), oj_inl, if_neg (by simp), if_neg (by simp), if_neg (by simp [rows])]; rfl
  ·rw [if_pos (by simp [sq, h0]), suffix_eq h0 (by omega), ob_some]
   by_cases he : s.getD (s.length - 1) 0 = 10
   ·rw [decide_eq_true he, if_neg (by simp), lines_all s.length s [] (Nat.le_refl _) hg ((ends_iff h0).2 he) (by simp; omega), oj_inl]
    have e : (if s ≠ [] ∧ s.getD (s.length - 1) 0 ≠ 10 then (([], ((s.length : Int), 3)) : LLI × (Int × Int)) else if 64 < ((rows s []).length : Int) then ([], (0, 5)) else (rows s [], (0, 0))) = if 64 < ((rows s []).length : Int) then ([], (0, 5)) else (rows s [], (0, 0)) := if_neg fun q => q.2 he
    rw [e]
    simp only [List.nil_append]
    by_cases q : 64 < ((rows s []).length : Int)
    ·rw [if_pos q, if_pos q]
    ·rw [if_neg q, if_neg q]
   ·rw [decide_eq_false he, if_pos (show nt false = true from rfl), if_pos ⟨h0, he⟩]
def stepR (x : LI × LLI) (c : UInt8) : LI × LLI := if c.toNat = 10 then ([], x.2 ++ [x.1]) else (x.1 ++ [val3 c.toNat], x.2)
end Go.Proofs.YtkcmacdakgohcaaDoor
