/- The law TracePatternsMatch in plain Lean. -/
import Derived.Test.YtkcmacdakgohcaaDoorL36e
set_option linter.unusedVariables false
set_option linter.unusedSimpArgs false
set_option linter.unusedSectionVars false
open Go Go.AM Go.TM
namespace Go.Proofs.YtkcmacdakgohcaaDoor
abbrev yAig : Ty := .st (.pair (.int .i64) (.pair (.slice (.st (.pair (.int .i64) (.int .u8)))) (.pair (.slice (.st (.pair (.int .i64) (.int .i64)))) (.slice (.int .i64)))))
abbrev yPat : Ty := .slice (.slice (.int .u8))
abbrev yTrace : Ty := .slice (.slice .bool)
theorem cut_eq {α : Type} (l : List α) (n : Nat) : cut l 0 n = l.take n := by simp
/-- At most so many. -/
theorem mn_take {α : Type} (l : List α) (n : Nat) : cut l 0 (tn (mn (ni (len l)) n)) = l.take n := by
  rw [cut_eq]
  simp only [mn_def, ni_def, len_def, tn_def]
  split
  · rw [show ((n : Nat) : Int).toNat = n from Int.toNat_natCast n]
  · rw [Int.toNat_natCast, List.take_length, List.take_of_length_le (by omega)]
theorem mn_rg {α : Type} (l : List α) (n : Nat) : rg 0 (mn (ni (len l)) n) (ni (len l)) = true := by
  simp only [rg_def, mn_def, ni_def, len_def, decide_eq_true_eq]
  split <;> omega
/-- The graph, cut. -/
def small (g : TAig) (n : Nat) : TAig := (g.1, g.2.1.take n, g.2.2.1.take n, g.2.2.2.take n)
theorem small_B (g : TAig) (n : Nat) (h : n ≤ 140737488355328) : AigB (small g n) := by
  refine ⟨?_, ?_, ?_⟩ <;> simp [small] <;> omega
theorem pat_len {p : LLI} (h : WfT yPat p) : p.length ≤ 5864062014804 ∧ (∀ r ∈ p, r.length ≤ 140737488351232) ∧ ∀ r ∈ p, ∀ v ∈ r, 0 ≤ v ∧ v ≤ 255 := by
  obtain ⟨h1, h2⟩ := h
  refine ⟨by simp [Ty.bytes] at h1; omega, fun r hr => ?_, fun r hr v hv => ?_⟩
  · have := (h2 r hr).1; simp [Ty.bytes, kindBytes, IntKind.bits] at this; exact this
  · have := (h2 r hr).2 v hv
    simpa [WfT, IntKind.min, IntKind.max, IntKind.signed, IntKind.bits] using this
theorem trace_len {t : LLB} (h : WfT yTrace t) : t.length ≤ 5864062014804 ∧ ∀ r ∈ t, r.length ≤ 140737488351232 := by
  obtain ⟨h1, h2⟩ := h
  refine ⟨by simp [Ty.bytes] at h1; omega, fun r hr => ?_⟩
  have := (h2 r hr).1; simp [Ty.bytes] at this; exact this
theorem aig_len {g : TAig} (h : WfT yAig g) : g.2.1.length ≤ 8796093021952 ∧ g.2.2.1.length ≤ 8796093021952 ∧ g.2.2.2.length ≤ 17592186043904 := by
  obtain ⟨-, h1, h2, h3⟩ := h
  have h1 := h1.1
  have h2 := h2.1
  have h3 := h3.1
  simp [Ty.bytes, Ty.ends, Ty.align, kindBytes, IntKind.bits, up] at h1 h2 h3
  omega
theorem F_w36_TracePatternsMatch_law (x : Tys [yAig, yPat, yTrace]) (h : WfTs [yAig, yPat, yTrace] x) : F_w36_TracePatternsMatch x.1 x.2.1 x.2.2 = some true := by
  obtain ⟨g, p, t⟩ := x
  obtain ⟨h1, h2, h3⟩ := h
  obtain ⟨a1, a2, a3⟩ := aig_len h1
  obtain ⟨b1, b2, b3⟩ := pat_len h2
  obtain ⟨c1, c2⟩ := trace_len h3
  show F_w36_TracePatternsMatch g p t = some true
  have a1 : g.2.1.length ≤ 8796093021952 := a1
  have a2 : g.2.2.1.length ≤ 8796093021952 := a2
  have a3 : g.2.2.2.length ≤ 17592186043904 := a3
  have hp : ∀ r ∈ p.take 66, r ∈ p := fun r hr => List.mem_of_mem_take hr
  have hlp : (p.take 66).length ≤ 66 := by simp; omega
  have hlt : (t.take 66).length ≤ 66 := by simp; omega
  have ht : ∀ r ∈ t.take 66, r.length ≤ 140737488351232 := fun r hr => c2 r (List.mem_of_mem_take hr)
  have e11 : F_r36_Copy (p.take 66) = some (p.take 66) := F_r36_Copy_eq _ (by omega) fun r hr => by have := b2 r (hp r hr); omega
  have sB := small_B g 30 (by decide)
  have e26 : F_trace_Run (small g 30) (p.take 66) = some (run3 (small g 30) (p.take 66)) := F_trace_Run_eq sB (by omega) (fun r hr => by have := b2 r (hp r hr); omega) fun r hr v hv => (b3 r (hp r hr) v hv).1
  have e27 : F_r36_Run (small g 30) (p.take 66) = some (run3 (small g 30) (p.take 66)) := F_r36_Run_eq sB (by omega) (fun r hr => by have := b2 r (hp r hr); omega) fun r hr v hv => (b3 r (hp r hr) v hv).1
  have e28 : F_trace_Matches (p.take 66) (t.take 66) = some (matB (p.take 66) (t.take 66)) := F_trace_Matches_eq _ _ (by omega) fun r hr => by have := b2 r (hp r hr); omega
  have e29 : F_r36_Matches (p.take 66) (t.take 66) = some (matB (p.take 66) (t.take 66)) := F_r36_Matches_eq _ _ (by omega) fun r hr => by have := b2 r (hp r hr); omega
  have e30 : F_trace_Pattern (t.take 66) = some (pat3 (t.take 66)) := F_trace_Pattern_eq _ (by omega) fun r hr => by have := ht r hr; omega
  have e31 : F_r36_Pattern (t.take 66) = some (pat3 (t.take 66)) := F_r36_Pattern_eq _ (by omega) fun r hr => by have := ht r hr; omega
  have e16a : F_r36_Same (pat3 (t.take 66)) (pat3 (t.take 66)) = some true := by
    rw [F_r36_Same_eq _ _ (by simp [pat3]; omega) fun r hr => by
      obtain ⟨s, hs, rfl⟩ := List.mem_map.1 hr
      have := ht s hs
      simp; omega]
    simp
  have e16b : F_r36_Same (p.take 66) (p.take 66) = some true := by
    rw [F_r36_Same_eq _ _ (by omega) fun r hr => by have := b2 r (hp r hr); omega]
    simp
  have run_len : (run3 (small g 30) (p.take 66)).1.length ≤ 66 ∧ ∀ r ∈ (run3 (small g 30) (p.take 66)).1, r.length ≤ 30 := by
    have sl : ∀ (q : LLI) (st : LI), (sim3 (small g 30) q st).length = q.length ∧ ∀ r ∈ sim3 (small g 30) q st, r.length ≤ 30 := by
      intro q
      induction q with
      | nil => intro st; exact ⟨rfl, fun r hr => by cases hr⟩
      | cons i q ih =>
        intro st
        refine ⟨by simp [sim3, (ih _).1], fun r hr => ?_⟩
        rcases List.mem_cons.1 hr with rfl | hr
        · simp [outs3, small]; omega
        · exact (ih _).2 r hr
    unfold run3
    split
    · exact ⟨by simp, fun r hr => by cases hr⟩
    split
    · exact ⟨by simp, fun r hr => by cases hr⟩
    cases (p.take 66).findSome? (rowB (small g 30)) with
    | some e => exact ⟨by simp, fun r hr => by cases hr⟩
    | none =>
      have := sl (p.take 66) (start3 (small g 30))
      exact ⟨by simp only [Option.elim_none]; omega, this.2⟩
  have e16c : F_r36_Same (run3 (small g 30) (p.take 66)).1 (run3 (small g 30) (p.take 66)).1 = some true := by
    rw [F_r36_Same_eq _ _ (by omega) fun r hr => by have := run_len.2 r hr; omega]
    simp
  unfold F_w36_TracePatternsMatch
  rw [show (fits 0 (len g.2.1) 8796093022208) = true by simp; omega, show (fits 0 (len g.2.2.1) 8796093022208) = true by simp; omega, show (fits 0 (len g.2.2.2) 17592186044416) = true by simp; omega]
  rw [show (30 : Int) = ((30 : Nat) : Int) from rfl, show (66 : Int) = ((66 : Nat) : Int) from rfl]
  simp only [mn_rg, mn_take]
  have sm : (g.1, (g.2.1.take 30, (g.2.2.1.take 30, g.2.2.2.take 30))) = small g 30 := rfl
  simp only [br_def, if_true, e11, ob_some, sm, e26, e27, e16c, eq_def, decide_true, e28, e29, bq_def, beq_self_eq_true, e30, e31, e16a, e16b]
  rfl
end Go.Proofs.YtkcmacdakgohcaaDoor
