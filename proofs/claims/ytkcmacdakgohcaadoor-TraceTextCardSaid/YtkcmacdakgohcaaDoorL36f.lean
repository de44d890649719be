/- The law TracePatternsMatch in plain Lean. -/

import Derived.Test.YtkcmacdakgohcaaDoorL36e
set_option linter.unusedVariables false
set_option linter.unusedSimpArgs false
set_option linter.unusedSectionVars false
open Go Go.AM Go.TM
namespace Go.Proofs.YtkcmacdakgohcaaDoor
abbrev yAig : Ty := .st (.pair (.int .i64) (.pair (.slice (.st (.pair (.int .i64) (.int .u8)))) (.pair (.slice (.st (.pair (.int .i64) (.int .i64)))) (.slice (.int .i64)))))
abbrev yPat : Ty := .slice (.slice (.int .u8))
abbrev yTrace : Ty := .slice (.slice .bool)
theorem cut_eq {α : Type} (l : List α) (n : Nat) : cut l 0 n = l.take n := by simp
theorem mn_take {α : Type} (l : List α) (n : Nat) : cut l 0 (tn (mn (ni (len l)) n)) = l.take n := by
 rw [cut_eq]
 simp only [mn_def, ni_def, len_def, tn_def]
 split
 ·rw [show ((n : Nat) : Int).toNat = n from Int.toNat_natCast n]
 ·rw [Int.toNat_natCast, List.take_length, List.take_of_length_le (by omega)]
theorem mn_rg {α : Type} (l : List α) (n : Nat) : rg 0 (mn (ni (len l)) n) (ni (len l)) = true := by
 simp only [rg_def, mn_def, ni_def, len_def, decide_eq_true_eq]
 split <;> omega
def small (g : TAig) (n : Nat) : TAig := (g.1, g.2.1.take n, g.2.2.1.take n, g.2.2.2.take n)
theorem pat_len {p : LLI} (h : WfT yPat p) : p.length ≤ 5864062014804 ∧ (∀ r ∈ p, r.length ≤ 140737488351232) ∧ ∀ r ∈ p, ∀ v ∈ r, 0 ≤ v ∧ v ≤ 255 := by
 obtain ⟨h1, h2⟩ := h
 refine ⟨by simp [Ty.bytes] at h1; omega, fun r hr => ?_, fun r hr v hv => ?_⟩
 ·have := (h2 r hr).1; simp [Ty.bytes, kindBytes, IntKind.bits] at this; exact this
 ·have := (h2 r hr).2 v hv
  simpa [WfT, IntKind.min, IntKind.max, IntKind.signed, IntKind.bits] using this
end Go.Proofs.YtkcmacdakgohcaaDoor
