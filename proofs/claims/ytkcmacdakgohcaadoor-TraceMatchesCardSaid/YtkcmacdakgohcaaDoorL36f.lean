/- The law TracePatternsMatch in plain Lean. -/

import Derived.Test.YtkcmacdakgohcaaDoorL36e
set_option linter.unusedVariables false
set_option linter.unusedSimpArgs false
set_option linter.unusedSectionVars false
open Go Go.AM Go.TM
namespace Go.Proofs.YtkcmacdakgohcaaDoor
abbrev yAig : Ty := .st (.pair (.int .i64) (.pair (.slice (.st (.pair (.int .i64) (.int .u8)))) (.pair (.slice (.st (.pair (.int .i64) (.int .i64)))) (.slice (.int .i64)))))
abbrev yPat : Ty := .slice (.slice (.int .u8))
abbrev yTrace : Ty := .slice (.slice .bool)
theorem cut_eq {α : Type} (l : List α) (n : Nat) : cut l 0 n = l.take n := by simp
theorem mn_take {α : Type} (l : List α) (n : Nat) : cut l 0 (tn (mn (ni (len l)) n)) = l.take n := by
 rw [cut_eq]
 simp only [mn_def, ni_def, len_def, tn_def]
 split
 ·rw [show ((n : Nat) : Int).toNat = n from Int.toNat_natCast n]
 ·rw [Int.toNat_natCast, List.take_length, List.take_of_length_le (by omega)]
theorem mn_rg {α : Type} (l : List α) (n : Nat) : rg 0 (mn (ni (len l)) n) (ni (len l)) = true := by
 simp only [rg_def, mn_def, ni_def, len_def, decide_eq_true_eq]
 split <;> omega
def small (g : TAig) (n : Nat) : TAig := (g.1, g.2.1.take n, g.2.2.1.take n, g.2.2.2.take n)
theorem small_B (g : TAig) (n : Nat) (h : n ≤ 140737488355328) : AigB (small g n) := by
 refine ⟨?_, ?_, ?_⟩ <;> simp [small] <;> omega
theorem aig_len {g : TAig} (h : WfT yAig g) : g.2.1.length ≤ 8796093021952 ∧ g.2.2.1.length ≤ 8796093021952 ∧ g.2.2.2.length ≤ 17592186043904 := by
 obtain ⟨-, h1, h2, h3⟩ := h
 have h1 := h1.1
 have h2 := h2.1
 have h3 := h3.1
 simp [Ty.bytes, Ty.ends, Ty.align, kindBytes, IntKind.bits, up] at h1 h2 h3
 omega
theorem small_eq (g : TAig) (h1 : g.2.1.length ≤ 8796093022208) (h2 : g.2.2.1.length ≤ 8796093022208) (h3 : g.2.2.2.length ≤ 17592186044416) (n : Nat) : F_r20_Small g (n : Int) = some (small g n) := by
 have e : F_r20_Copy g = some g := by
  unfold F_r20_Copy
  simp only [br_def, fits_def, len_def, decide_eq_true_eq]
  rw [if_pos (by omega), if_pos (by omega), if_pos (by omega)]
 unfold F_r20_Small
 rw [show F_r20_Copy (g.1, (g.2.1, (g.2.2.1, g.2.2.2))) = some g from e, ob_some]
 simp only [mn_rg, mn_take]
 rfl
end Go.Proofs.YtkcmacdakgohcaaDoor
