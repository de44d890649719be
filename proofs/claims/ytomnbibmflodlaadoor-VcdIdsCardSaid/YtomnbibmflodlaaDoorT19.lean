/- What holds of the program as a whole; the functions that a table answers. -/

import Derived.Test.YtomnbibmflodlaaDoorCards
import Derived.Test.YtomnbibmflodlaaDoorTie
import Derived.SevenTiedAt
import Derived.LaidMore
import Derived.Lay
import Derived.MakeChecks
import Derived.Test.YtomnbibmflodlaaDoorE19a
import Derived.Test.YtomnbibmflodlaaDoorQ19
set_option linter.unusedVariables false
set_option linter.unusedSimpArgs false
set_option linter.unusedSectionVars false
open Go Go.AM Go.TM
namespace Go.Proofs.YtomnbibmflodlaaDoor
theorem follows_ok : Tryd.prog.follows .mixedOrders = true := by kernel_rfl
theorem namesB_ok : AM.namesB Tryd.prog = true := by kernel_rfl
theorem codesB_ok : AM.codesB Tryd.prog = true := by kernel_rfl
theorem pok : POk2 Tryd.prog := AM.pok_of follows_ok namesB_ok codesB_ok
theorem own : ownKnob Tryd.prog.godebug = none := by kernel_rfl
theorem laidOut : laidOutB Tryd.prog = true := by kernel_rfl
section
attribute [local instance] EQ
theorem sizeOk : ∀ W : World, W.ShapedOpen Tryd.prog → Tryd.prog.globals.size ≤ W.heap.size := AM.shaped_size (by kernel_rfl)
theorem glFlat : @GlFlat EQ := fun g cs hg => by cases (show (none : Option (Array Value)) = some cs from hg)
end
abbrev laidL : List (String × DataW Unit) := [("math/bits.deBruijn32tab", Rows.laid_math_bits_deBruijn32tab), ("math/bits.deBruijn64tab", Rows.laid_math_bits_deBruijn64tab), ("internal/strconv.uint64pow10", Rows.laid_internal_strconv_uint64pow10), ("unicode/utf8.acceptRanges", Rows.laid_unicode_utf8_acceptRanges), ("unicode/utf8.first", Rows.laid_unicode_utf8_first)]
theorem gokA {W : World} (h : laidMetH Tryd.prog laidL W) : @GOk EQA Tryd.prog (inMap Tryd.prog.globals.size W) := by
 intro g hg
 refine ⟨by simp only [inMap, if_pos hg], fun cs hcs => by cases (show (none : Option (Array Value)) = some cs from hcs)⟩
noncomputable abbrev W0 (os : Os) : World := World.laidAll Tryd.prog os laidL
theorem W0_shaped (os : Os) : (W0 os).Shaped Tryd.prog := World.shaped_of_ZipB (by kernel_rfl) (by kernel_rfl)
theorem door_met (os : Os) (args : Array Value) : laidMetH Tryd.prog laidL ((W0 os).forCall (fun _ _ => 0) ⟨#[], args, []⟩).memory := by
 rw [MakeChecks.laidMetH_plain _ _ _ (by kernel_rfl)]; exact laidMet_laidAll _ (by kernel_rfl) (by kernel_rfl)
section
attribute [local instance] EQ
theorem ok0 : SummOK P0 S0.summ := PSumm.put_ok (put_flat PSumm.none_ok fun us v h => smRep_ok h) fun args g d hd m H w args' hg hR hG ha => smJoin_ok laysJoin extraJ Tryd.func15 (by kernel_rfl) fJoin hd m H w args' hg.symm hR hG ha
theorem ok1 : SummOK P0 S1.summ := put_flat ok0 fun us v h => smIdx_ok Tryd.func97 (by kernel_rfl) (fun x y => by kernel_rfl) h
theorem ok2 : SummOK P0 S2.summ := by
 refine PSumm.put_ok ok1 fun args g d hd m H w args' hg hR hG ha => ?_
 split at hd
 ·cases hd
  exact call_same Tryd.func44 (by kernel_rfl) (fun x => by kernel_rfl) m H w args' hR hG ha
 ·cases hd
theorem awake_gives : Gives P0 5 [] (.bool true) := gives_bool pok ok2 glFlat globN rfl awake_ev
end
section
attribute [local instance] EQA
theorem okA : SummOK P0 S3.summ := by
 refine PSumm.put_ok PSumm.none_ok fun args g d hd m H w args' hg hR hG ha => ?_
 split at hd
 ·cases hd
  exact awake_gives m H w args' hR hG ha
 ·cases hd
theorem baseA : TBase P0 S3.summ gl effs := by
 refine ⟨fun v => (EqV.all_eq G0 v v).2 rfl, fun g cs hg => ?_, fun f ef h => ?_⟩
 ·cases (show (none : Option (List TV)) = some cs from hg)
 ·cases (show (none : Option _) = some ef from h)
theorem spec5 : SpecOK (evL P0 S3.summ) 5 ⟨[], [.bool], [.no], fun _ => F_w19_awake⟩ := by
 refine SpecOK.tab (S := S3.summ) (f := 5) rfl fun x y G H vals hy hA => ?_
 rw [show vals = [] from hA]
 cases hy
 exact ⟨[.bool true], [.no], rfl, ⟨_, _, rfl, rfl, rfl, rfl⟩, fun k hk b hb => by cases List.mem_singleton.1 hk; exact (Rk.no_has hb).elim⟩
theorem tabA : OKL P0 S3.summ effs L0 := by
 refine ⟨fun g hg he => ?_, fun f sp hf => ?_⟩
 ·unfold L0 at hg
  rw [findS_cons] at hg
  split at hg
  ·cases hg
  rename_i e5
  have n5 : Nat.beq g 5 = false := by cases h : Nat.beq g 5 with | false => rfl | true => exact absurd (Nat.eq_of_beq_eq_true h).symm e5
  unfold S3 PSumm.summ PSumm.put
  rw [n5]
  rfl
 ·unfold L0 at hf
  rw [findS_cons] at hf
  split at hf
  ·rename_i e; subst e; cases hf; exact spec5
  ·cases hf
end
end Go.Proofs.YtomnbibmflodlaaDoor
