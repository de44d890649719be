/- What holds of the program as a whole; the functions that a table answers. -/

import Derived.Test.YtiiancghhloalaaGreatDoorCards
import Derived.Test.YtiiancghhloalaaGreatDoorTie
import Derived.SevenTiedAt
import Derived.LaidMore
import Derived.Lay
import Derived.MakeChecks
import Derived.Test.YtiiancghhloalaaGreatDoorE20a
import Derived.Test.YtiiancghhloalaaGreatDoorQ20
set_option linter.unusedVariables false
set_option linter.unusedSimpArgs false
set_option linter.unusedSectionVars false
open Go Go.AM Go.TM
namespace Go.Proofs.YtiiancghhloalaaGreatDoor
theorem follows_ok : Tryz.prog.follows .mixedOrders = true := by kernel_rfl
theorem namesB_ok : AM.namesB Tryz.prog = true := by kernel_rfl
theorem codesB_ok : AM.codesB Tryz.prog = true := by kernel_rfl
theorem pok : POk2 Tryz.prog := AM.pok_of follows_ok namesB_ok codesB_ok
theorem own : ownKnob Tryz.prog.godebug = none := by kernel_rfl
theorem laidOut : laidOutB Tryz.prog = true := by kernel_rfl
section
attribute [local instance] EQ
theorem sizeOk : ∀ W : World, W.ShapedOpen Tryz.prog → Tryz.prog.globals.size ≤ W.heap.size := AM.shaped_size (by kernel_rfl)
theorem glFlat : @GlFlat EQ := fun g cs hg => by cases (show (none : Option (Array Value)) = some cs from hg)
end
abbrev laidL : List (String × DataW Unit) := [("math/bits.deBruijn32tab", Rows.laid_math_bits_deBruijn32tab), ("math/bits.deBruijn64tab", Rows.laid_math_bits_deBruijn64tab), ("internal/strconv.uint64pow10", Rows.laid_internal_strconv_uint64pow10), ("unicode/utf8.acceptRanges", Rows.laid_unicode_utf8_acceptRanges), ("strconv.ErrRange", Rows.laid_strconv_ErrRange), ("strconv.ErrSyntax", Rows.laid_strconv_ErrSyntax), ("unicode/utf8.first", Rows.laid_unicode_utf8_first)]
theorem gokA {W : World} (h : laidMetH Tryz.prog laidL W) : @GOk EQA Tryz.prog (inMap Tryz.prog.globals.size W) := by
 intro g hg
 refine ⟨by simp only [inMap, if_pos hg], fun cs hcs => by cases (show (none : Option (Array Value)) = some cs from hcs)⟩
noncomputable abbrev W0 (os : Os) : World := World.laidAll Tryz.prog os laidL
theorem W0_shaped (os : Os) : (W0 os).Shaped Tryz.prog := World.shaped_of_ZipB (by kernel_rfl) (by kernel_rfl)
theorem door_met (os : Os) (args : Array Value) : laidMetH Tryz.prog laidL ((W0 os).forCall (fun _ _ => 0) ⟨#[], args, []⟩).memory := by
 rw [MakeChecks.laidMetH_plain _ _ _ (by kernel_rfl)]; exact laidMet_laidAll _ (by kernel_rfl) (by kernel_rfl)
section
attribute [local instance] EQ
theorem ok1 : SummOK P0 S1.summ := put_flat PSumm.none_ok fun us v h => smIdx_ok Tryz.func165 (by kernel_rfl) (fun x y => by kernel_rfl) h
theorem ok2 : SummOK P0 S2.summ := by
 refine PSumm.put_ok ok1 fun args g d hd m H w args' hg hR hG ha => ?_
 split at hd
 ·cases hd
  exact call_same Tryz.func121 (by kernel_rfl) (fun x => by kernel_rfl) m H w args' hR hG ha
 ·cases hd
theorem awake_gives : Gives P0 18 [] (.bool true) := gives_bool pok ok2 glFlat globN rfl awake_ev
end
section
attribute [local instance] EQA
theorem okA : SummOK P0 S3.summ := by
 refine PSumm.put_ok PSumm.none_ok fun args g d hd m H w args' hg hR hG ha => ?_
 split at hd
 ·cases hd
  exact awake_gives m H w args' hR hG ha
 ·cases hd
theorem baseA : TBase P0 S3.summ gl effs := by
 refine ⟨fun v => (EqV.all_eq G0 v v).2 rfl, fun g cs hg => ?_, fun f ef h => ?_⟩
 ·cases (show (none : Option (List TV)) = some cs from hg)
 ·cases (show (none : Option _) = some ef from h)
theorem spec18 : SpecOK (evL P0 S3.summ) 18 ⟨[], [.bool], [.no], fun _ => F_w20_awake⟩ := by
 refine SpecOK.tab (S := S3.summ) (f := 18) rfl fun x y G H vals hy hA => ?_
 rw [show vals = [] from hA]
 cases hy
 exact ⟨[.bool true], [.no], rfl, ⟨_, _, rfl, rfl, rfl, rfl⟩, fun k hk b hb => by cases List.mem_singleton.1 hk; exact (Rk.no_has hb).elim⟩
theorem tabA : OKL P0 S3.summ effs L0 := by
 refine ⟨fun g hg he => ?_, fun f sp hf => ?_⟩
 ·unfold L0 at hg
  rw [findS_cons] at hg
  split at hg
  ·cases hg
  rename_i e18
  have n18 : Nat.beq g 18 = false := by cases h : Nat.beq g 18 with | false => rfl | true => exact absurd (Nat.eq_of_beq_eq_true h).symm e18
  unfold S3 PSumm.summ PSumm.put
  rw [n18]
  rfl
 ·unfold L0 at hf
  rw [findS_cons] at hf
  split at hf
  ·rename_i e; subst e; cases hf; exact spec18
  ·cases hf
end
end Go.Proofs.YtiiancghhloalaaGreatDoor
