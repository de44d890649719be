/- Proved: VcdDiffers returns true for every input; the conditions are the row's own. -/

import Derived.Test.YtgpligmjbecbjaaDoorT19
import Derived.Test.YtgpligmjbecbjaaDoorL19
set_option linter.unusedVariables false
set_option linter.unusedSimpArgs false
set_option linter.unusedSectionVars false
open Go Go.AM Go.TM
namespace Go.Proofs.YtgpligmjbecbjaaDoor
attribute [local instance] EQA
set_option maxRecDepth 100000 in
theorem lifted (os : Os) (started : os.Started) (H : Type) (enc : TypeId × Value → H) :
  ReturnsInHanded {} Tryd.checked os 4 .any (fun w args => (Rows.vcdDiffersSpec.pre enc Tryd.prog Tryd.f4 [] false w args ∧ laidMetH Tryd.prog laidL w) ∧ sizedMet enc Tryd.prog Tryd.f4 (OpenSpec.ofChange Rows.vcdDiffersSpec) false w args)
   (Rows.vcdDiffersSpec.post enc Tryd.prog Tryd.f4 false true false false) :=
 law_lifted (C := Tryd.checked) (X := fun w _ => laidMetH Tryd.prog laidL w) pok own started (by kernel_rfl) Tryd.func4 (by kernel_rfl) (fun _ _ _ hh h => h.of_heap hh)
  (ChangeSpec.witness_shaped (enc := enc) (C := Tryd.checked) (os := os) (X := fun w _ => laidMetH Tryd.prog laidL w) false (W0 os) #[.agg #[.string ⟨#[]⟩, .slice none 0 0, .slice none 0 0], .agg #[.string ⟨#[]⟩, .slice none 0 0, .slice none 0 0]] 8 (World.laidAll_os _ _ _) (W0_shaped os) (by kernel_rfl) (by kernel_rfl) (by kernel_rfl) (door_met os _))
  rfl (fun ds hd => by match ds, hd with | [d1, d2], _ => rfl) (Ts := [yWave, yWave]) (by kernel_rfl) (by kernel_rfl) laidOut (rt := 4) (by kernel_rfl) Tryd.underlying4 sizeOk (fun W _ _ h => gokA h) (S := S3.summ) okA (OKL.get (ok_w19_VcdDiffers baseA tabA) (by kernel_rfl)) differs_law'
theorem holds : Rows.VcdDiffersSaid :=
 OpenClaim.holds_of_wide 4 Tryd.f4 rfl rfl rfl rfl rfl rfl rfl ⟨rfl, rfl, rfl, rfl, rfl⟩ rfl rfl rfl rfl rfl (by kernel_rfl) Tryd.func4 (by kernel_rfl)
  (of_decide_eq_true (by kernel_rfl)) (by unfold Func.isWrapper; first | (rw [if_pos (by decide +kernel)]; kernel_rfl) | (rw [if_neg (by decide +kernel)]; exact ⟨rfl, rfl⟩))
  (fun os started H enc _ => lifted os started H enc)
theorem card : Rows.VcdDiffersCardSaid :=
 Claim7.holds_tied_plain_at .later [] [.data, .data, .data, .data, .pinned] true (true, "38faf3e8153511e83f7a38ca09fc92d67be866c309f8532b16e0b0b0bba484f3") false
  holds (fun _ h => by cases h) (by kernel_rfl) (fun _ h => by cases h) vcdDiffers_row_tie rfl ⟨rfl, rfl⟩ (by kernel_rfl) rfl
  (fun f fn hf hfn => by
   obtain rfl : f = 4 := Option.some.inj ((show Tryd.prog.funcNamed "netlab/netlablaw19.VcdDiffers" = some 4 by kernel_rfl).symm.trans hf) |>.symm
   obtain rfl : fn = Tryd.f4 := (Option.some.inj (Tryd.func4.symm.trans hfn)).symm
   exact ⟨by kernel_rfl, fun j t ht => by
    rw [Tryd.params4] at ht
    have hm : t ∈ [25, 25] := by simpa using Array.mem_of_getElem? ht
    have hall : ([25, 25].all fun u => !Tryd.prog.wantsStandIn u) = true := by kernel_rfl
    exact (show Tryd.prog.wantsStandIn t = false by simpa using List.all_eq_true.1 hall t hm)⟩)
  (by kernel_rfl)
#print axioms card
end Go.Proofs.YtgpligmjbecbjaaDoor
