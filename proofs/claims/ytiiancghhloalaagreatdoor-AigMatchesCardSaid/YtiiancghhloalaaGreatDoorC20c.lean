/- Proved: AigMatches returns true for every input; the conditions are the row's own. -/

import Derived.Test.YtiiancghhloalaaGreatDoorT20
import Derived.Test.YtiiancghhloalaaGreatDoorL20
set_option linter.unusedVariables false
set_option linter.unusedSimpArgs false
set_option linter.unusedSectionVars false
open Go Go.AM Go.TM
namespace Go.Proofs.YtiiancghhloalaaGreatDoor
attribute [local instance] EQA
set_option maxRecDepth 100000 in
theorem lifted (os : Os) (started : os.Started) (H : Type) (enc : TypeId × Value → H) :
  ReturnsInHanded {} Tryz.checked os 9 .any (fun w args => (Rows.aigMatchesSpec.pre enc Tryz.prog Tryz.f9 [] false w args ∧ laidMetH Tryz.prog laidL w) ∧ sizedMet enc Tryz.prog Tryz.f9 (OpenSpec.ofChange Rows.aigMatchesSpec) false w args)
   (Rows.aigMatchesSpec.post enc Tryz.prog Tryz.f9 false true false false) :=
 law_lifted (C := Tryz.checked) (X := fun w _ => laidMetH Tryz.prog laidL w) pok own started (by kernel_rfl) Tryz.func9 (by kernel_rfl) (fun _ _ _ hh h => h.of_heap hh)
  (ChangeSpec.witness_shaped (enc := enc) (C := Tryz.checked) (os := os) (X := fun w _ => laidMetH Tryz.prog laidL w) false (W0 os) #[.agg #[.int .i64 0, .slice none 0 0, .slice none 0 0, .slice none 0 0], .slice none 0 0, .slice none 0 0] 8 (World.laidAll_os _ _ _) (W0_shaped os) (by kernel_rfl) (by kernel_rfl) (by kernel_rfl) (door_met os _))
  rfl (fun ds hd => by match ds, hd with | [d1, d2, d3], _ => rfl) (Ts := [yAig, yBools, yBools]) (by kernel_rfl) (by kernel_rfl) laidOut (rt := 4) (by kernel_rfl) Tryz.underlying4 sizeOk (fun W _ _ h => gokA h) (S := S3.summ) okA (OKL.get (ok_w20_AigMatches baseA tabA) (by kernel_rfl)) matches_law
theorem holds : Rows.AigMatchesSaid :=
 OpenClaim.holds_of_wide 9 Tryz.f9 rfl rfl rfl rfl rfl rfl rfl ⟨rfl, rfl, rfl, rfl, rfl⟩ rfl rfl rfl rfl rfl (by kernel_rfl) Tryz.func9 (by kernel_rfl)
  (of_decide_eq_true (by kernel_rfl)) (by unfold Func.isWrapper; first | (rw [if_pos (by decide +kernel)]; kernel_rfl) | (rw [if_neg (by decide +kernel)]; exact ⟨rfl, rfl⟩))
  (fun os started H enc _ => lifted os started H enc)
theorem card : Rows.AigMatchesCardSaid :=
 Claim7.holds_tied_plain_at .later [] [.data, .data, .data, .data, .sentinel, .sentinel, .pinned] true (true, "c9aa291a576c7691b3d70bb04f4bf72ea702a6559296e0c6408491d0c6af6747") true
  holds (fun _ h => by cases h) (by kernel_rfl) (fun _ h => by cases h) aigMatches_row_tie rfl ⟨rfl, rfl⟩ (by kernel_rfl) rfl
  (fun f fn hf hfn => by
   obtain rfl : f = 9 := Option.some.inj ((show Tryz.prog.funcNamed "netlab/netlablaw20.AigMatches" = some 9 by kernel_rfl).symm.trans hf) |>.symm
   obtain rfl : fn = Tryz.f9 := (Option.some.inj (Tryz.func9.symm.trans hfn)).symm
   exact ⟨by kernel_rfl, fun j t ht => by
    rw [Tryz.params9] at ht
    have hm : t ∈ [26, 49, 49] := by simpa using Array.mem_of_getElem? ht
    have hall : ([26, 49, 49].all fun u => !Tryz.prog.wantsStandIn u) = true := by kernel_rfl
    exact (show Tryz.prog.wantsStandIn t = false by simpa using List.all_eq_true.1 hall t hm)⟩)
  (by kernel_rfl)
#print axioms card
end Go.Proofs.YtiiancghhloalaaGreatDoor
