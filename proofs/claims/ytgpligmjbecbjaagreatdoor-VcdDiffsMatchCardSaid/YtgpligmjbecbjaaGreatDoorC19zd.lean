/- Proved: VcdDiffsMatch returns true for every input; the conditions are the row's own. -/

import Derived.Test.YtgpligmjbecbjaaGreatDoorT19z
import Derived.Test.YtgpligmjbecbjaaGreatDoorL19
set_option linter.unusedVariables false
set_option linter.unusedSimpArgs false
set_option linter.unusedSectionVars false
open Go Go.AM Go.TM
namespace Go.Proofs.YtgpligmjbecbjaaGreatDoor
attribute [local instance] EQA
set_option maxRecDepth 100000 in
theorem lifted (os : Os) (started : os.Started) (H : Type) (enc : TypeId × Value → H) :
  ReturnsInHanded {} Tryz.checked os 4 .any (fun w args => (Rows.vcdDiffsMatchSpec.pre enc Tryz.prog Tryz.f4 [] false w args ∧ laidMetH Tryz.prog laidL w) ∧ sizedMet enc Tryz.prog Tryz.f4 (OpenSpec.ofChange Rows.vcdDiffsMatchSpec) false w args)
   (Rows.vcdDiffsMatchSpec.post enc Tryz.prog Tryz.f4 false true false false) :=
 law_lifted (C := Tryz.checked) (X := fun w _ => laidMetH Tryz.prog laidL w) pok own started (by kernel_rfl) Tryz.func4 (by kernel_rfl) (fun _ _ _ hh h => h.of_heap hh)
  (ChangeSpec.witness_shaped (enc := enc) (C := Tryz.checked) (os := os) (X := fun w _ => laidMetH Tryz.prog laidL w) false (W0 os) #[.agg #[.string ⟨#[]⟩, .slice none 0 0, .slice none 0 0], .agg #[.string ⟨#[]⟩, .slice none 0 0, .slice none 0 0], .int .i64 0, .bool false] 8 (World.laidAll_os _ _ _) (W0_shaped os) (by kernel_rfl) (by kernel_rfl) (by kernel_rfl) (door_met os _))
  rfl (fun ds hd => by match ds, hd with | [d1, d2, d3, d4], _ => rfl) (Ts := [yWave, yWave, .int .i64, .bool]) (by kernel_rfl) (by kernel_rfl) laidOut (rt := 4) (by kernel_rfl) Tryz.underlying4 sizeOk (fun W _ _ h => gokA h) (S := S3.summ) okA (OKL.get (ok_w19_VcdDiffsMatch baseA tabA) (by kernel_rfl)) diffsmatch_law'
theorem holds : Rows.VcdDiffsMatchSaid :=
 OpenClaim.holds_of_wide 4 Tryz.f4 rfl rfl rfl rfl rfl rfl rfl ⟨rfl, rfl, rfl, rfl, rfl⟩ rfl rfl rfl rfl rfl (by kernel_rfl) Tryz.func4 (by kernel_rfl)
  (of_decide_eq_true (by kernel_rfl)) (by unfold Func.isWrapper; first | (rw [if_pos (by decide +kernel)]; kernel_rfl) | (rw [if_neg (by decide +kernel)]; exact ⟨rfl, rfl⟩))
  (fun os started H enc _ => lifted os started H enc)
theorem card : Rows.VcdDiffsMatchCardSaid :=
 Claim7.holds_tied_plain_at .later [] [.data, .data, .data, .data, .pinned] true (true, "95686d123fc9860b574787d1864b8228fbb5980cb370ef41a3d6da9f75dc1425") false
  holds (fun _ h => by cases h) (by kernel_rfl) (fun _ h => by cases h) vcdDiffsMatch_row_tie rfl ⟨rfl, rfl⟩ (by kernel_rfl) rfl
  (fun f fn hf hfn => by
   obtain rfl : f = 4 := Option.some.inj ((show Tryz.prog.funcNamed "netlab/netlablaw19.VcdDiffsMatch" = some 4 by kernel_rfl).symm.trans hf) |>.symm
   obtain rfl : fn = Tryz.f4 := (Option.some.inj (Tryz.func4.symm.trans hfn)).symm
   exact ⟨by kernel_rfl, fun j t ht => by
    rw [Tryz.params4] at ht
    have hm : t ∈ [39, 39, 3, 4] := by simpa using Array.mem_of_getElem? ht
    have hall : ([39, 39, 3, 4].all fun u => !Tryz.prog.wantsStandIn u) = true := by kernel_rfl
    exact (show Tryz.prog.wantsStandIn t = false by simpa using List.all_eq_true.1 hall t hm)⟩)
  (by kernel_rfl)
#print axioms card
end Go.Proofs.YtgpligmjbecbjaaGreatDoor
