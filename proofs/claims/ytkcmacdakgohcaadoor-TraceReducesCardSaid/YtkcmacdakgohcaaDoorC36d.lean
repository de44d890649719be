/- Proved: TraceReduces returns true for every input; the conditions are the row's own. -/

import Derived.Test.YtkcmacdakgohcaaDoorT36
import Derived.Test.YtkcmacdakgohcaaDoorL36
set_option linter.unusedVariables false
set_option linter.unusedSimpArgs false
set_option linter.unusedSectionVars false
open Go Go.AM Go.TM
namespace Go.Proofs.YtkcmacdakgohcaaDoor
attribute [local instance] EQA
set_option maxRecDepth 100000 in
theorem lifted (os : Os) (started : os.Started) (H : Type) (enc : TypeId × Value → H) :
  ReturnsInHanded {} Tryd.checked os 7 .any (fun w args => (Rows.traceReducesSpec.pre enc Tryd.prog Tryd.f7 [] false w args ∧ laidMetH Tryd.prog laidL w) ∧ sizedMet enc Tryd.prog Tryd.f7 (OpenSpec.ofChange Rows.traceReducesSpec) false w args)
   (Rows.traceReducesSpec.post enc Tryd.prog Tryd.f7 false true false false) :=
 law_lifted (C := Tryd.checked) (X := fun w _ => laidMetH Tryd.prog laidL w) pok own started (by kernel_rfl) Tryd.func7 (by kernel_rfl) (fun _ _ _ hh h => h.of_heap hh)
  (ChangeSpec.witness_shaped (enc := enc) (C := Tryd.checked) (os := os) (X := fun w _ => laidMetH Tryd.prog laidL w) false (World.doorLaid Tryd.prog 400 os) #[.agg #[.int .i64 0, .slice none 0 0, .slice none 0 0, .slice none 0 0], .int .i64 0, .slice none 0 0, .int .u64 0] 8 rfl (World.shaped_of_RefB (by kernel_rfl) (by kernel_rfl)) (by kernel_rfl) (by kernel_rfl) (by kernel_rfl) (door_met os _))
  rfl (fun ds hd => by match ds, hd with | [d1, d2, d3, d4], _ => rfl) (Ts := [yAig, .int .i64, yNums, .int .u64]) (by kernel_rfl) (by kernel_rfl) laidOut (rt := 4) (by kernel_rfl) Tryd.underlying4 sizeOk (fun W _ _ h => gokA h) (S := S3.summ) okA (OKL.get (ok_w36_TraceReduces baseA tabA) (by kernel_rfl)) reduces_law
theorem holds : Rows.TraceReducesSaid :=
 OpenClaim.holds_of_wide 7 Tryd.f7 rfl rfl rfl rfl rfl rfl rfl ⟨rfl, rfl, rfl, rfl, rfl⟩ rfl rfl rfl rfl rfl (by kernel_rfl) Tryd.func7 (by kernel_rfl)
  (of_decide_eq_true (by kernel_rfl)) (by unfold Func.isWrapper; first | (rw [if_pos (by decide +kernel)]; kernel_rfl) | (rw [if_neg (by decide +kernel)]; exact ⟨rfl, rfl⟩))
  (fun os started H enc _ => lifted os started H enc)
theorem card : Rows.TraceReducesCardSaid :=
 Claim7.holds_tied_plain_at .later [] [.data, .data] true (true, "75493b190134aab016bb0c119249fd738a76d3c8bdf04a4d06ed3cd5ae69473c") false
  holds (fun _ h => by cases h) (by kernel_rfl) (fun _ h => by cases h) traceReduces_row_tie rfl ⟨rfl, rfl⟩ (by kernel_rfl) rfl
  (fun f fn hf hfn => by
   obtain rfl : f = 7 := Option.some.inj ((show Tryd.prog.funcNamed "netlab/netlablaw36.TraceReduces" = some 7 by kernel_rfl).symm.trans hf) |>.symm
   obtain rfl : fn = Tryd.f7 := (Option.some.inj (Tryd.func7.symm.trans hfn)).symm
   exact ⟨by kernel_rfl, fun j t ht => by
    rw [Tryd.params7] at ht
    have hm : t ∈ [38, 3, 53, 54] := by simpa using Array.mem_of_getElem? ht
    have hall : ([38, 3, 53, 54].all fun u => !Tryd.prog.wantsStandIn u) = true := by kernel_rfl
    exact (show Tryd.prog.wantsStandIn t = false by simpa using List.all_eq_true.1 hall t hm)⟩)
  (by kernel_rfl)
#print axioms card
end Go.Proofs.YtkcmacdakgohcaaDoor
