/- What holds of the program as a whole; the functions that a table answers. -/
import Derived.Test.YtkcmacdakgohcaaDoorCards
import Derived.Test.YtkcmacdakgohcaaDoorTie
import Derived.SevenTiedAt
import Derived.LaidMore
import Derived.MakeChecks
import Derived.Test.YtkcmacdakgohcaaDoorE36a
import Derived.Test.YtkcmacdakgohcaaDoorQ36
set_option linter.unusedVariables false
set_option linter.unusedSimpArgs false
set_option linter.unusedSectionVars false
open Go Go.AM Go.TM
namespace Go.Proofs.YtkcmacdakgohcaaDoor
theorem follows_ok : Tryd.prog.follows .mixedOrders = true := by kernel_rfl
theorem namesB_ok : AM.namesB Tryd.prog = true := by kernel_rfl
theorem codesB_ok : AM.codesB Tryd.prog = true := by kernel_rfl
theorem pok : POk2 Tryd.prog := AM.pok_of follows_ok namesB_ok codesB_ok
theorem own : ownKnob Tryd.prog.godebug = none := by kernel_rfl
theorem laidOut : laidOutB Tryd.prog = true := by kernel_rfl
section
attribute [local instance] EQ
theorem sizeOk : ∀ W : World, W.ShapedOpen Tryd.prog → Tryd.prog.globals.size ≤ W.heap.size := AM.shaped_size (by kernel_rfl)
theorem glob3 : P0.globals.size = 3 := by kernel_rfl
theorem flatAll {cs : Array Value} (h : cs.toList.all flat1 = true) : ∀ i (h : i < cs.size), Closed cs[i] := fun i hi => .flat _ (List.all_eq_true.1 h _ (by simp))
theorem glFlat : @GlFlat EQ := fun g cs hg => by
  have hg : G0 g = some cs := hg
  unfold G0 at hg
  split at hg
  · cases hg; exact flatAll rfl
  · cases hg; exact flatAll rfl
  · cases hg
abbrev laidL : List (String × DataW Unit) := [("netlab/trace.inverted", Rows.laid_netlab_trace_inverted), ("netlab/trace.both", Rows.laid_netlab_trace_both)]
theorem gokK {W : World} (h : laidMetH Tryd.prog laidL W) : GOk Tryd.prog (inMap Tryd.prog.globals.size W) := by
  rw [MakeChecks.laidMetH_plain _ _ _ (by kernel_rfl)] at h
  refine AM.gok_of (G0 := G0) h fun g cs hg => ?_
  unfold G0 at hg
  split at hg
  · cases hg; exact ⟨"netlab/trace.inverted", _, List.mem_cons_self .., by kernel_rfl, by kernel_rfl⟩
  · cases hg; exact ⟨"netlab/trace.both", _, List.mem_cons_of_mem _ (List.mem_cons_self ..), by kernel_rfl, by kernel_rfl⟩
  · cases hg
end
theorem gokA {W : World} (h : laidMetH Tryd.prog laidL W) : @GOk EQA Tryd.prog (inMap Tryd.prog.globals.size W) := gokK h
theorem door_met (os : Os) (args : Array Value) : laidMetH Tryd.prog laidL ((World.doorLaid Tryd.prog 400 os).forCall (fun _ _ => 0) ⟨#[], args, []⟩).memory :=
  laidMetH_of_parts3 (fuel := 8) (laidMet_of_run' 8 (by kernel_rfl) (by kernel_rfl)) (by kernel_rfl) (by kernel_rfl)
/-! The summaries hold -/
section
attribute [local instance] EQ
theorem ok1 : SummOK P0 S1.summ := put_flat PSumm.none_ok fun us v h => smIdx_ok Tryd.func105 (by kernel_rfl) (fun x y => by kernel_rfl) h
theorem ok2 : SummOK P0 S2.summ := by
  refine PSumm.put_ok ok1 fun args g d hd m H w args' hg hR hG ha => ?_
  split at hd
  · cases hd
    exact call_same Tryd.func101 (by kernel_rfl) (fun x => by kernel_rfl) m H w args' hR hG ha
  · cases hd
theorem awake_gives : Gives P0 17 [] (.bool true) := gives_bool pok ok2 glFlat glob3 rfl awake_ev
end
/-- The table: the chapter's examples hold. -/
noncomputable def SA : PSumm := PSumm.none.put 17 fun args _ => match args with
  | [] => some (.bool true)
  | _ => none
theorem okA : @SummOK EQA P0 SA.summ := by
  refine @PSumm.put_ok EQA _ _ (@PSumm.none_ok EQA _) _ _ fun args g d hd m H w args' hg hR hG ha => ?_
  split at hd
  · cases hd
    exact awake_gives m H w args' hR hG ha
  · cases hd
theorem baseA : @TBase P0 SA.summ gl effs EQA := by
  refine @TBase.mk _ _ _ _ EQA (fun v => (EqV.all_eq G0 v v).2 rfl) (fun g cs hg => ?_) fun f ef h => ?_
  · unfold gl at hg
    split at hg
    · cases hg; exact ⟨_, rfl, rfl⟩
    · cases hg; exact ⟨_, rfl, rfl⟩
    · cases hg
  · cases h
theorem tabA : @OKL P0 SA.summ EQA L0 := by
  refine ⟨fun g hg => ?_, fun f sp hf => ?_⟩
  · unfold L0 at hg
    rw [findS_cons] at hg
    split at hg
    · cases hg
    · rename_i e
      unfold SA PSumm.summ PSumm.put
      rw [show Nat.beq g 17 = false from by cases h : Nat.beq g 17 with | false => rfl | true => exact absurd (Nat.eq_of_beq_eq_true h).symm e]
      rfl
  · unfold L0 at hf
    rw [findS_cons] at hf
    split at hf
    · rename_i e; subst e
      cases hf
      refine @SpecOK.tab P0 SA.summ EQA 17 _ rfl _ _ _ _ fun x y G H vals hy hA => ?_
      rw [show vals = [] from hA]
      cases hy
      exact ⟨[.bool true], [none], rfl, ⟨_, _, rfl, rfl, rfl, rfl⟩, fun b hb => by simp at hb⟩
    · cases hf
end Go.Proofs.YtkcmacdakgohcaaDoor
