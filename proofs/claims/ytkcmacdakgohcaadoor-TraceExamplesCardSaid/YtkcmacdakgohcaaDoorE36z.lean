/- Proved: TraceExamples, the closed statement of the chapter, returns true; the conditions are the row's own. -/
import Derived.Test.YtkcmacdakgohcaaDoorCards
import Derived.Test.YtkcmacdakgohcaaDoorTie
import Derived.SevenTiedAt
import Derived.LaidMore
import Derived.MakeChecks
import Derived.Test.YtkcmacdakgohcaaDoorIx
import Derived.Test.YtkcmacdakgohcaaDoorE36a
import Derived.Test.YtkcmacdakgohcaaDoorE36t1
import Derived.Test.YtkcmacdakgohcaaDoorE36t2
import Derived.Test.YtkcmacdakgohcaaDoorE36t3
import Derived.Test.YtkcmacdakgohcaaDoorE36t4
import Derived.Test.YtkcmacdakgohcaaDoorE36p1
import Derived.Test.YtkcmacdakgohcaaDoorE36p2
import Derived.Test.YtkcmacdakgohcaaDoorE36p3
import Derived.Test.YtkcmacdakgohcaaDoorE36q
import Derived.Test.YtkcmacdakgohcaaDoorE36m
set_option linter.unusedVariables false
set_option linter.unusedSimpArgs false
set_option linter.unusedSectionVars false
open Go Go.AM
namespace Go.Proofs.YtkcmacdakgohcaaDoor
attribute [local instance] EQ
theorem follows_ok : Tryd.prog.follows .mixedOrders = true := by kernel_rfl
theorem namesB_ok : namesB Tryd.prog = true := by kernel_rfl
theorem codesB_ok : codesB Tryd.prog = true := by kernel_rfl
theorem pok : POk2 Tryd.prog := pok_of follows_ok namesB_ok codesB_ok
theorem own : ownKnob Tryd.prog.godebug = none := by kernel_rfl
theorem laidOut : laidOutB Tryd.prog = true := by kernel_rfl
theorem sizeOk : ∀ W : World, W.ShapedOpen Tryd.prog → Tryd.prog.globals.size ≤ W.heap.size := shaped_size (by kernel_rfl)
theorem glob3 : P0.globals.size = 3 := by kernel_rfl
theorem flatAll {cs : Array Value} (h : cs.toList.all flat1 = true) : ∀ i (h : i < cs.size), Closed cs[i] := fun i hi => .flat _ (List.all_eq_true.1 h _ (by simp))
theorem glFlat : GlFlat := fun g cs hg => by
  have hg : G0 g = some cs := hg
  unfold G0 at hg
  split at hg
  · cases hg; exact flatAll rfl
  · cases hg; exact flatAll rfl
  · cases hg
abbrev laidL : List (String × DataW Unit) := [("netlab/trace.inverted", Rows.laid_netlab_trace_inverted), ("netlab/trace.both", Rows.laid_netlab_trace_both)]
theorem gok {W : World} (h : laidMetH Tryd.prog laidL W) : GOk Tryd.prog (inMap Tryd.prog.globals.size W) := by
  rw [MakeChecks.laidMetH_plain _ _ _ (by kernel_rfl)] at h
  refine gok_of h fun g cs hg => ?_
  unfold G0 at hg
  split at hg
  · cases hg; exact ⟨ "netlab/trace.inverted", _, List.mem_cons_self .., by kernel_rfl, by kernel_rfl⟩
  · cases hg; exact ⟨ "netlab/trace.both", _, List.mem_cons_of_mem _ (List.mem_cons_self ..), by kernel_rfl, by kernel_rfl⟩
  · cases hg
theorem door_met (os : Os) (args : Array Value) : laidMetH Tryd.prog laidL ((World.doorLaid Tryd.prog 400 os).forCall (fun _ _ => 0) ⟨#[], args, []⟩).memory :=
  laidMetH_of_parts3 (fuel := 8) (laidMet_of_run' 8 (by kernel_rfl) (by kernel_rfl)) (by kernel_rfl) (by kernel_rfl)
/-! The summaries hold -/
theorem ok1 : SummOK P0 S1.summ := put_flat PSumm.none_ok fun us v h => smIdx_ok Tryd.func105 (by kernel_rfl) (fun x y => by kernel_rfl) h
theorem ok2 : SummOK P0 S2.summ := by
  refine PSumm.put_ok ok1 fun args g d hd m H w args' hg hR hG ha => ?_
  split at hd
  · cases hd
    exact call_same Tryd.func101 (by kernel_rfl) (fun x => by kernel_rfl) m H w args' hR hG ha
  · cases hd
theorem ok3 : SummOK P0 S3.summ := by
  refine PSumm.put_ok ok2 fun args g d hd m H w args' hg hR hG ha => ?_
  split at hd
  · cases hd
    exact gives_bool pok ok2 glFlat glob3 rfl awake_ev m H w args' hR hG ha
  · cases hd
theorem yes_ok {ds : List Value} {T : List (List Value)} {v : Value} (h : yes ds T = some v) : v = .bool true ∧ ds ∈ T := by
  unfold yes at h
  cases e : memVL ds T with
  | true => rw [e] at h; cases h; exact ⟨rfl, memVL_ok e⟩
  | false => rw [e] at h; cases h
theorem fact {S : PSumm} (hS : SummOK P0 S.summ) {f : FuncId} {T : List (List Value)} (hc : (T.all fun t => t.all (closedB 9)) = true) (h : allV (run S f) T = true) : ∀ ds ∈ T, Gives P0 f ds (.bool true) :=
  fun ds hd => gives_bool pok hS glFlat glob3 (List.all_eq_true.1 hc ds hd) (allV_ok h ds hd)
theorem table {S : PSumm} (hS : SummOK P0 S.summ) {f : FuncId} {T : List (List Value)} (h : ∀ ds ∈ T, Gives P0 f ds (.bool true)) : SummOK P0 (S.put f fun args g => (deepL g args).bind fun ds => yes ds T).summ :=
  put_deep glFlat hS fun ds v hy => by
    obtain ⟨rfl, hm⟩ := yes_ok hy
    exact ⟨rfl, h ds hm⟩
theorem ok4 : SummOK P0 S4.summ := table ok3 fun ds hd => by
  rcases List.mem_append.1 hd with hd | hd
  · exact fact ok3 (by kernel_rfl) t1_ev ds hd
  rcases List.mem_append.1 hd with hd | hd
  · exact fact ok3 (by kernel_rfl) t2_ev ds hd
  rcases List.mem_append.1 hd with hd | hd
  · exact fact ok3 (by kernel_rfl) t3_ev ds hd
  · exact fact ok3 (by kernel_rfl) t4_ev ds hd
theorem ok5 : SummOK P0 S5.summ := table ok4 fun ds hd => by
  rcases List.mem_append.1 hd with hd | hd
  · exact fact ok4 (by kernel_rfl) p1_ev ds hd
  rcases List.mem_append.1 hd with hd | hd
  · exact fact ok4 (by kernel_rfl) p2_ev ds hd
  · exact fact ok4 (by kernel_rfl) p3_ev ds hd
theorem ok6 : SummOK P0 S6.summ := table ok5 (fact ok5 (by kernel_rfl) q_ev)
theorem main : Gives P0 10 [] (.bool true) := gives_bool pok ok6 glFlat glob3 rfl main_ev
set_option maxRecDepth 100000 in
theorem lifted (os : Os) (started : os.Started) (H : Type) (enc : TypeId × Value → H) :
    ReturnsInHanded {} Tryd.checked os 10 .any (fun w args => (Rows.traceExamplesSpec.pre enc Tryd.prog Tryd.f10 [] false w args ∧ laidMetH Tryd.prog laidL w) ∧ sizedMet enc Tryd.prog Tryd.f10 (OpenSpec.ofChange Rows.traceExamplesSpec) false w args)
      (Rows.traceExamplesSpec.post enc Tryd.prog Tryd.f10 false true false false) :=
  law_closed (C := Tryd.checked) (X := fun w _ => laidMetH Tryd.prog laidL w) own started (by kernel_rfl) Tryd.func10 (by kernel_rfl) (fun _ _ _ hh h => h.of_heap hh)
    (ChangeSpec.witness_shaped (enc := enc) (C := Tryd.checked) (os := os) (X := fun w _ => laidMetH Tryd.prog laidL w) false (World.doorLaid Tryd.prog 400 os) #[] 8 rfl (World.shaped_of_RefB (by kernel_rfl) (by kernel_rfl)) (by kernel_rfl) (by kernel_rfl) (by kernel_rfl) (door_met os _))
    rfl rfl (by kernel_rfl) laidOut (rt := 4) (by kernel_rfl) Tryd.underlying4 sizeOk (fun W _ _ h => gok h) main
theorem holds : Rows.TraceExamplesSaid :=
  OpenClaim.holds_of_wide 10 Tryd.f10 rfl rfl rfl rfl rfl rfl rfl ⟨rfl, rfl, rfl, rfl, rfl⟩ rfl rfl rfl rfl rfl (by kernel_rfl) Tryd.func10 (by kernel_rfl)
    (of_decide_eq_true (by kernel_rfl)) (by unfold Func.isWrapper; first | (rw [if_pos (by decide +kernel)]; kernel_rfl) | (rw [if_neg (by decide +kernel)]; exact ⟨rfl, rfl⟩))
    (fun os started H enc _ => lifted os started H enc)
theorem card : Rows.TraceExamplesCardSaid :=
  Claim7.holds_tied_plain_at .later [] [.data, .data] true (true, "75493b190134aab016bb0c119249fd738a76d3c8bdf04a4d06ed3cd5ae69473c") false
    holds (fun _ h => by cases h) (by kernel_rfl) (fun _ h => by cases h) traceExamples_row_tie rfl ⟨rfl, rfl⟩ (by kernel_rfl) rfl
    (fun f fn hf hfn => by
      obtain rfl : f = 10 := Option.some.inj ((show Tryd.prog.funcNamed "netlab/netlablaw36.TraceExamples" = some 10 by kernel_rfl).symm.trans hf) |>.symm
      obtain rfl : fn = Tryd.f10 := (Option.some.inj (Tryd.func10.symm.trans hfn)).symm
      exact ⟨by kernel_rfl, fun j t ht => by
        rw [Tryd.params10] at ht
        exact absurd ht (by simp)⟩)
    (by kernel_rfl)
#print axioms card
end Go.Proofs.YtkcmacdakgohcaaDoor
