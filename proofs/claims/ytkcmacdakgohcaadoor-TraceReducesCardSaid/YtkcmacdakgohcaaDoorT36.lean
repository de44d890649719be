/- What holds of the program as a whole; the functions that a table answers. -/

import Derived.Test.YtkcmacdakgohcaaDoorCards
import Derived.Test.YtkcmacdakgohcaaDoorTie
import Derived.SevenTiedAt
import Derived.LaidMore
import Derived.MakeChecks
import Derived.Test.YtkcmacdakgohcaaDoorE36a
import Derived.Test.YtkcmacdakgohcaaDoorQ36
set_option linter.unusedVariables false
set_option linter.unusedSimpArgs false
set_option linter.unusedSectionVars false
open Go Go.AM Go.TM
namespace Go.Proofs.YtkcmacdakgohcaaDoor
theorem follows_ok : Tryd.prog.follows .mixedOrders = true := by kernel_rfl
theorem namesB_ok : AM.namesB Tryd.prog = true := by kernel_rfl
theorem codesB_ok : AM.codesB Tryd.prog = true := by kernel_rfl
theorem pok : POk2 Tryd.prog := AM.pok_of follows_ok namesB_ok codesB_ok
theorem own : ownKnob Tryd.prog.godebug = none := by kernel_rfl
theorem laidOut : laidOutB Tryd.prog = true := by kernel_rfl
section
attribute [local instance] EQ
theorem sizeOk : ∀ W : World, W.ShapedOpen Tryd.prog → Tryd.prog.globals.size ≤ W.heap.size := AM.shaped_size (by kernel_rfl)
theorem glob3 : P0.globals.size = 3 := by kernel_rfl
theorem flatAll {cs : Array Value} (h : cs.toList.all flat1 = true) : ∀ i (h : i < cs.size), Closed cs[i] := fun i hi => .flat _ (List.all_eq_true.1 h _ (by simp))
theorem glFlat : @GlFlat EQ := fun g cs hg => by
 have hg : G0 g = some cs := hg
 unfold G0 at hg
 split at hg
 ·cases hg; exact flatAll rfl
 ·cases hg; exact flatAll rfl
 ·cases hg
abbrev laidL : List (String × DataW Unit) := [("netlab/trace.inverted", Rows.laid_netlab_trace_inverted), ("netlab/trace.both", Rows.laid_netlab_trace_both)]
theorem gokK {W : World} (h : laidMetH Tryd.prog laidL W) : GOk Tryd.prog (inMap Tryd.prog.globals.size W) := by
 rw [MakeChecks.laidMetH_plain _ _ _ (by kernel_rfl)] at h
 refine AM.gok_of (G0 := G0) h fun g cs hg => ?_
 unfold G0 at hg
 split at hg
 ·cases hg; exact ⟨"netlab/trace.inverted", _, List.mem_cons_self .., by kernel_rfl, by kernel_rfl⟩
 ·cases hg; exact ⟨"netlab/trace.both", _, List.mem_cons_of_mem _ (List.mem_cons_self ..), by kernel_rfl, by kernel_rfl⟩
 ·cases hg
end
theorem gokA {W : World} (h : laidMetH Tryd.prog laidL W) : @GOk EQA Tryd.prog (inMap Tryd.prog.globals.size W) := gokK h
theorem door_met (os : Os) (args : Array Value) : laidMetH Tryd.prog laidL ((World.doorLaid Tryd.prog 400 os).forCall (fun _ _ => 0) ⟨#[], args, []⟩).memory :=
 laidMetH_of_parts3 (fuel := 8) (laidMet_of_run' 8 (by kernel_rfl) (by kernel_rfl)) (by kernel_rfl) (by kernel_rfl)
section
attribute [local instance] EQ
theorem ok1 : SummOK P0 S1.summ := put_flat PSumm.none_ok fun us v h => smIdx_ok Tryd.func105 (by kernel_rfl) (fun x y => by kernel_rfl) h
theorem ok2 : SummOK P0 S2.summ := by
 refine PSumm.put_ok ok1 fun args g d hd m H w args' hg hR hG ha => ?_
 split at hd
 ·cases hd
  exact call_same Tryd.func101 (by kernel_rfl) (fun x => by kernel_rfl) m H w args' hR hG ha
 ·cases hd
theorem awake_gives : Gives P0 17 [] (.bool true) := gives_bool pok ok2 glFlat glob3 rfl awake_ev
end
section
attribute [local instance] EQA
theorem ok1A : SummOK P0 S1.summ := put_flat PSumm.none_ok fun us v h => smIdx_ok Tryd.func105 (by kernel_rfl) (fun x y => by kernel_rfl) h
theorem ok2A : SummOK P0 S2.summ := by
 refine PSumm.put_ok ok1A fun args g d hd m H w args' hg hR hG ha => ?_
 split at hd
 ·cases hd
  exact call_same Tryd.func101 (by kernel_rfl) (fun x => by kernel_rfl) m H w args' hR hG ha
 ·cases hd
theorem okA : SummOK P0 S3.summ := by
 refine PSumm.put_ok ok2A fun args g d hd m H w args' hg hR hG ha => ?_
 split at hd
 ·cases hd
  exact awake_gives m H w args' hR hG ha
 ·cases hd
theorem baseA : TBase P0 S3.summ gl effs := by
 refine ⟨fun v => (EqV.all_eq G0 v v).2 rfl, fun g cs hg => ?_, fun f ef h => ?_⟩
 ·unfold gl at hg
  split at hg
  ·cases hg; exact ⟨_, rfl, rfl⟩
  ·cases hg; exact ⟨_, rfl, rfl⟩
  ·cases hg
 ·unfold effs at h
  cases e : Nat.beq f 101 with
  | false => rw [e] at h; cases h
  | true =>
   rw [e] at h
   cases h
   have := Nat.eq_of_beq_eq_true e
   subst this
   exact EffOK.ident (S := S3.summ) rfl fun x H => rfl
theorem spec17 : SpecOK (evL P0 S3.summ) 17 ⟨[], [.bool], [.no], fun _ => F_w36_awake⟩ := by
 refine SpecOK.tab (S := S3.summ) (f := 17) rfl fun x y G H vals hy hA => ?_
 rw [show vals = [] from hA]
 cases hy
 exact ⟨[.bool true], [.no], rfl, ⟨_, _, rfl, rfl, rfl, rfl⟩, fun k hk b hb => by cases List.mem_singleton.1 hk; exact (Rk.no_has hb).elim⟩
theorem spec105 : SpecOK (evL P0 S3.summ) 105 ⟨[.str, .int .u8], [.int .i64], [.no], fun x => F_bytealg_IndexByteString x.1 x.2⟩ := by
 refine SpecOK.tab (S := S3.summ) (f := 105) rfl fun x y G H vals hy hA => ?_
 obtain ⟨v1, vs1, rfl, hv1, v2, rfl, hv2⟩ := hA
 obtain ⟨s, c⟩ := x
 have e1 : v1 = .string ⟨s.toArray⟩ := by
  have : DC G .str s [v1] := by simpa [ValR, Ty.isSt] using hv1
  simpa [DC] using this
 have e2 : v2 = .int .u8 c := by
  have : DC G (.int .u8) c [v2] := by simpa [ValR, Ty.isSt] using hv2
  simpa [DC] using this
 subst e1; subst e2
 unfold F_bytealg_IndexByteString at hy
 split at hy
 ·rename_i hc
  cases hy
  obtain ⟨n, rfl⟩ : ∃ n : Nat, c = .ofNat n := ⟨c.toNat, (Int.toNat_of_nonneg hc.1).symm⟩
  have hb : Nat.blt n 256 = true := by
   have h2 : (n : Int) < 256 := hc.2
   rw [Nat.blt_eq]; omega
  refine ⟨[.int .i64 (idxL n s 0)], [.no], ?_, ⟨_, _, rfl, rfl, rfl, ?_⟩, fun k hk b hb => by cases List.mem_singleton.1 hk; exact (Rk.no_has hb).elim⟩
  ·show ((Bool.rec none (some (.int .i64 (idxL n s 0))) (Nat.blt n 256) : Option Value).map fun v => (v, H)) = _
   rw [hb]; rfl
  ·simp [ValR, Ty.isSt, DC]
 ·cases hy
theorem tabA : OKL P0 S3.summ effs L0 := by
 refine ⟨fun g hg he => ?_, fun f sp hf => ?_⟩
 ·unfold L0 at hg
  rw [findS_cons] at hg
  split at hg
  ·cases hg
  rename_i e17
  rw [findS_cons] at hg
  split at hg
  ·cases hg
  rename_i e105
  have n17 : Nat.beq g 17 = false := by cases h : Nat.beq g 17 with | false => rfl | true => exact absurd (Nat.eq_of_beq_eq_true h).symm e17
  have n105 : Nat.beq g 105 = false := by cases h : Nat.beq g 105 with | false => rfl | true => exact absurd (Nat.eq_of_beq_eq_true h).symm e105
  have n101 : Nat.beq g 101 = false := by
   unfold effs at he
   cases h : Nat.beq g 101 with
   | false => rfl
   | true => rw [h] at he; cases he
  unfold S3 S2 S1 PSumm.summ PSumm.put
  rw [n17, n101, n105]
  rfl
 ·unfold L0 at hf
  rw [findS_cons] at hf
  split at hf
  ·rename_i e; subst e; cases hf; exact spec17
  rw [findS_cons] at hf
  split at hf
  ·rename_i e; subst e; cases hf; exact spec105
  ·cases hf
end
end Go.Proofs.YtkcmacdakgohcaaDoor
