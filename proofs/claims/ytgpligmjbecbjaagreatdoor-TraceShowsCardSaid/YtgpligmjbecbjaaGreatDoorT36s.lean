/- What holds of the program as a whole; the functions that a table answers. -/

import Derived.Test.YtgpligmjbecbjaaGreatDoorCards
import Derived.Test.YtgpligmjbecbjaaGreatDoorTie
import Derived.SevenTiedAt
import Derived.LaidMore
import Derived.Lay
import Derived.MakeChecks
import Derived.Test.YtgpligmjbecbjaaGreatDoorE36sa
import Derived.Test.YtgpligmjbecbjaaGreatDoorQ36s
set_option linter.unusedVariables false
set_option linter.unusedSimpArgs false
set_option linter.unusedSectionVars false
open Go Go.AM Go.TM
namespace Go.Proofs.YtgpligmjbecbjaaGreatDoor
theorem follows_ok : Tryz.prog.follows .mixedOrders = true := by kernel_rfl
theorem namesB_ok : AM.namesB Tryz.prog = true := by kernel_rfl
theorem codesB_ok : AM.codesB Tryz.prog = true := by kernel_rfl
theorem pok : POk2 Tryz.prog := AM.pok_of follows_ok namesB_ok codesB_ok
theorem own : ownKnob Tryz.prog.godebug = none := by kernel_rfl
theorem laidOut : laidOutB Tryz.prog = true := by kernel_rfl
section
attribute [local instance] EQ
theorem sizeOk : ∀ W : World, W.ShapedOpen Tryz.prog → Tryz.prog.globals.size ≤ W.heap.size := AM.shaped_size (by kernel_rfl)
theorem flatAll {cs : Array Value} (h : cs.toList.all flat1 = true) : ∀ i (h : i < cs.size), Closed cs[i] := fun i hi => .flat _ (List.all_eq_true.1 h _ (by simp))
theorem glFlat : @GlFlat EQ := fun g cs hg => by
 have hg : G0 g = some cs := hg
 unfold G0 at hg
 split at hg
 ·cases hg; exact flatAll rfl
 ·cases hg; exact flatAll rfl
 ·cases hg
end
abbrev laidL : List (String × DataW Unit) := [("unicode/utf8.acceptRanges", Rows.laid_unicode_utf8_acceptRanges), ("netlab/trace.inverted", Rows.laid_netlab_trace_inverted), ("netlab/trace.both", Rows.laid_netlab_trace_both), ("unicode/utf8.first", Rows.laid_unicode_utf8_first)]
section
attribute [local instance] EQ
theorem gokK {W : World} (h : laidMetH Tryz.prog laidL W) : GOk Tryz.prog (inMap Tryz.prog.globals.size W) := by
 rw [MakeChecks.laidMetH_plain _ _ _ (by kernel_rfl)] at h
 refine AM.gok_of (G0 := G0) h fun g cs hg => ?_
 unfold G0 at hg
 split at hg
 ·cases hg; exact ⟨"netlab/trace.inverted", _, List.mem_cons_of_mem _ (List.mem_cons_self ..), by kernel_rfl, by kernel_rfl⟩
 ·cases hg; exact ⟨"netlab/trace.both", _, List.mem_cons_of_mem _ (List.mem_cons_of_mem _ (List.mem_cons_self ..)), by kernel_rfl, by kernel_rfl⟩
 ·cases hg
end
theorem gokA {W : World} (h : laidMetH Tryz.prog laidL W) : @GOk EQA Tryz.prog (inMap Tryz.prog.globals.size W) := gokK h
noncomputable abbrev W0 (os : Os) : World := World.laidAll Tryz.prog os laidL
theorem W0_shaped (os : Os) : (W0 os).Shaped Tryz.prog := World.shaped_of_ZipB (by kernel_rfl) (by kernel_rfl)
theorem door_met (os : Os) (args : Array Value) : laidMetH Tryz.prog laidL ((W0 os).forCall (fun _ _ => 0) ⟨#[], args, []⟩).memory := by
 rw [MakeChecks.laidMetH_plain _ _ _ (by kernel_rfl)]; exact laidMet_laidAll _ (by kernel_rfl) (by kernel_rfl)
section
attribute [local instance] EQ
theorem ok1 : SummOK P0 S1.summ := put_flat PSumm.none_ok fun us v h => smIdx_ok Tryz.func167 (by kernel_rfl) (fun x y => by kernel_rfl) h
theorem ok2 : SummOK P0 S2.summ := by
 refine PSumm.put_ok ok1 fun args g d hd m H w args' hg hR hG ha => ?_
 split at hd
 ·cases hd
  exact call_same Tryz.func149 (by kernel_rfl) (fun x => by kernel_rfl) m H w args' hR hG ha
 ·cases hd
theorem awake_gives : Gives P0 14 [] (.bool true) := gives_bool pok ok2 glFlat globN rfl awake_ev
end
section
attribute [local instance] EQA
theorem okA0 : SummOK P0 (PSumm.none.put 14 fun args _ => match args with
 | [] => some (.bool true)
 | _ => none).summ := by
 refine PSumm.put_ok PSumm.none_ok fun args g d hd m H w args' hg hR hG ha => ?_
 split at hd
 ·cases hd
  exact awake_gives m H w args' hR hG ha
 ·cases hd
theorem okA : SummOK P0 S3.summ := PSumm.put_ok (put_flat (put_flat okA0 fun us v h => smTrim_ok h) fun us v h => smRep_ok h) fun args g d hd m H w args' hg hR hG ha => smClone_ok laysClone Tryz.func38 (by kernel_rfl) fClone hd m H w args' hg.symm hR hG ha
theorem baseA : TBase P0 S3.summ gl effs := by
 refine ⟨fun v => (EqV.all_eq G0 v v).2 rfl, fun g cs hg => ?_, fun f ef h => ?_⟩
 ·cases (show (none : Option (List TV)) = some cs from hg)
 ·cases (show (none : Option _) = some ef from h)
theorem spec_aw : SpecOK (evL P0 S3.summ) 14 ⟨[], [.bool], [.no], fun _ => F_w36_awake⟩ := by
 refine SpecOK.tab (S := S3.summ) (f := 14) rfl fun x y G H vals hy hA => ?_
 rw [show vals = [] from hA]
 cases hy
 exact ⟨[.bool true], [.no], rfl, ⟨_, _, rfl, rfl, rfl, rfl⟩, fun k hk b hb => by cases List.mem_singleton.1 hk; exact (Rk.no_has hb).elim⟩
theorem val_str {G : Nat → Option (List Value)} {s : List UInt8} {v : Value} (h : ValR G .str s v) : v = .string ⟨s.toArray⟩ := by
 have : DC G .str s [v] := by simpa [ValR, Ty.isSt] using h
 simpa [DC] using this
theorem spec_tr : SpecOK (evL P0 S3.summ) 72 ⟨[.str, .str], [.str], [.no], fun x => F_strings_Trim x.1 x.2⟩ := by
 refine SpecOK.tab (S := S3.summ) (f := 72) rfl fun x y G H vals hy hA => ?_
 obtain ⟨v1, vs1, rfl, hv1, v2, rfl, hv2⟩ := hA
 obtain ⟨s, c⟩ := x
 have e1 := val_str hv1
 have e2 := val_str hv2
 subst e1; subst e2
 unfold F_strings_Trim at hy
 split at hy
 ·rename_i hc
  cases hy; refine ⟨[.string ⟨(Lib.trimS s c).toArray⟩], [.no], ?_, ⟨_, _, rfl, rfl, rfl, ?_⟩, fun k hk b hb => by cases List.mem_singleton.1 hk; exact (Rk.no_has hb).elim⟩
  ·show ((if c = [48, 49, 120, 122] ∧ s.length ≤ 1000 then some (Value.string ⟨(Lib.trimS s c).toArray⟩) else none).map fun v => (v, H)) = _
   rw [if_pos hc]; rfl
  ·simp [ValR, Ty.isSt, DC]
 ·cases hy
theorem spec_rp : SpecOK (evL P0 S3.summ) 85 ⟨[.str, .int .i64], [.str], [.no], fun x => F_strings_Repeat x.1 x.2⟩ := by
 refine SpecOK.tab (S := S3.summ) (f := 85) rfl fun x y G H vals hy hA => ?_
 obtain ⟨v1, vs1, rfl, hv1, v2, rfl, hv2⟩ := hA
 obtain ⟨s, c⟩ := x
 have e1 := val_str hv1
 have e2 : v2 = .int .i64 c := by
  have : DC G (.int .i64) c [v2] := by simpa [ValR, Ty.isSt] using hv2
  simpa [DC] using this
 subst e1; subst e2
 unfold F_strings_Repeat at hy
 split at hy
 ·rename_i hc
  cases hy; obtain ⟨n, rfl⟩ : ∃ n : Nat, c = .ofNat n := ⟨c.toNat, (Int.toNat_of_nonneg hc.2.1).symm⟩; have hn : s.length * n ≤ 100000 ∧ n ≤ 100000 := by
   have := hc.2.2; have h2 : n ≤ 1000 := by simp only [Int.ofNat_eq_natCast] at this; omega
   rw [hc.1]; omega
  refine ⟨[.string ⟨(Lib.repeatL s n).toArray⟩], [.no], ?_, ⟨_, _, rfl, rfl, rfl, ?_⟩, fun k hk b hb => by cases List.mem_singleton.1 hk; exact (Rk.no_has hb).elim⟩
  ·show ((if s.length * n ≤ 100000 ∧ n ≤ 100000 then some (Value.string ⟨(Lib.repeatL s n).toArray⟩) else none).map fun v => (v, H)) = _
   rw [if_pos hn]; rfl
  ·simp [ValR, Ty.isSt, DC]
 ·cases hy
theorem spec_cl : SpecOK (evL P0 S3.summ) 38 ⟨[.slice .str], [.slice .str], [.cp], F_slices_Clone_string_string⟩ := by
 refine SpecOK.tab2 (S := S3.summ) (f := 38) rfl fun x y G H vals hy hG hA => ?_
 obtain ⟨v, rfl, hv⟩ := hA
 unfold F_slices_Clone_string_string at hy
 split at hy
 ·rename_i hc
  cases hy; obtain ⟨d, h1, h2⟩ := smClone_spec hc hG hv; refine ⟨[d], [.no], ?_, ⟨_, _, rfl, rfl, show (Rk.no = Rk.no ∧ ValR (fun _ => none) (.slice .str) x d) from ⟨rfl, h2⟩⟩, fun k hk b hb => by cases List.mem_singleton.1 hk; exact (Rk.no_has hb).elim⟩; show ((smClone [v] H.get).map fun v => (v, H)) = _; rw [h1]; rfl
 ·cases hy
theorem tabA : OKL P0 S3.summ effs L0 := by
 refine ⟨fun g hg he => ?_, fun f sp hf => ?_⟩
 ·unfold L0 at hg
  rw [findS_cons] at hg; split at hg
  ·cases hg
  rename_i e14; have n14 : Nat.beq g 14 = false := by cases h : Nat.beq g 14 with | false => rfl | true => exact absurd (Nat.eq_of_beq_eq_true h).symm e14
  rw [findS_cons] at hg; split at hg
  ·cases hg
  rename_i e72; have n72 : Nat.beq g 72 = false := by cases h : Nat.beq g 72 with | false => rfl | true => exact absurd (Nat.eq_of_beq_eq_true h).symm e72
  rw [findS_cons] at hg; split at hg
  ·cases hg
  rename_i e85; have n85 : Nat.beq g 85 = false := by cases h : Nat.beq g 85 with | false => rfl | true => exact absurd (Nat.eq_of_beq_eq_true h).symm e85
  rw [findS_cons] at hg; split at hg
  ·cases hg
  rename_i e38; have n38 : Nat.beq g 38 = false := by cases h : Nat.beq g 38 with | false => rfl | true => exact absurd (Nat.eq_of_beq_eq_true h).symm e38
  unfold S3 PSumm.summ PSumm.put; rw [n38, n85, n72, n14]; rfl
 ·unfold L0 at hf
  rw [findS_cons] at hf; split at hf
  ·rename_i e; subst e; cases hf; exact spec_aw
  rw [findS_cons] at hf; split at hf
  ·rename_i e; subst e; cases hf; exact spec_tr
  rw [findS_cons] at hf; split at hf
  ·rename_i e; subst e; cases hf; exact spec_rp
  rw [findS_cons] at hf; split at hf
  ·rename_i e; subst e; cases hf; exact spec_cl
  cases hf
end
end Go.Proofs.YtgpligmjbecbjaaGreatDoor
