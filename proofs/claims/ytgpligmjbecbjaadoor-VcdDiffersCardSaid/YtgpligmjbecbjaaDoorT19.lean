/- What holds of the program as a whole; the functions that a table answers. -/

import Derived.Test.YtgpligmjbecbjaaDoorCards
import Derived.Test.YtgpligmjbecbjaaDoorTie
import Derived.SevenTiedAt
import Derived.LaidMore
import Derived.Lay
import Derived.MakeChecks
import Derived.Test.YtgpligmjbecbjaaDoorE19a
import Derived.Test.YtgpligmjbecbjaaDoorQ19
set_option linter.unusedVariables false
set_option linter.unusedSimpArgs false
set_option linter.unusedSectionVars false
open Go Go.AM Go.TM
namespace Go.Proofs.YtgpligmjbecbjaaDoor
theorem follows_ok : Tryd.prog.follows .mixedOrders = true := by kernel_rfl
theorem namesB_ok : AM.namesB Tryd.prog = true := by kernel_rfl
theorem codesB_ok : AM.codesB Tryd.prog = true := by kernel_rfl
theorem pok : POk2 Tryd.prog := AM.pok_of follows_ok namesB_ok codesB_ok
theorem own : ownKnob Tryd.prog.godebug = none := by kernel_rfl
theorem laidOut : laidOutB Tryd.prog = true := by kernel_rfl
section
attribute [local instance] EQ
theorem sizeOk : ∀ W : World, W.ShapedOpen Tryd.prog → Tryd.prog.globals.size ≤ W.heap.size := AM.shaped_size (by kernel_rfl)
theorem glFlat : @GlFlat EQ := fun g cs hg => by cases (show (none : Option (Array Value)) = some cs from hg)
end
abbrev laidL : List (String × DataW Unit) := [("math/bits.deBruijn32tab", Rows.laid_math_bits_deBruijn32tab), ("math/bits.deBruijn64tab", Rows.laid_math_bits_deBruijn64tab), ("internal/strconv.uint64pow10", Rows.laid_internal_strconv_uint64pow10), ("unicode/utf8.acceptRanges", Rows.laid_unicode_utf8_acceptRanges), ("unicode/utf8.first", Rows.laid_unicode_utf8_first)]
theorem gokA {W : World} (h : laidMetH Tryd.prog laidL W) : @GOk EQA Tryd.prog (inMap Tryd.prog.globals.size W) := by
 intro g hg
 refine ⟨by simp only [inMap, if_pos hg], fun cs hcs => by cases (show (none : Option (Array Value)) = some cs from hcs)⟩
noncomputable abbrev W0 (os : Os) : World := World.laidAll Tryd.prog os laidL
theorem W0_shaped (os : Os) : (W0 os).Shaped Tryd.prog := World.shaped_of_ZipB (by kernel_rfl) (by kernel_rfl)
theorem door_met (os : Os) (args : Array Value) : laidMetH Tryd.prog laidL ((W0 os).forCall (fun _ _ => 0) ⟨#[], args, []⟩).memory := by
 rw [MakeChecks.laidMetH_plain _ _ _ (by kernel_rfl)]; exact laidMet_laidAll _ (by kernel_rfl) (by kernel_rfl)
section
attribute [local instance] EQ
theorem ok0 : SummOK P0 S0.summ := PSumm.put_ok (put_flat PSumm.none_ok fun us v h => smRep_ok h) fun args g d hd m H w args' hg hR hG ha => smJoin_ok laysJoin extraJ Tryd.func48 (by kernel_rfl) fJoin hd m H w args' hg.symm hR hG ha
theorem ok1 : SummOK P0 S1.summ := put_flat ok0 fun us v h => smIdx_ok Tryd.func103 (by kernel_rfl) (fun x y => by kernel_rfl) h
theorem ok2 : SummOK P0 S2.summ := by
 refine PSumm.put_ok ok1 fun args g d hd m H w args' hg hR hG ha => ?_
 split at hd
 ·cases hd
  exact call_same Tryd.func80 (by kernel_rfl) (fun x => by kernel_rfl) m H w args' hR hG ha
 ·cases hd
theorem awake_gives : Gives P0 9 [] (.bool true) := gives_bool pok ok2 glFlat globN rfl awake_ev
end
section
attribute [local instance] EQA
theorem okA0 : SummOK P0 (PSumm.none.put 9 fun args _ => match args with
 | [] => some (.bool true)
 | _ => none).summ := by
 refine PSumm.put_ok PSumm.none_ok fun args g d hd m H w args' hg hR hG ha => ?_
 split at hd
 ·cases hd
  exact awake_gives m H w args' hR hG ha
 ·cases hd
theorem okA : SummOK P0 S3.summ := PSumm.put_ok (put_flat (put_flat okA0 fun us v h => smTrim_ok h) fun us v h => smRep_ok h) fun args g d hd m H w args' hg hR hG ha => smClone_ok laysClone Tryd.func14 (by kernel_rfl) fClone hd m H w args' hg.symm hR hG ha
theorem baseA : TBase P0 S3.summ gl effs := by
 refine ⟨fun v => (EqV.all_eq G0 v v).2 rfl, fun g cs hg => ?_, fun f ef h => ?_⟩
 ·cases (show (none : Option (List TV)) = some cs from hg)
 ·cases (show (none : Option _) = some ef from h)
theorem spec_aw : SpecOK (evL P0 S3.summ) 9 ⟨[], [.bool], [.no], fun _ => F_w19_awake⟩ := by
 refine SpecOK.tab (S := S3.summ) (f := 9) rfl fun x y G H vals hy hA => ?_
 rw [show vals = [] from hA]
 cases hy
 exact ⟨[.bool true], [.no], rfl, ⟨_, _, rfl, rfl, rfl, rfl⟩, fun k hk b hb => by cases List.mem_singleton.1 hk; exact (Rk.no_has hb).elim⟩
theorem val_str {G : Nat → Option (List Value)} {s : List UInt8} {v : Value} (h : ValR G .str s v) : v = .string ⟨s.toArray⟩ := by
 have : DC G .str s [v] := by simpa [ValR, Ty.isSt] using h
 simpa [DC] using this
theorem spec_tr : SpecOK (evL P0 S3.summ) 19 ⟨[.str, .str], [.str], [.no], fun x => F_strings_Trim x.1 x.2⟩ := by
 refine SpecOK.tab (S := S3.summ) (f := 19) rfl fun x y G H vals hy hA => ?_
 obtain ⟨v1, vs1, rfl, hv1, v2, rfl, hv2⟩ := hA
 obtain ⟨s, c⟩ := x
 have e1 := val_str hv1
 have e2 := val_str hv2
 subst e1; subst e2
 unfold F_strings_Trim at hy
 split at hy
 ·rename_i hc
  cases hy
  refine ⟨[.string ⟨(Lib.trimS s c).toArray⟩], [.no], ?_, ⟨_, _, rfl, rfl, rfl, ?_⟩, fun k hk b hb => by cases List.mem_singleton.1 hk; exact (Rk.no_has hb).elim⟩
  ·show ((if c = [48, 49, 120, 122] ∧ s.length ≤ 1000 then some (Value.string ⟨(Lib.trimS s c).toArray⟩) else none).map fun v => (v, H)) = _
   rw [if_pos hc]; rfl
  ·simp [ValR, Ty.isSt, DC]
 ·cases hy
theorem spec_rp : SpecOK (evL P0 S3.summ) 59 ⟨[.str, .int .i64], [.str], [.no], fun x => F_strings_Repeat x.1 x.2⟩ := by
 refine SpecOK.tab (S := S3.summ) (f := 59) rfl fun x y G H vals hy hA => ?_
 obtain ⟨v1, vs1, rfl, hv1, v2, rfl, hv2⟩ := hA
 obtain ⟨s, c⟩ := x
 have e1 := val_str hv1
 have e2 : v2 = .int .i64 c := by
  have : DC G (.int .i64) c [v2] := by simpa [ValR, Ty.isSt] using hv2
  simpa [DC] using this
 subst e1; subst e2
 unfold F_strings_Repeat at hy
 split at hy
 ·rename_i hc
  cases hy
  obtain ⟨n, rfl⟩ : ∃ n : Nat, c = .ofNat n := ⟨c.toNat, (Int.toNat_of_nonneg hc.2.1).symm⟩
  have hn : s.length * n ≤ 100000 ∧ n ≤ 100000 := by
   have := hc.2.2
   have h2 : n ≤ 1000 := by simp only [Int.ofNat_eq_natCast] at this; omega
   rw [hc.1]; omega
  refine ⟨[.string ⟨(Lib.repeatL s n).toArray⟩], [.no], ?_, ⟨_, _, rfl, rfl, rfl, ?_⟩, fun k hk b hb => by cases List.mem_singleton.1 hk; exact (Rk.no_has hb).elim⟩
  ·show ((if s.length * n ≤ 100000 ∧ n ≤ 100000 then some (Value.string ⟨(Lib.repeatL s n).toArray⟩) else none).map fun v => (v, H)) = _
   rw [if_pos hn]; rfl
  ·simp [ValR, Ty.isSt, DC]
 ·cases hy
theorem spec_cl : SpecOK (evL P0 S3.summ) 14 ⟨[.slice .str], [.slice .str], [.cp], F_slices_Clone_string_string⟩ := by
 refine SpecOK.tab2 (S := S3.summ) (f := 14) rfl fun x y G H vals hy hG hA => ?_
 obtain ⟨v, rfl, hv⟩ := hA
 unfold F_slices_Clone_string_string at hy
 split at hy
 ·rename_i hc
  cases hy
  obtain ⟨d, h1, h2⟩ := smClone_spec hc hG hv
  refine ⟨[d], [.no], ?_, ⟨_, _, rfl, rfl, show (Rk.no = Rk.no ∧ ValR (fun _ => none) (.slice .str) x d) from ⟨rfl, h2⟩⟩, fun k hk b hb => by cases List.mem_singleton.1 hk; exact (Rk.no_has hb).elim⟩
  show ((smClone [v] H.get).map fun v => (v, H)) = _
  rw [h1]; rfl
 ·cases hy
theorem tabA : OKL P0 S3.summ effs L0 := by
 refine ⟨fun g hg he => ?_, fun f sp hf => ?_⟩
 ·unfold L0 at hg
  rw [findS_cons] at hg
  split at hg
  ·cases hg
  rename_i e9
  have n9 : Nat.beq g 9 = false := by cases h : Nat.beq g 9 with | false => rfl | true => exact absurd (Nat.eq_of_beq_eq_true h).symm e9
  rw [findS_cons] at hg
  split at hg
  ·cases hg
  rename_i e19
  have n19 : Nat.beq g 19 = false := by cases h : Nat.beq g 19 with | false => rfl | true => exact absurd (Nat.eq_of_beq_eq_true h).symm e19
  rw [findS_cons] at hg
  split at hg
  ·cases hg
  rename_i e59
  have n59 : Nat.beq g 59 = false := by cases h : Nat.beq g 59 with | false => rfl | true => exact absurd (Nat.eq_of_beq_eq_true h).symm e59
  rw [findS_cons] at hg
  split at hg
  ·cases hg
  rename_i e14
  have n14 : Nat.beq g 14 = false := by cases h : Nat.beq g 14 with | false => rfl | true => exact absurd (Nat.eq_of_beq_eq_true h).symm e14
  unfold S3 PSumm.summ PSumm.put
  rw [n14, n59, n19, n9]
  rfl
 ·unfold L0 at hf
  rw [findS_cons] at hf
  split at hf
  ·rename_i e; subst e; cases hf; exact spec_aw
  rw [findS_cons] at hf
  split at hf
  ·rename_i e; subst e; cases hf; exact spec_tr
  rw [findS_cons] at hf
  split at hf
  ·rename_i e; subst e; cases hf; exact spec_rp
  rw [findS_cons] at hf
  split at hf
  ·rename_i e; subst e; cases hf; exact spec_cl
  cases hf
end
end Go.Proofs.YtgpligmjbecbjaaDoor
