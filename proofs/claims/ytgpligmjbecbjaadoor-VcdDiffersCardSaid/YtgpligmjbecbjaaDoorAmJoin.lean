/- strings.Join by the shelf's contract, as a summary of AM. -/

import Derived.Test.YtgpligmjbecbjaaDoorAmShelf
import Derived.Shelf.Strings.OnBuilder
namespace Go.AM
open Go Go.Proofs Go.Shelf Go.RowKit
def strOf? : Value → Option ByteArray
 | .string s => some s
 | _ => none
def smJoin (args : List Value) (get : Nat → AObj) : Option Value :=
 match args with
 | [.slice none 0 0, .string _] => some (.string ⟨#[]⟩)
 | [.slice (some ⟨b, off, none⟩) n _, .string sep] => match get b with
  | .cells c _ _ _ => match ((c.drop off).take n).mapM strOf? with
   | some xs => if 0 < n ∧ xs.length = n ∧ n ≤ 100000 ∧ (Lib.join (xs.map (·.data.toList)) sep.data.toList).length ≤ 1000000 then some (.string ⟨(Lib.join (xs.map (·.data.toList)) sep.data.toList).toArray⟩) else none
   | none => none
  | _ => none
 | [.func (.methodOf n _) cs _, .string sep] => match (cs.toList.take n).mapM strOf? with
  | some xs => if 0 < n ∧ xs.length = n ∧ n ≤ 100000 ∧ (Lib.join (xs.map (·.data.toList)) sep.data.toList).length ≤ 1000000 then some (.string ⟨(Lib.join (xs.map (·.data.toList)) sep.data.toList).toArray⟩) else none
  | none => none
 | _ => none
theorem strs_at : ∀ (vs : List Value) (xs : List ByteArray), vs.mapM strOf? = some xs → ∀ (j : Nat) (x : ByteArray), xs[j]? = some x → vs[j]? = some (.string x) := by
 intro vs
 induction vs with
 | nil => intro l h j x hx; simp at h; subst h; simp at hx
 | cons v r ih =>
  intro l h j x hx
  simp only [List.mapM_cons, Option.bind_eq_bind, Option.bind_eq_some_iff, Option.pure_def, Option.some.injEq] at h
  obtain ⟨b, hb, bs, hbs, rfl⟩ := h
  unfold strOf? at hb
  split at hb
  ·cases hb
   cases j with
   | zero => simp at hx; subst hx; rfl
   | succ j => simpa using ih bs hbs j x (by simpa using hx)
  ·cases hb
variable [EqV]
theorem smJoin_ok {P : Program} {ρ : Ren} (L : Lays.n156 P ρ) (X : Builder.Extra P ρ) {f : FuncId} {fn : Func} (hf : P.funcs[f]? = some fn) (hb : fn.body.isSome = true) (hρ : ρ.f 156 = f) {args : List Value} {g : Nat → AObj} {d : Value} (hd : smJoin args g = some d)
  (m : Mp) (H : AH) (w : World) (args' : Array Value) (hg : g = H.get) (hR : Rel m H w) (hG : GOk P m) (ha : VRL m args args'.toList) : CallRel P f args' w (After m H w d H) := by
 subst hg
 have fin : ∀ (bk o c : Nat) (xs : List ByteArray) (sep : ByteArray), (∀ (j : Nat) x, xs[j]? = some x → w.cell? ⟨bk, o + j, none⟩ = some (.string x)) → bk < w.heap.size → xs.length ≤ 100000 → xs.length ≤ c → (Lib.join (xs.map (·.data.toList)) sep.data.toList).length ≤ 1000000 → args' = #[.slice (some ⟨bk, o, none⟩) xs.length c, .string sep] →
   CallRel P f args' w (After m H w (.string ⟨(Lib.join (xs.map (·.data.toList)) sep.data.toList).toArray⟩) H) := fun bk o c xs sep h1 h2 h3 h4 h5 e => by
  subst e
  refine ⟨fn, hf, .inl ⟨hb, callsIn_wide.2 ?_⟩⟩
  have q := Any.strings_Join L X bk o c xs sep w h1 h2 (by omega) h4 (by omega)
  rw [hρ] at q
  exact q.mono fun e w' ⟨he, hw⟩ => ⟨_, he, m, .flat _ rfl, Stp.grown hR ⟨hw.size, hw.block, hw.os, hw.tape, hw.output⟩⟩
 unfold smJoin at hd
 split at hd
 ·rename_i sep
  cases hd
  have e := ha.flat_eq rfl
  have e3 : args' = #[.slice none 0 0, .string sep] := by apply Array.ext'; simpa using e
  subst e3
  refine ⟨fn, hf, .inl ⟨hb, callsIn_wide.2 ?_⟩⟩
  have q := Any.strings_Join_none L X none 0 sep w
  rw [hρ] at q
  exact q.mono fun e w' ⟨he, hw⟩ => ⟨_, he, m, .flat _ rfl, by rw [hw]; exact .refl hR⟩
 ·rename_i b off n sz sep
  split at hd
  ·rename_i c ow s ty hget
   split at hd
   ·rename_i xs hxs
    split at hd
    ·rename_i hc
     cases hd
     obtain ⟨c0, c1, c2, c3⟩ := hc
     obtain ⟨v1, r1, e1, hv1, hr1⟩ := ha.cases
     obtain ⟨v2, r2, e2, hv2, hr2⟩ := hr1.cases
     have e3 := hr2.nil_cases
     subst e3
     obtain ⟨a', c', rfl, hle, hn, hdd⟩ := hv1.slice_inv
     rcases hdd with hdd | ⟨pl, d1, d2, -⟩
     ·omega
     have ho := hR.obj b pl d1
     rw [hget] at ho
     obtain ⟨h1, -, -⟩ := ho
     subst d2
     refine fin pl.blk (pl.off + off) c' xs sep (fun j x hx => ?_) (hR.blk b pl d1) (by rw [c1]; exact c2) (by rw [c1]; exact hn) c3 (by
      apply Array.ext'
      rw [e1, e2, hv2.string_inv, c1])
     have q := strs_at _ _ hxs j x hx
     rw [List.getElem?_take] at q
     split at q
     ·rw [List.getElem?_drop] at q
      have hi := (List.getElem?_eq_some_iff.1 q).1
      obtain ⟨v', g1, g2⟩ := h1 (off + j) hi
      rw [(List.getElem?_eq_some_iff.1 q).2] at g2
      rw [Nat.add_assoc, g1, g2.string_inv]
     ·cases q
    ·cases hd
   ·cases hd
  ·cases hd
 ·rename_i n s cs x sep
  split at hd
  ·rename_i xs hxs
   split at hd
   ·rename_i hc
    cases hd
    obtain ⟨c0, c1, c2, c3⟩ := hc
    obtain ⟨v1, r1, e1, hv1, hr1⟩ := ha.cases
    obtain ⟨v2, r2, e2, hv2, hr2⟩ := hr1.cases
    have e3 := hr2.nil_cases
    subst e3
    obtain ⟨a', c', rfl, hle, hdd⟩ := hv1.lst_inv
    have hx0 : 0 < cs.size := by
     have hxl : 0 < xs.length := by rw [c1]; exact c0
     have q := strs_at _ _ hxs 0 xs[0] (List.getElem?_eq_getElem hxl)
     have := (List.getElem?_eq_some_iff.1 q).1
     simp at this; omega
    rcases hdd with hdd | ⟨arr, d1, d2, d3, d4⟩
    ·exact absurd hdd (Nat.ne_of_gt hx0)
    obtain ⟨blk, of, sp⟩ := a'
    simp only at d1 d2 d3 d4
    subst d2
    obtain ⟨⟨ty, fr, he⟩, -⟩ := hR.fro _ _ d1
    refine fin blk of c' xs sep (fun j x hx => ?_) (hR.fro_lt d1) (by rw [c1]; exact c2) (by rw [c1]; exact hle) c3 (by
     apply Array.ext'
     rw [e1, e2, hv2.string_inv, c1])
    have q := strs_at _ _ hxs j x hx
    rw [List.getElem?_take] at q
    split at q
    ·have hi : j < cs.size := by have := (List.getElem?_eq_some_iff.1 q).1; simpa using this
     have g2 := d4 j hi (by omega)
     have e5 : cs[j] = .string x := by
      rw [List.getElem?_eq_getElem (by simpa using hi)] at q
      simpa using Option.some.inj q
     rw [e5] at g2
     rw [cell_set he]
     rw [Array.getElem?_eq_getElem (by omega), g2.string_inv]
    ·cases q
   ·cases hd
  ·cases hd
 ·cases hd
end Go.AM
