/- slices.Clone at rows of strings by the shelf's contract, as a summary of AM: what comes back is a new row that nobody writes. -/

import Derived.Test.YtgpligmjbecbjaaGreatDoorAmJoin
import Derived.Shelf.Slices.Clone
set_option linter.unusedVariables false
namespace Go.AM
open Go Go.Proofs Go.Shelf Go.RowKit
def smClone (args : List Value) (get : Nat → AObj) : Option Value :=
 match args with
 | [.slice none 0 0] => some (.slice none 0 0)
 | [.slice (some ⟨b, off, none⟩) n _] => match get b with
  | .cells c _ _ _ => match ((c.drop off).take n).mapM strOf? with
   | some xs => if xs.length = n ∧ n ≤ 100000 then some (LST n (xs.map .string).toArray) else none
   | none => none
  | _ => none
 | [.func (.methodOf n _) cs _] => match (cs.toList.take n).mapM strOf? with
  | some xs => if xs.length = n ∧ n ≤ 100000 then some (LST n (xs.map .string).toArray) else none
  | none => none
 | _ => none
theorem fresh_row {m : Mp} {H : AH} {w w' : World} (hR : Rel m H w) (hg : Grown w w') {g : Nat} {cur : Array Value} {e : TypeId} {fz : Nat × Nat} (h1 : w.heap.size ≤ g) (h2 : w'.heap[g]? = some (.cells cur e fz)) {n cap : Nat} {vs : List Value}
  (hn : n ≤ cap) (hf : ∀ v ∈ vs, flat1 v = true) (hl : vs.length = n) (ht : cur.toList.take n = vs) : ∃ m', VR m' (LST n vs.toArray) (.slice (some ⟨g, 0, none⟩) n cap) ∧ Stp m H w m' H w' := by
 let m' : Mp := ⟨m.at_, fun k => if k = g then some cur else m.fro k⟩
 have hle : Mle m m' := ⟨fun b pl h => h, fun k arr h => by
  have := hR.fro_lt h; show (if k = g then some cur else m.fro k) = some arr; rw [if_neg (by omega)]; exact h⟩
 have hS := Stp.grown hR hg
 have hno : ¬ Owned m H g := fun ⟨b, pl, hb, _, hk⟩ => by have := hR.blk b pl hb; omega
 have hfg : m'.fro g = some cur := by show (if g = g then some cur else m.fro g) = some cur; rw [if_pos rfl]
 have hcs : n ≤ cur.size := by
  have := congrArg List.length ht; rw [List.length_take, hl] at this; simp at this; omega
 refine ⟨m', ?_, ⟨⟨hR.dom, fun b pl hb => hS.rel.blk b pl hb, fun b pl hb => (hR.obj b pl hb).mono hle (hg.old _ (hR.blk b pl hb)), hR.apart, fun k arr hk => ?_⟩, Nat.le_refl _, fun _ _ => rfl, hg.size, fun k hk _ => hg.old k hk, fun k hk => .inl hk, fun k hk => .inl hk, hg.os, hg.tape, hg.output, hS.loops, hle.2, fun k arr hk => ?_⟩⟩
 ·refine .lst _ n cap ⟨g, 0, none⟩ hn (.inr ⟨cur, hfg, rfl, by simp only [List.size_toArray]; omega⟩) fun i hi arr h' hf' => ?_
  have e1 : arr = cur := Option.some.inj (hf'.symm.trans hfg); subst e1; have hi' : i < vs.length := by simpa using hi
  have e2 : arr[0 + i] = vs[i] := by
   have q : (arr.toList.take n)[i]? = vs[i]? := by rw [ht]
   rw [List.getElem?_take, if_pos (by omega), List.getElem?_eq_getElem hi'] at q; rw [List.getElem?_eq_getElem (by simp; omega)] at q; have := Option.some.inj q; simp only [Nat.zero_add]; rw [← this, Array.getElem_toList]
  rw [e2]; rw [List.getElem_toArray]; exact .flat _ (hf _ (List.getElem_mem hi'))
 ·show (∃ ty fr, w'.heap[k]? = some (.cells arr ty fr)) ∧ ¬ Owned m H k
  by_cases e1 : k = g
  ·subst e1
   have : arr = cur := Option.some.inj (hk.symm.trans hfg); subst this; exact ⟨⟨_, _, h2⟩, hno⟩
  ·have hk' : m.fro k = some arr := by
    have : (if k = g then some cur else m.fro k) = some arr := hk
    rwa [if_neg e1] at this
   obtain ⟨⟨ty, fr, q1⟩, q2⟩ := hR.fro k arr hk'; exact ⟨⟨ty, fr, by rw [hg.old k (hR.fro_lt hk')]; exact q1⟩, q2⟩
 ·by_cases e1 : k = g
  ·exact .inr (.inr (by omega))
  ·have hk' : m.fro k = some arr := by
    have : (if k = g then some cur else m.fro k) = some arr := hk
    rwa [if_neg e1] at this
   exact .inl hk'
variable [EqV]
theorem smClone_ok {P : Program} {ρ : Ren} (L : Lays2.n16 P ρ) {f : FuncId} {fn : Func} (hf : P.funcs[f]? = some fn) (hb : fn.body.isSome = true) (hρ : ρ.f 16 = f) {args : List Value} {g : Nat → AObj} {d : Value} (hd : smClone args g = some d)
  (m : Mp) (H : AH) (w : World) (args' : Array Value) (hg : g = H.get) (hR : Rel m H w) (hG : GOk P m) (ha : VRL m args args'.toList) : CallRel P f args' w (After m H w d H) := by
 subst hg
 have res : ∀ (n : Nat) (xs : List ByteArray) (a : Addr) (c : Nat), xs.length = n → args' = #[.slice (some a) n c] → Calls P (ρ.f 16) #[.slice (some a) n c] w (fun e w' => ∃ v', e = .returned v' ∧ w'.ownsRow w.heap.size (ρ.t 9) 1 v' n (xs.map (Value.string)) ∧ v' ≠ .slice none 0 0 ∧ Below w.heap.size w w') →
   CallRel P f args' w (After m H w (LST n (xs.map .string).toArray) H) := fun n xs a c hl e q => by
  subst e; refine ⟨fn, hf, .inl ⟨hb, callsIn_wide.2 ?_⟩⟩; rw [hρ] at q; refine q.mono fun e w' ⟨v', he, hrow, hnn, hw⟩ => ?_
  obtain ⟨-, h | ⟨g, cap, cur, rfl, h1, h2, h3, h4, h5, h6⟩⟩ := hrow
  ·exact absurd h.1 hnn
  ·obtain ⟨m', g1, g2⟩ := fresh_row hR ⟨hw.size, hw.block, hw.os, hw.tape, hw.output⟩ h1 h2 (vs := xs.map Value.string) h3 (fun v hv => by obtain ⟨x, _, rfl⟩ := List.mem_map.1 hv; rfl) (by simpa using hl) (by rw [← h6, Nat.mul_one])
   exact ⟨_, he, m', g1, g2⟩
 have fin : ∀ (bk o c : Nat) (xs : List ByteArray), (∀ (j : Nat) x, xs[j]? = some x → w.cell? ⟨bk, o + j, none⟩ = some (.string x)) → xs.length ≤ 100000 → args' = #[.slice (some ⟨bk, o, none⟩) xs.length c] →
   CallRel P f args' w (After m H w (LST xs.length (xs.map .string).toArray) H) := fun bk o c xs h1 h3 e => by
  refine res _ xs _ c rfl e ?_; have q := Any.slices_Clone_string L bk o xs.length c xs w (Nat.le_refl _) (by omega) fun j hj => h1 j _ (by rw [List.getElem?_eq_getElem hj, List.getD, List.getElem?_eq_getElem hj]; rfl)
  rwa [List.take_length] at q
 unfold smClone at hd
 split at hd
 ·cases hd
  have e := ha.flat_eq rfl; have e3 : args' = #[.slice none 0 0] := by apply Array.ext'; simpa using e
  subst e3; refine ⟨fn, hf, .inl ⟨hb, callsIn_wide.2 ?_⟩⟩; have q := Any.slices_Clone_string_nil L 0 0 w; rw [hρ] at q; exact q.mono fun e w' ⟨he, hw⟩ => ⟨_, he, m, .flat _ rfl, by rw [hw]; exact .refl hR⟩
 ·rename_i b off n sz
  split at hd
  ·rename_i c ow s ty hget
   split at hd
   ·rename_i xs hxs
    split at hd
    ·rename_i hc
     cases hd; obtain ⟨c1, c2⟩ := hc; obtain ⟨v1, r1, e1, hv1, hr1⟩ := ha.cases; have e3 := hr1.nil_cases; subst e3; obtain ⟨a', c', rfl, hle, hn, hdd⟩ := hv1.slice_inv; by_cases hn0 : n = 0
     ·subst hn0
      have hx0 : xs = [] := List.length_eq_zero_iff.1 c1; subst hx0; exact res 0 [] a' c' rfl (by apply Array.ext'; rw [e1]) (Any.slices_Clone_string_zero L a' c' w)
     rcases hdd with hdd | ⟨pl, d1, d2, -⟩
     ·omega
     have ho := hR.obj b pl d1; rw [hget] at ho; obtain ⟨h1, -, -⟩ := ho; subst d2; subst c1; refine fin pl.blk (pl.off + off) c' xs (fun j x hx => ?_) c2 (by apply Array.ext'; rw [e1]); have q := strs_at _ _ hxs j x hx; rw [List.getElem?_take] at q; split at q
     ·rw [List.getElem?_drop] at q
      have hi := (List.getElem?_eq_some_iff.1 q).1; obtain ⟨v', g1, g2⟩ := h1 (off + j) hi; rw [(List.getElem?_eq_some_iff.1 q).2] at g2; rw [Nat.add_assoc, g1, g2.string_inv]
     ·cases q
    ·cases hd
   ·cases hd
  ·cases hd
 ·rename_i n s cs x
  split at hd
  ·rename_i xs hxs
   split at hd
   ·rename_i hc
    cases hd; obtain ⟨c1, c2⟩ := hc; obtain ⟨v1, r1, e1, hv1, hr1⟩ := ha.cases; have e3 := hr1.nil_cases; subst e3; obtain ⟨a', c', rfl, hle, hdd⟩ := hv1.lst_inv; by_cases hn0 : n = 0
    ·subst hn0
     have hx0 : xs = [] := List.length_eq_zero_iff.1 c1; subst hx0; exact res 0 [] a' c' rfl (by apply Array.ext'; rw [e1]) (Any.slices_Clone_string_zero L a' c' w)
    have hx0 : 0 < cs.size := by
     have hxl : 0 < xs.length := Nat.pos_of_ne_zero (by rw [c1]; exact hn0); have q := strs_at _ _ hxs 0 xs[0] (List.getElem?_eq_getElem hxl); have := (List.getElem?_eq_some_iff.1 q).1; simp at this; omega
    rcases hdd with hdd | ⟨arr, d1, d2, d3, d4⟩
    ·exact absurd hdd (Nat.ne_of_gt hx0)
    obtain ⟨blk, of, sp⟩ := a'; simp only at d1 d2 d3 d4; subst d2; obtain ⟨⟨ty, fr, he⟩, -⟩ := hR.fro _ _ d1; subst c1; refine fin blk of c' xs (fun j x hx => ?_) c2 (by apply Array.ext'; rw [e1]); have q := strs_at _ _ hxs j x hx; rw [List.getElem?_take] at q; split at q
    ·have hi : j < cs.size := by have := (List.getElem?_eq_some_iff.1 q).1; simpa using this
     have g2 := d4 j hi (by omega); have e5 : cs[j] = .string x := by
      rw [List.getElem?_eq_getElem (by simpa using hi)] at q; simpa using Option.some.inj q
     rw [e5] at g2; rw [cell_set he]; rw [Array.getElem?_eq_getElem (by omega), g2.string_inv]
    ·cases q
   ·cases hd
  ·cases hd
 ·cases hd
end Go.AM
