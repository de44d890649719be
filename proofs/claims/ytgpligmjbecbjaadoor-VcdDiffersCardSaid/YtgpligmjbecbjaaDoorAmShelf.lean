/- A contract of the kit's shelf becomes a summary of AM: arguments and results without addresses; behind the call the heap is longer and else as it was. -/

import Derived.Test.YtgpligmjbecbjaaDoorAmPure
import Derived.CallsIn
namespace Go.AM
open Go
structure Grown (w w' : World) : Prop where
 size : w.heap.size ≤ w'.heap.size
 old : ∀ k, k < w.heap.size → w'.heap[k]? = w.heap[k]?
 os : w'.os = w.os
 tape : w'.tape = w.tape
 output : w'.output = w.output
theorem Stp.grown {m : Mp} {H : AH} {w w' : World} (hR : Rel m H w) (h : Grown w w') : Stp m H w m H w' := by
 refine ⟨⟨hR.dom, fun b pl hb => Nat.lt_of_lt_of_le (hR.blk b pl hb) h.size, fun b pl hb => (hR.obj b pl hb).mono (Mle.refl m) (h.old _ (hR.blk b pl hb)), hR.apart, fun k arr hk => ?_⟩, Nat.le_refl _, fun _ _ => rfl, h.size, fun k hk _ => h.old k hk, fun k hk => .inl hk, fun k hk => .inl hk, h.os, h.tape, h.output, fun k l hl => ⟨l, ?_, rfl⟩, fun _ _ h => h, fun _ _ h => .inl h⟩
 ·obtain ⟨⟨ty, fr, e⟩, g2⟩ := hR.fro k arr hk
  exact ⟨⟨ty, fr, by rw [h.old k (hR.fro_lt hk)]; exact e⟩, g2⟩
 ·have hk : k < w.heap.size := (Array.getElem?_eq_some_iff.1 hl).1
  rw [h.old k hk]; exact hl
variable [EqV]
theorem call_shelf {P : Program} {f : FuncId} {fn : Func} (hf : P.funcs[f]? = some fn) (hb : fn.body.isSome = true) {args : List Value} {v : Value} (ha : args.all flat1 = true) (hv : flat v = true)
  (hc : ∀ (m : Mp) (H : AH) (w : World), Rel m H w → GOk P m → Calls P f args.toArray w fun e w' => e = .returned v ∧ Grown w w') :
  ∀ (m : Mp) (H : AH) (w : World) (args' : Array Value), Rel m H w → GOk P m → VRL m args args'.toList → CallRel P f args' w (After m H w v H) := by
 intro m H w args' hR hG ha'
 have e2 := ha'.flat_eq ha
 have e3 : args' = args.toArray := by apply Array.ext'; simpa using e2
 subst e3
 refine ⟨fn, hf, .inl ⟨hb, callsIn_wide.2 ?_⟩⟩
 refine (hc m H w hR hG).mono ?_
 rintro e w' ⟨rfl, hg⟩
 exact ⟨v, rfl, m, vr_of_flat hv, Stp.grown hR hg⟩
end Go.AM
