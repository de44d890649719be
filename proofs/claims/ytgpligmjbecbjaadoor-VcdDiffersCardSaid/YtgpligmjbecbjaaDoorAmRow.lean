/- The row of a law without arguments, out of what its call comes to. -/

import Derived.Test.YtgpligmjbecbjaaDoorAmPure
import Derived.Handed
import Derived.Carry
import Derived.RowKit
import Derived.ChangeArms
import Derived.ChangeOld
import Derived.ChangeShapes
import Derived.WideShapes
import Derived.LaidLaws
import Derived.DataReads
import Derived.OpenShut
set_option linter.unusedVariables false
set_option linter.unusedSimpArgs false
set_option linter.unusedSectionVars false
namespace Go.AM
open Go Go.RowKit
variable {P : Program}

def codesB (P : Program) : Bool := P.funcs.toList.all fun fn => match fn.body with | some c => codeOk P c | none => true
def namesB (P : Program) : Bool := P.funcs.toList.all fun fn => !(fn.name == "runtime.NumGoroutine")
theorem pok_of (h2 : P.follows .mixedOrders = true) (h3 : namesB P = true) (h4 : codesB P = true) : POk2 P := by
 refine ⟨⟨fun t z hz => (zero_zeroI hz).1, h2, fun f fn hf => ?_⟩, fun f fn c hf hc => ?_⟩
 ·have := List.all_eq_true.1 h3 fn (by simpa using Array.mem_of_getElem? hf)
  simpa using this
 ·have := List.all_eq_true.1 h4 fn (by simpa using Array.mem_of_getElem? hf)
  rw [hc] at this
  exact this

def inMap (N : Nat) (W : World) : Mp := ⟨fun b => if b < N then some ⟨b, 0, 0, 0⟩ else none, fun k => match W.heap[k]? with | some (.cells arr _ _) => some arr | _ => none⟩
theorem inRel {N : Nat} {W : World} (h : N ≤ W.heap.size) : Rel (inMap N W) ⟨fun _ => .dead, N⟩ W := by
 have dead : ∀ b, (⟨fun _ => .dead, N⟩ : AH).get b = .dead := fun b => rfl
 refine ⟨fun b pl hb => ?_, fun b pl hb => ?_, fun b pl hb => ?_, fun b b' pl pl' _ _ _ ho => ?_, fun k arr hk => ?_⟩
 ·simp only [inMap] at hb; split at hb
  ·assumption
  ·cases hb
 ·simp only [inMap] at hb; split at hb
  ·cases hb; simp only; omega
  ·cases hb
 ·rw [dead]; trivial
 ·rw [dead] at ho; cases ho
 ·simp only [inMap] at hk
  split at hk
  ·rename_i a ty fr e; cases hk
   exact ⟨⟨ty, fr, e⟩, fun ⟨b, pl, _, ho, _⟩ => by rw [dead] at ho; cases ho⟩
  ·cases hk

section
variable {H : Type} {enc : TypeId × Value → H} {W : World} {N : Nat}
theorem trodAll_below {W' : World} (hl : laidOutB P = true) (hb : Below W.heap.size W W') : ∀ (ts : List TypeId) (vs : List Value) (ds : List (DataW H)) (ps : List MemPlace), (ts.all fun t => P.readableRec t && decide (t < P.types.size)) = true →
  DataW.TrodAll enc P W 0 (fun _ => true) true ts vs ds ps → DataW.TrodAll enc P W' 0 (fun b => decide (b < W.heap.size)) true ts vs ds ps := by
 intro ts
 induction ts with
 | nil => intro vs ds ps _ h; cases vs <;> cases ds <;> first | exact h.elim | exact h
 | cons t ts ih =>
  intro vs ds ps hok h
  simp only [List.all_cons, Bool.and_eq_true, decide_eq_true_eq] at hok
  obtain ⟨v, vs', d, ds', p, q, rfl, rfl, rfl, h1, h2⟩ := ChangeShapes.trodAll_cons h
  refine ⟨p, q, Below.trod hl hok.1.1 hok.1.2 h1 hb ?_, ih vs' ds' q hok.2 h2, rfl⟩
  obtain ⟨m, hm⟩ := h1
  exact DataW.trod_lt m _ _ _ hm
end

variable [EqV]
def cellsOfD (P : Program) : Nat → TypeId → DataW Unit → Option (List Value)
 | 0, _, _ => none
 | n + 1, t, d => match P.underlying t, d with
  | some (.int k), .lit (.int k' m) => if k' = k then some [.int k m] else none
  | some .bool, .lit (.bool b) => some [.bool b]
  | some .string, .lit (.string s) => some [.string ⟨s.toArray⟩]
  | some (.array len e), .agg ds => if ds.length = len ∧ P.cellsOf t = len * P.cellsOf e then catD (P.cellsOf e) (ds.map (cellsOfD P n e)) else none
  | _, _ => none
where catD (k : Nat) : List (Option (List Value)) → Option (List Value)
 | [] => some []
 | none :: _ => none
 | some a :: r => match catD k r with
  | some l => if a.length = k then some (a ++ l) else none
  | none => none

theorem shaped_size {P : Program} (h : (match P.globals.size with | 0 => true | n + 1 => (((begin P (fun _ _ => 0) default).world.heap[n]?).bind Obj.row?).isSome) = true) : ∀ W : World, W.ShapedOpen P → P.globals.size ≤ W.heap.size := by
 intro W hs
 cases hn : P.globals.size with
 | zero => exact Nat.zero_le _
 | succ n =>
  rw [hn] at h
  simp only at h
  obtain ⟨x, hx⟩ := Option.isSome_iff_exists.1 h
  obtain ⟨zero, t⟩ := x
  obtain ⟨cs, hcs, -⟩ := hs.1 n zero t (by omega) hx
  have := (Array.getElem?_eq_some_iff.1 hcs).1
  omega
end Go.AM
