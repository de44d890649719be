/- The row of a law without arguments, out of what its call comes to. -/

import Derived.Test.YtgpligmjbecbjaaGreatDoorAmPure
import Derived.Handed
import Derived.Carry
import Derived.RowKit
import Derived.ChangeArms
import Derived.ChangeOld
import Derived.ChangeShapes
import Derived.WideShapes
import Derived.LaidLaws
import Derived.DataReads
import Derived.OpenShut
set_option linter.unusedVariables false
set_option linter.unusedSimpArgs false
set_option linter.unusedSectionVars false
namespace Go.AM
open Go Go.RowKit
variable {P : Program}

def codesB (P : Program) : Bool := P.funcs.toList.all fun fn => match fn.body with | some c => codeOk P c | none => true
def namesB (P : Program) : Bool := P.funcs.toList.all fun fn => !(fn.name == "runtime.NumGoroutine")
theorem pok_of (h2 : P.follows .mixedOrders = true) (h3 : namesB P = true) (h4 : codesB P = true) : POk2 P := by
 refine ⟨⟨fun t z hz => (zero_zeroI hz).1, h2, fun f fn hf => ?_⟩, fun f fn c hf hc => ?_⟩
 ·have := List.all_eq_true.1 h3 fn (by simpa using Array.mem_of_getElem? hf)
  simpa using this
 ·have := List.all_eq_true.1 h4 fn (by simpa using Array.mem_of_getElem? hf)
  rw [hc] at this; exact this

def inMap (N : Nat) (W : World) : Mp := ⟨fun b => if b < N then some ⟨b, 0, 0, 0⟩ else none, fun k => match W.heap[k]? with | some (.cells arr _ _) => some arr | _ => none⟩
theorem inRel {N : Nat} {W : World} (h : N ≤ W.heap.size) : Rel (inMap N W) ⟨fun _ => .dead, N⟩ W := by
 have dead : ∀ b, (⟨fun _ => .dead, N⟩ : AH).get b = .dead := fun b => rfl
 refine ⟨fun b pl hb => ?_, fun b pl hb => ?_, fun b pl hb => ?_, fun b b' pl pl' _ _ _ ho => ?_, fun k arr hk => ?_⟩
 ·simp only [inMap] at hb; split at hb
  ·assumption
  ·cases hb
 ·simp only [inMap] at hb; split at hb
  ·cases hb; simp only; omega
  ·cases hb
 ·rw [dead]; trivial
 ·rw [dead] at ho; cases ho
 ·simp only [inMap] at hk
  split at hk
  ·rename_i a ty fr e; cases hk
   exact ⟨⟨ty, fr, e⟩, fun ⟨b, pl, _, ho, _⟩ => by rw [dead] at ho; cases ho⟩
  ·cases hk

section
variable {H : Type} {enc : TypeId × Value → H} {W : World} {N : Nat}
theorem trodAll_below {W' : World} (hl : laidOutB P = true) (hb : Below W.heap.size W W') : ∀ (ts : List TypeId) (vs : List Value) (ds : List (DataW H)) (ps : List MemPlace), (ts.all fun t => P.readableRec t && decide (t < P.types.size)) = true →
  DataW.TrodAll enc P W 0 (fun _ => true) true ts vs ds ps → DataW.TrodAll enc P W' 0 (fun b => decide (b < W.heap.size)) true ts vs ds ps := by
 intro ts
 induction ts with
 | nil => intro vs ds ps _ h; cases vs <;> cases ds <;> first | exact h.elim | exact h
 | cons t ts ih =>
  intro vs ds ps hok h; simp only [List.all_cons, Bool.and_eq_true, decide_eq_true_eq] at hok; obtain ⟨v, vs', d, ds', p, q, rfl, rfl, rfl, h1, h2⟩ := ChangeShapes.trodAll_cons h; refine ⟨p, q, Below.trod hl hok.1.1 hok.1.2 h1 hb ?_, ih vs' ds' q hok.2 h2, rfl⟩; obtain ⟨m, hm⟩ := h1; exact DataW.trod_lt m _ _ _ hm
end

variable [EqV]
def cellsOfD (P : Program) : Nat → TypeId → DataW Unit → Option (List Value)
 | 0, _, _ => none
 | n + 1, t, d => match P.underlying t, d with
  | some (.int k), .lit (.int k' m) => if k' = k then some [.int k m] else none
  | some .bool, .lit (.bool b) => some [.bool b]
  | some .string, .lit (.string s) => some [.string ⟨s.toArray⟩]
  | some (.array len e), .agg ds => if ds.length = len ∧ P.cellsOf t = len * P.cellsOf e then catD (P.cellsOf e) (ds.map (cellsOfD P n e)) else none
  | _, _ => none
where catD (k : Nat) : List (Option (List Value)) → Option (List Value)
 | [] => some []
 | none :: _ => none
 | some a :: r => match catD k r with
  | some l => if a.length = k then some (a ++ l) else none
  | none => none

theorem catD_sound {k : Nat} : ∀ (l : List (Option (List Value))) (r cs : List Value), cellsOfD.catD k l = some r → cs.length = l.length * k → (∀ (i : Nat) a, l[i]? = some (some a) → (cs.drop (i * k)).take k = a) → cs = r := by
 intro l
 induction l with
 | nil => intro r cs h hl _; cases h; exact List.eq_nil_of_length_eq_zero (by simpa using hl)
 | cons a l ih =>
  intro r cs h hl hi; cases a with
  | none => cases h
  | some a =>
   simp only [cellsOfD.catD] at h; split at h
   ·rename_i q hq
    split at h
    ·rename_i hk
     cases h; have h0 := hi 0 a rfl; simp only [Nat.zero_mul, List.drop_zero] at h0; simp only [List.length_cons, Nat.add_mul, Nat.one_mul] at hl; have hr := ih q (cs.drop k) hq (by simp; omega) fun i b hb => by
      have := hi (i + 1) b (by simpa using hb); rw [Nat.add_mul, Nat.one_mul] at this; rw [List.drop_drop, Nat.add_comm k]; exact this
     rw [← h0, ← hr, List.take_append_drop]
    ·cases h
   ·cases h

theorem cellsOfD_sound {P : Program} {enc : TypeId × Value → Unit} {W : World} {base : Nat} {sp : Nat → Bool} {held : Bool} : ∀ (n : Nat) (t : TypeId) (fuel : Nat) (cs : List Value) (d : DataW Unit) (p : List MemPlace) (vs : List Value),
  DataW.trod enc P W base sp held fuel t cs = some (d, p) → cellsOfD P n t d = some vs → cs = vs ∧ vs.all flat1 = true := by
 intro n
 induction n with
 | zero => intro t fuel cs d p vs _ h; cases h
 | succ n ih =>
  intro t fuel cs d p vs h hc; simp only [cellsOfD] at hc; split at hc
  ·rename_i k k' m hu
   split at hc
   ·rename_i e; subst e; cases hc
    obtain ⟨m', rfl, e, -⟩ := DataW.trod_int hu h; cases e; exact ⟨rfl, rfl⟩
   ·cases hc
  ·rename_i b hu
   cases hc; obtain ⟨b', rfl, e⟩ := DataW.trod_bool hu h; cases e; exact ⟨rfl, rfl⟩
  ·rename_i s hu
   cases hc; obtain ⟨s', rfl, e, -⟩ := DataW.trod_string hu h; cases e; exact ⟨rfl, rfl⟩
  ·rename_i len e ds hu
   split at hc
   ·rename_i hl
    obtain ⟨xs, m, rfl, hx, hlen, hn, hel⟩ := DataW.trod_array hu h; simp only [Prod.mk.injEq, DataW.agg.injEq] at hx; have each : ∀ (i : Nat) a, (ds.map (cellsOfD P n e))[i]? = some (some a) → (cs.drop (i * P.cellsOf e)).take (P.cellsOf e) = a ∧ a.all flat1 = true := fun i a ha => by
     rw [List.getElem?_map] at ha; cases hd : ds[i]? with
     | none => rw [hd] at ha; cases ha
     | some d =>
      rw [hd] at ha; simp only [Option.map_some, Option.some.injEq] at ha; have hi : i < len := by rw [← hl.1]; exact (List.getElem?_eq_some_iff.1 hd).1
      have h1 := hel i hi; have h2 : (xs.map (·.1))[i]? = some d := by rw [← hx.1]; exact hd
      rw [List.getElem?_map] at h2; cases hxi : xs[i]? with
      | none => rw [hxi] at h2; cases h2
      | some x =>
       rw [hxi] at h2 h1; simp only [Option.map_some, Option.some.injEq] at h2; obtain ⟨x1, x2⟩ := x; simp only at h2; subst h2; exact ih e m _ _ _ a h1 ha
    refine ⟨catD_sound _ vs cs hc (by rw [hlen, hl.2, List.length_map, hl.1]) fun i a ha => (each i a ha).1, ?_⟩; have fl : ∀ (l : List (Option (List Value))) (r : List Value), cellsOfD.catD (P.cellsOf e) l = some r → (∀ (i : Nat) a, l[i]? = some (some a) → a.all flat1 = true) → r.all flat1 = true := by
     intro l; induction l with
     | nil => intro r h _; cases h; rfl
     | cons a l ihl =>
      intro r h hi; cases a with
      | none => cases h
      | some a =>
       simp only [cellsOfD.catD] at h; split at h
       ·rename_i q hq
        split at h
        ·cases h
         rw [List.all_append, hi 0 a rfl, ihl q hq fun i b hb => hi (i + 1) b (by simpa using hb)]; rfl
        ·cases h
       ·cases h
    exact fl _ vs hc fun i a ha => (each i a ha).2
   ·cases hc
  ·cases hc

theorem laid_mem {P : Program} {W : World} : ∀ (l : List (String × DataW Unit)) (ps : List MemPlace), DataW.LaidVars P W l ps → ∀ n d, (n, d) ∈ l → ∃ g t cs fuel p, P.globalNamed n = some g ∧ (P.globals[g]?).map (·.type) = some t ∧ W.var? P n = some cs ∧ DataW.trod (fun _ => ()) P W 0 (fun _ => true) false fuel t cs.toList = some (d, p) := by
 intro l
 induction l with
 | nil => intro ps _ n d h; cases h
 | cons x l ih =>
  intro ps h n d hm; obtain ⟨n0, d0⟩ := x; obtain ⟨g, t, cs, fuel, p, q, h1, h2, h3, h4, h5, -⟩ := h; rcases List.mem_cons.1 hm with hm | hm
  ·cases hm; exact ⟨g, t, cs, fuel, p, h1, h2, h3, h4⟩
  ·exact ih q h5 n d hm

theorem gok_of {P : Program} {G0 : Nat → Option (Array Value)} {W : World} {tbl : List (String × DataW Unit)} (h : laidMet P tbl W)
  (hG : ∀ g cs, G0 g = some cs → ∃ n d, (n, d) ∈ tbl ∧ P.globalNamed n = some g ∧ ((P.globals[g]?).map (·.type)).bind (fun t => cellsOfD P 12 t d) = some cs.toList) :
  letI : EqV := EqV.kernel G0; GOk P (inMap P.globals.size W) := by
 letI : EqV := EqV.kernel G0
 intro g hg
 refine ⟨by simp only [inMap, if_pos hg], fun cs hcs => ?_⟩
 obtain ⟨n, d, h1, h2, h3⟩ := hG g cs hcs
 obtain ⟨ps, hl, -⟩ := h
 obtain ⟨g', t, cs', fuel, p, e1, e2, e3, e4⟩ := laid_mem _ _ hl n d h1
 rw [h2] at e1; cases e1
 rw [e2] at h3
 simp only [Option.bind_some] at h3
 obtain ⟨k1, k2⟩ := cellsOfD_sound 12 t fuel _ d p _ e4 h3
 have e : cs' = cs := Array.toList_inj.1 k1
 subst e
 have hfro : (inMap P.globals.size W).fro g = some cs' := by
  unfold World.var? at e3; rw [h2] at e3; simp only [Option.bind_some] at e3; simp only [inMap]; split at e3
  ·rename_i hw; rw [hw]; exact e3
  ·cases e3
 refine .dptr cs' g 0 cs' hfro (by omega) fun i hi h' => ?_
 have := List.all_eq_true.1 k2 cs'[i] (by simp)
 simpa using VR.flat _ this
theorem shaped_size {P : Program} (h : (match P.globals.size with | 0 => true | n + 1 => (((begin P (fun _ _ => 0) default).world.heap[n]?).bind Obj.row?).isSome) = true) : ∀ W : World, W.ShapedOpen P → P.globals.size ≤ W.heap.size := by
 intro W hs
 cases hn : P.globals.size with
 | zero => exact Nat.zero_le _
 | succ n =>
  rw [hn] at h; simp only at h; obtain ⟨x, hx⟩ := Option.isSome_iff_exists.1 h; obtain ⟨zero, t⟩ := x; obtain ⟨cs, hcs, -⟩ := hs.1 n zero t (by omega) hx; have := (Array.getElem?_eq_some_iff.1 hcs).1; omega
end Go.AM
