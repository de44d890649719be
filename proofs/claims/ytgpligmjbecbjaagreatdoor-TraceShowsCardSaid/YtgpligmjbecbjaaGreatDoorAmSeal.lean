/- Sealing: what a finished call has built becomes a value in itself; the heap is as before. -/

import Derived.Test.YtgpligmjbecbjaaGreatDoorAmCode
set_option linter.unusedVariables false
set_option linter.unusedSimpArgs false
set_option linter.unusedSectionVars false
namespace Go.AM
open Go

inductive Closed : Value → Prop
 | flat (v : Value) (h : flat1 v = true) : Closed v
 | func (f : Fn) (x y : Array Value) (hf : ∀ l, f ≠ .yield l) (hx : ∀ i (h : i < x.size), Closed x[i]) (hy : ∀ i (h : i < y.size), Closed y[i]) : Closed (.func f x y)
 | iface (t : TypeId) (v : Value) (h : Closed v) : Closed (.iface t v)
 | agg (x : Array Value) (hx : ∀ i (h : i < x.size), Closed x[i]) : Closed (.agg x)
 | tuple (x : Array Value) (hx : ∀ i (h : i < x.size), Closed x[i]) : Closed (.tuple x)

theorem Closed.vr {m m2 : Mp} (hf : ∀ k arr, m.fro k = some arr → m2.fro k = some arr) {v v' : Value} (h : VR m v v') : Closed v → VR m2 v v' := by
 induction h with
 | flat v h => exact fun _ => .flat v h
 | ptr b off pl h => intro hc; cases hc with | flat _ hh => simp [flat1] at hh
 | slice b off n sz a' c' hn h => intro hc; cases hc with | flat _ hh => simp [flat1] at hh
 | map b pl h => intro hc; cases hc with | flat _ hh => simp [flat1] at hh
 | func f x x' y y' hx hy _ _ i1 i2 =>
  intro hc; cases hc with
  | flat _ hh => simp [flat1] at hh
  | func _ _ _ _ h1 h2 => exact .func f x x' y y' hx hy (fun i a b => i1 i a b (h1 i a)) fun i a b => i2 i a b (h2 i a)
 | yld l pl h =>
  intro hc; cases hc with
  | flat _ hh => simp [flat1] at hh
  | func _ _ _ hl _ _ => exact absurd rfl (hl l)
 | agg x x' hx _ i1 =>
  intro hc; cases hc with
  | flat _ hh => simp [flat1] at hh
  | agg _ h1 => exact .agg x x' hx fun i a b => i1 i a b (h1 i a)
 | tuple x x' hx _ i1 =>
  intro hc; cases hc with
  | flat _ hh => simp [flat1] at hh
  | tuple _ h1 => exact .tuple x x' hx fun i a b => i1 i a b (h1 i a)
 | iface t v v' _ ih =>
  intro hc; cases hc with
  | flat _ hh => simp [flat1] at hh
  | iface _ _ h1 => exact .iface t v v' (ih h1)
 | dptr cs k off arr h hl hc ih =>
  intro hcl; cases hcl with
  | flat _ hh => simp [flat1] at hh
  | func _ _ _ _ h1 h2 => exact .dptr cs k off arr (hf _ _ h) hl fun i a b => ih i a b (h1 i a)
 | lst cs n c' a' hn h hc ih =>
  intro hcl; cases hcl with
  | flat _ hh => simp [flat1] at hh
  | func _ _ _ _ h1 h2 =>
   rcases h with h | ⟨arr, g1, g2, g3⟩
   ·exact .lst cs n c' a' hn (.inl h) fun i hi => by omega
   ·refine .lst cs n c' a' hn (.inr ⟨arr, hf _ _ g1, g2, g3⟩) fun i hi arr' h' hf' => ?_
    have e : arr' = arr := by have := hf _ _ g1; rw [hf'] at this; exact Option.some.inj this
    subst e; exact ih i hi arr' h' g1 (h1 i hi)

theorem VR.transfer {m m1 m2 : Mp} (hb : ∀ b pl, m b = some pl → m1 b = some pl ∧ m2 b = some pl) (hf : ∀ k arr, m1.fro k = some arr → m2.fro k = some arr) {c v0 : Value} (h : VR m c v0) : ∀ {v' : Value}, VR m1 c v' → VR m2 c v' := by
 induction h with
 | flat v h => intro v' h'; rw [h'.flat1_eq h]; exact .flat v h
 | ptr b off pl h =>
  intro v' h'; obtain ⟨pl', h1, -, rfl⟩ := h'.ptr_inv; rw [(hb b pl h).1] at h1; cases h1; exact .ptr b off pl (hb b pl h).2
 | slice b off n sz a' c' hn h =>
  intro v' h'; obtain ⟨pl, h3, -⟩ := h; obtain ⟨pl', h1, a2, c2, rfl, -, hn2, hd⟩ := h'.slice_map; rw [(hb b pl h3).1] at h1; cases h1; exact .slice b off n sz a2 c2 hn2 ⟨pl, (hb b pl h3).2, hd⟩
 | map b pl h =>
  intro v' h'; obtain ⟨pl', h1, rfl⟩ := h'.map_inv; rw [(hb b pl h).1] at h1; cases h1; exact .map b pl (hb b pl h).2
 | func f x x' y y' hx hy _ _ i1 i2 =>
  intro v' h'; obtain ⟨x2, y2, rfl, g1, g2⟩ := h'.func_inv; refine .of_vrl_func ⟨g1.1, fun i a b => ?_⟩ ⟨g2.1, fun i a b => ?_⟩
  ·have := i1 i (by simpa using a) (by rw [← hx]; simpa using a) (by simpa using g1.2 i a b); simpa using this
  ·have := i2 i (by simpa using a) (by rw [← hy]; simpa using a) (by simpa using g2.2 i a b); simpa using this
 | yld l pl h =>
  intro v' h'; obtain ⟨pl', h1, -, -, rfl⟩ := h'.yld_inv; rw [(hb l pl h).1] at h1; cases h1; exact .yld l pl (hb l pl h).2
 | agg x x' hx _ i1 =>
  intro v' h'; obtain ⟨x2, rfl, g1⟩ := h'.agg_inv; refine .of_vrl_agg ⟨g1.1, fun i a b => ?_⟩; have := i1 i (by simpa using a) (by rw [← hx]; simpa using a) (by simpa using g1.2 i a b); simpa using this
 | tuple x x' hx _ i1 =>
  intro v' h'; obtain ⟨x2, rfl, g1⟩ := h'.tuple_inv; refine .of_vrl_tuple ⟨g1.1, fun i a b => ?_⟩; have := i1 i (by simpa using a) (by rw [← hx]; simpa using a) (by simpa using g1.2 i a b); simpa using this
 | iface t v v0 _ ih =>
  intro v' h'; obtain ⟨u, rfl, g⟩ := h'.iface_inv; exact .iface t v u (ih g)
 | dptr cs k off arr h hl hc ih =>
  intro v' h'; obtain ⟨k2, off2, arr2, rfl, g1, g2, g3⟩ := h'.dptr_inv; exact .dptr cs k2 off2 arr2 (hf _ _ g1) g2 fun i a b => ih i a (by omega) (g3 i a b)
 | lst cs n c' a' hn h hc ih =>
  intro v' h'; obtain ⟨a2, c2, rfl, hn2, hd⟩ := h'.lst_inv; rcases h with h | ⟨arr, h1, h2, h3⟩
  ·exact .lst cs n c2 a2 hn2 (.inl h) fun i hi => by omega
  ·rcases hd with hd | ⟨arr2, g1, g2, g3, g4⟩
   ·exact .lst cs n c2 a2 hn2 (.inl hd) fun i hi => by omega
   ·refine .lst cs n c2 a2 hn2 (.inr ⟨arr2, hf _ _ g1, g2, g3⟩) fun i hi arr' h' hf' => ?_
    have e : arr' = arr2 := by have := hf _ _ g1; rw [hf'] at this; exact Option.some.inj this
    subst e; exact ih i hi arr (by omega) h1 (g4 i hi h')

inductive Deep (H : AH) (B : Nat) : Value → Value → Prop
 | closed (v : Value) (h : Closed v) : Deep H B v v
 | slice (b off len sz : Nat) (c : List Value) (s : Nat) (ty : TypeId) (ds : Array Value) (hb : B ≤ b) (hg : H.get b = .cells c true s ty) (hsz : sz ≠ 0) (hle : off + len * sz ≤ c.length) (hds : ds.size = len * sz)
   (h : ∀ i (h : i < ds.size) (h' : off + i < c.length), Deep H B c[off + i] ds[i]) : Deep H B (.slice (some ⟨b, off, none⟩) len sz) (LST len ds)
 | ptr (b off : Nat) (c : List Value) (s : Nat) (ty : TypeId) (ds : Array Value) (hb : B ≤ b) (hg : H.get b = .cells c true s ty) (hle : off + ds.size ≤ c.length)
   (h : ∀ i (h : i < ds.size) (h' : off + i < c.length), Deep H B c[off + i] ds[i]) : Deep H B (.pointer (some ⟨b, off, none⟩)) (DPTR ds)
 | func (f : FuncId) (x y x' y' : Array Value) (hx : x'.size = x.size) (hy : y'.size = y.size) (h1 : ∀ i (h : i < x.size) (h' : i < x'.size), Deep H B x[i] x'[i]) (h2 : ∀ i (h : i < y.size) (h' : i < y'.size), Deep H B y[i] y'[i]) :
   Deep H B (.func (.func f) x y) (.func (.func f) x' y')
 | agg (x x' : Array Value) (hx : x'.size = x.size) (h1 : ∀ i (h : i < x.size) (h' : i < x'.size), Deep H B x[i] x'[i]) : Deep H B (.agg x) (.agg x')
 | tuple (x x' : Array Value) (hx : x'.size = x.size) (h1 : ∀ i (h : i < x.size) (h' : i < x'.size), Deep H B x[i] x'[i]) : Deep H B (.tuple x) (.tuple x')
 | iface (t : TypeId) (v v' : Value) (h : Deep H B v v') : Deep H B (.iface t v) (.iface t v')

theorem Deep.vr {m1 m2 : Mp} {H : AH} {w : World} {B : Nat} (hR : Rel m1 H w) (hf : ∀ k arr, m1.fro k = some arr → m2.fro k = some arr)
  (hn : ∀ b pl c s ty (arr : Array Value) fr, B ≤ b → m1 b = some pl → H.get b = .cells c true s ty → w.heap[pl.blk]? = some (.cells arr ty fr) → m2.fro pl.blk = some arr) {v d : Value} (h : Deep H B v d) : ∀ {v' : Value}, VR m1 v v' → VR m2 d v' := by
 induction h with
 | closed v h => intro v' h'; exact h.vr hf h'
 | slice b off len sz c s ty ds hb hg hsz hle hds hc ih =>
  intro v' h'; obtain ⟨pl, h1, a', c', rfl, -, hn', hd⟩ := h'.slice_map; rcases hd with hd | ⟨hd, hcap⟩
  ·exact .lst ds len c' a' hn' (.inl (by have : len = 0 := (by omega); rw [hds, this, Nat.zero_mul])) fun i hi => by
    have : len = 0 := by omega
    rw [hds, this, Nat.zero_mul] at hi; omega
  ·subst hd
   have ho := hR.obj b pl h1; rw [hg] at ho; obtain ⟨g1, -, g3⟩ := ho; obtain ⟨g4, g5, arr, lo, hi, g6, g7, -⟩ := g3 rfl; have hfr := hn b pl c s ty arr _ hb h1 hg g6; refine .lst ds len c' _ hn' (.inr ⟨arr, hfr, rfl, by simp only; omega⟩) fun i hi arr' h2 hf' => ?_
   rw [hfr] at hf'; cases hf'; simp only [g4, Nat.zero_add] at h2 ⊢; have hic : off + i < c.length := by omega
   refine ih i hi hic ?_; obtain ⟨v', e1, e2⟩ := g1 (off + i) hic; rw [cell_set g6, g4, Nat.zero_add, Array.getElem?_eq_getElem h2] at e1; cases e1; exact e2
 | ptr b off c s ty ds hb hg hle hc ih =>
  intro v' h'; obtain ⟨pl, h1, -, rfl⟩ := h'.ptr_inv; have ho := hR.obj b pl h1; rw [hg] at ho; obtain ⟨g1, -, g3⟩ := ho; obtain ⟨g4, g5, arr, lo, hi, g6, g7, -⟩ := g3 rfl; have hfr := hn b pl c s ty arr _ hb h1 hg g6; refine .dptr ds pl.blk (pl.off + off) arr hfr (by omega) fun i hi h2 => ?_
  simp only [g4, Nat.zero_add] at h2 ⊢; have hic : off + i < c.length := by omega
  refine ih i hi hic ?_; obtain ⟨v', e1, e2⟩ := g1 (off + i) hic; rw [cell_set g6, g4, Nat.zero_add, Array.getElem?_eq_getElem h2] at e1; cases e1; exact e2
 | func f x y x' y' hx hy _ _ i1 i2 =>
  intro v' h'; obtain ⟨x2, y2, rfl, g1, g2⟩ := h'.func_inv; refine .of_vrl_func ⟨by simpa [hx] using g1.1, fun i a b => ?_⟩ ⟨by simpa [hy] using g2.1, fun i a b => ?_⟩
  ·have ha : i < x.size := by rw [← hx]; simpa using a
   have := i1 i ha (by simpa using a) (by have q := g1.2 i (by simpa using ha) b; rw [Array.getElem_toList] at q; exact q); simpa using this
  ·have ha : i < y.size := by rw [← hy]; simpa using a
   have := i2 i ha (by simpa using a) (by have q := g2.2 i (by simpa using ha) b; rw [Array.getElem_toList] at q; exact q); simpa using this
 | agg x x' hx _ i1 =>
  intro v' h'; obtain ⟨x2, rfl, g1⟩ := h'.agg_inv; refine .of_vrl_agg ⟨by simpa [hx] using g1.1, fun i a b => ?_⟩; have ha : i < x.size := by rw [← hx]; simpa using a
  have := i1 i ha (by simpa using a) (by have q := g1.2 i (by simpa using ha) b; rw [Array.getElem_toList] at q; exact q); simpa using this
 | tuple x x' hx _ i1 =>
  intro v' h'; obtain ⟨x2, rfl, g1⟩ := h'.tuple_inv; refine .of_vrl_tuple ⟨by simpa [hx] using g1.1, fun i a b => ?_⟩; have ha : i < x.size := by rw [← hx]; simpa using a
  have := i1 i ha (by simpa using a) (by have q := g1.2 i (by simpa using ha) b; rw [Array.getElem_toList] at q; exact q); simpa using this
 | iface t v v0 _ ih =>
  intro v' h'; obtain ⟨u, rfl, g⟩ := h'.iface_inv; exact .iface t v0 u (ih g)

open Classical in
noncomputable def sealMap (m m1 : Mp) (H1 : AH) (B : Nat) (w1 : World) : Mp :=
 ⟨m.at_, fun k => match m1.fro k with
  | some arr => some arr
  | none => if ∃ b pl, B ≤ b ∧ m1 b = some pl ∧ isOwn (H1.get b) = true ∧ pl.blk = k then
    match w1.heap[k]? with
    | some (.cells arr _ _) => some arr
    | _ => none
   else none⟩

theorem seal_stp {m : Mp} {H0 : AH} {w : World} {m1 : Mp} {H1 : AH} {w1 : World} (hR : Rel m H0 w) (hst : Stp m H0 w m1 H1 w1) (hsame : ∀ b, b < H0.next → H1.get b = H0.get b) :
  Stp m H0 w (sealMap m m1 H1 H0.next w1) H0 w1 ∧ (∀ k arr, m1.fro k = some arr → (sealMap m m1 H1 H0.next w1).fro k = some arr) ∧
  ∀ b pl c s ty (arr : Array Value) fr, H0.next ≤ b → m1 b = some pl → H1.get b = .cells c true s ty → w1.heap[pl.blk]? = some (.cells arr ty fr) → (sealMap m m1 H1 H0.next w1).fro pl.blk = some arr := by
 have hR1 := hst.rel
 have hat : ∀ b, (sealMap m m1 H1 H0.next w1) b = m b := fun b => rfl
 have hfro : ∀ k arr, (sealMap m m1 H1 H0.next w1).fro k = some arr → m1.fro k = some arr ∨ ((∃ b pl, H0.next ≤ b ∧ m1 b = some pl ∧ isOwn (H1.get b) = true ∧ pl.blk = k) ∧ ∃ ty fr, w1.heap[k]? = some (.cells arr ty fr)) := by
  intro k arr h; simp only [sealMap] at h; split at h
  ·rename_i a e; left; rw [e]; exact h
  ·split at h
   ·rename_i hex
    split at h
    ·rename_i a ty fr e
     cases h; exact .inr ⟨hex, ty, fr, e⟩
    ·cases h
   ·cases h
 have hle : ∀ k arr, m1.fro k = some arr → (sealMap m m1 H1 H0.next w1).fro k = some arr := by
  intro k arr h; simp only [sealMap, h]
 have hmb : ∀ b pl, m b = some pl → m1 b = some pl ∧ (sealMap m m1 H1 H0.next w1) b = some pl := fun b pl hb => ⟨by rw [hst.old b (hR.dom b pl hb)]; exact hb, hb⟩
 have hown0 : ∀ k, Owned m H0 k → Owned m1 H1 k := fun k ⟨b, pl, hb, ho, he⟩ => ⟨b, pl, (hmb b pl hb).1, by rw [hsame b (hR.dom b pl hb)]; exact ho, he⟩
 have hnew : ∀ k, (∃ b pl, H0.next ≤ b ∧ m1 b = some pl ∧ isOwn (H1.get b) = true ∧ pl.blk = k) → ¬ Owned m H0 k := by
  rintro k ⟨b, pl, hb, hm, ho, rfl⟩ ⟨b0, pl0, hb0, ho0, he⟩
  have hlt := hR.dom b0 pl0 hb0; refine hR1.apart b0 b pl0 pl (hmb b0 pl0 hb0).1 hm (by omega) (by rw [hsame b0 hlt]; exact ho0) ?_ he; intro hd; rw [hd] at ho; simp [isOwn] at ho
 have rel : Rel (sealMap m m1 H1 H0.next w1) H0 w1 := by
  refine ⟨fun b pl hb => hR.dom b pl hb, fun b pl hb => hR1.blk b pl (hmb b pl hb).1, fun b pl hb => ?_, fun b b' pl pl' hb hb' hne ho hd => ?_, fun k arr hk => ?_⟩
  ·have h0 := hR.obj b pl hb
   have h1 := hR1.obj b pl (hmb b pl hb).1; rw [hsame b (hR.dom b pl hb)] at h1; cases hg : H0.get b with
   | dead => trivial
   | cells c own sz ty =>
    rw [hg] at h0 h1; refine ⟨fun i hi => ?_, h1.2⟩; obtain ⟨v0, -, a0⟩ := h0.1 i hi; obtain ⟨v1, a, a1⟩ := h1.1 i hi; exact ⟨v1, a, VR.transfer hmb hle a0 a1⟩
   | loop tmps ps asg body st pend =>
    rw [hg] at h0 h1; obtain ⟨r0, _, _, _, a0, _⟩ := h0; obtain ⟨r1, b1, b2, b3, a1, b5⟩ := h1; exact ⟨r1, b1, b2, b3, ⟨a1.1, fun i p q => VR.transfer hmb hle (a0.2 i p (by rw [← a0.1]; exact p)) (a1.2 i p q)⟩, b5⟩
   | iter s pos => rw [hg] at h1; exact h1
   | map es =>
    rw [hg] at h0 h1; obtain ⟨e0, c0, _, a0, a0', _⟩ := h0; obtain ⟨e1, c1, b1, a1, a1', a2⟩ := h1; exact ⟨e1, c1, b1, ⟨a1.1, fun i p q => VR.transfer hmb hle (a0.2 i p (by rw [← a0.1]; exact p)) (a1.2 i p q)⟩, ⟨a1'.1, fun i p q => VR.transfer hmb hle (a0'.2 i p (by rw [← a0'.1]; exact p)) (a1'.2 i p q)⟩, a2⟩
  ·exact hR1.apart b b' pl pl' (hmb b pl hb).1 (hmb b' pl' hb').1 hne (by rw [hsame b (hR.dom b pl hb)]; exact ho) (by rw [hsame b' (hR.dom b' pl' hb')]; exact hd)
  ·rcases hfro k arr hk with h | ⟨h, ty, fr, e⟩
   ·obtain ⟨g1, g2⟩ := hR1.fro k arr h
    exact ⟨g1, fun ho => g2 (hown0 k ho)⟩
   ·exact ⟨⟨ty, fr, e⟩, hnew k h⟩
 refine ⟨⟨rel, Nat.le_refl _, fun b _ => rfl, hst.size, hst.frame, fun k hk => .inl hk, fun k hk => .inl hk, hst.os, hst.tape, hst.output, hst.loops, fun k arr hk => hle k arr (hst.fle k arr hk), fun k arr hk => ?_⟩, hle, fun b pl c s ty arr fr hb hm hg he => ?_⟩
 ·rcases hfro k arr hk with h | ⟨⟨b, pl, hb, hm, ho, rfl⟩, -⟩
  ·exact hst.fgrow k arr h
  ·rcases hst.grow _ ⟨b, pl, hm, ho, rfl⟩ with h | h
   ·exact .inr (.inl h)
   ·exact .inr (.inr h)
 ·have hun : m1.fro pl.blk = none := by
   cases hf : m1.fro pl.blk with
   | none => rfl
   | some a => exact absurd ⟨b, pl, hm, by rw [hg]; rfl, rfl⟩ (hR1.fro _ _ hf).2
  simp only [sealMap, hun]; rw [if_pos ⟨b, pl, hb, hm, by rw [hg]; rfl, rfl⟩, he]

theorem sealed {m : Mp} {H0 : AH} {w : World} {m1 : Mp} {H1 : AH} {w1 : World} (hR : Rel m H0 w) (hst : Stp m H0 w m1 H1 w1) (hsame : ∀ b, b < H0.next → H1.get b = H0.get b) {v d v' : Value} (hd : Deep H1 H0.next v d) (hv : VR m1 v v') :
  ∃ m2, Stp m H0 w m2 H0 w1 ∧ VR m2 d v' := by
 obtain ⟨g1, g2, g3⟩ := seal_stp hR hst hsame
 exact ⟨_, g1, hd.vr hst.rel g2 g3 hv⟩

end Go.AM
