/- How an abstract heap stands to a world: the relation, the steps that keep it. -/

import Derived.Test.YtgpligmjbecbjaaDoorAmDef
import Derived.Below
set_option linter.unusedVariables false
set_option linter.unusedSimpArgs false
set_option linter.unusedSectionVars false
namespace Go.AM
open Go

structure Pl where
 blk : Nat
 off : Nat
 cap : Nat
 sz : Nat

@[ext] structure Mp where
 at_ : Nat → Option Pl
 fro : Nat → Option (Array Value)
instance : CoeFun Mp fun _ => Nat → Option Pl := ⟨Mp.at_⟩

inductive VR (m : Mp) : Value → Value → Prop
 | flat (v : Value) (h : flat1 v = true) : VR m v v
 | ptr (b off : Nat) (pl : Pl) (h : m b = some pl) : VR m (.pointer (some ⟨b, off, none⟩)) (.pointer (some ⟨pl.blk, pl.off + off, none⟩))
 | slice (b off n sz : Nat) (a' : Addr) (c' : Nat) (hn : n ≤ c') (h : ∃ pl, m b = some pl ∧ (c' = 0 ∨ (a' = ⟨pl.blk, pl.off + off, none⟩ ∧ (sz ≠ 0 → pl.sz = sz ∧ off + c' * sz ≤ pl.cap)))) :
   VR m (.slice (some ⟨b, off, none⟩) n sz) (.slice (some a') n c')
 | map (b : Nat) (pl : Pl) (h : m b = some pl) : VR m (.map (some b)) (.map (some pl.blk))
 | func (f : FuncId) (x x' y y' : Array Value) (hx : x.size = x'.size) (hy : y.size = y'.size) (h1 : ∀ i (h : i < x.size) (h' : i < x'.size), VR m x[i] x'[i])
   (h2 : ∀ i (h : i < y.size) (h' : i < y'.size), VR m y[i] y'[i]) : VR m (.func (.func f) x y) (.func (.func f) x' y')
 | yld (l : Nat) (pl : Pl) (h : m l = some pl) : VR m (.func (.yield l) #[] #[]) (.func (.yield pl.blk) #[] #[])
 | agg (x x' : Array Value) (hx : x.size = x'.size) (h1 : ∀ i (h : i < x.size) (h' : i < x'.size), VR m x[i] x'[i]) : VR m (.agg x) (.agg x')
 | tuple (x x' : Array Value) (hx : x.size = x'.size) (h1 : ∀ i (h : i < x.size) (h' : i < x'.size), VR m x[i] x'[i]) : VR m (.tuple x) (.tuple x')
 | iface (t : TypeId) (v v' : Value) (h : VR m v v') : VR m (.iface t v) (.iface t v')
 | dptr (cs : Array Value) (k off : Nat) (arr : Array Value) (h : m.fro k = some arr) (hl : off + cs.size ≤ arr.size) (hc : ∀ i (h : i < cs.size) (h' : off + i < arr.size), VR m cs[i] arr[off + i]) :
   VR m (DPTR cs) (.pointer (some ⟨k, off, none⟩))
 | lst (cs : Array Value) (n c' : Nat) (a' : Addr) (hn : n ≤ c') (h : cs.size = 0 ∨ ∃ arr, m.fro a'.block = some arr ∧ a'.spot = none ∧ a'.off + cs.size ≤ arr.size)
   (hc : ∀ i (h : i < cs.size) (arr : Array Value) (h' : a'.off + i < arr.size), m.fro a'.block = some arr → VR m cs[i] arr[a'.off + i]) :
   VR m (LST n cs) (.slice (some a') n c')

def VRL (m : Mp) (x x' : List Value) : Prop := x.length = x'.length ∧ ∀ (i : Nat) (h : i < x.length) (h' : i < x'.length), VR m x[i] x'[i]

def Mle (m m1 : Mp) : Prop := (∀ b pl, m b = some pl → m1 b = some pl) ∧ ∀ k arr, m.fro k = some arr → m1.fro k = some arr
theorem Mle.refl (m : Mp) : Mle m m := ⟨fun _ _ h => h, fun _ _ h => h⟩
theorem Mle.trans {a b c : Mp} (h : Mle a b) (k : Mle b c) : Mle a c := ⟨fun x pl hx => k.1 x pl (h.1 x pl hx), fun x pl hx => k.2 x pl (h.2 x pl hx)⟩

theorem VR.mono {m m1 : Mp} (hm : Mle m m1) {v v' : Value} (h : VR m v v') : VR m1 v v' := by
 induction h with
 | flat v h => exact .flat v h
 | ptr b off pl h => exact .ptr b off pl (hm.1 _ _ h)
 | slice b off n sz a' c' hn h =>
  obtain ⟨pl, h1, h2⟩ := h
  exact .slice b off n sz a' c' hn ⟨pl, hm.1 _ _ h1, h2⟩
 | map b pl h => exact .map b pl (hm.1 _ _ h)
 | func f x x' y y' hx hy _ _ i1 i2 => exact .func f x x' y y' hx hy i1 i2
 | yld l pl h => exact .yld l pl (hm.1 _ _ h)
 | agg x x' hx _ i1 => exact .agg x x' hx i1
 | tuple x x' hx _ i1 => exact .tuple x x' hx i1
 | iface t v v' _ ih => exact .iface t v v' ih
 | dptr cs k off arr h hl hc ih => exact .dptr cs k off arr (hm.2 _ _ h) hl ih
 | lst cs n c' a' hn h hc ih =>
  rcases h with h | ⟨arr, h1, h2, h3⟩
  ·exact .lst cs n c' a' hn (.inl h) fun i hi => by omega
  ·refine .lst cs n c' a' hn (.inr ⟨arr, hm.2 _ _ h1, h2, h3⟩) fun i hi arr' h' hf => ?_
   have e : arr' = arr := by have := hm.2 _ _ h1; rw [hf] at this; exact Option.some.inj this
   subst e
   exact ih i hi arr' h' h1
theorem VRL.mono {m m1 : Mp} (hm : Mle m m1) {v v' : List Value} (h : VRL m v v') : VRL m1 v v' := ⟨h.1, fun i a b => (h.2 i a b).mono hm⟩

theorem VRL.nil (m : Mp) : VRL m [] [] := ⟨rfl, fun i h => by simp at h⟩
theorem VRL.cons {m : Mp} {v v' : Value} {r r' : List Value} (h : VR m v v') (k : VRL m r r') : VRL m (v :: r) (v' :: r') := by
 refine ⟨by simp [k.1], fun i a b => ?_⟩
 cases i with
 | zero => exact h
 | succ i => exact k.2 i (by simpa using a) (by simpa using b)
theorem VRL.head {m : Mp} {v v' : Value} {r r' : List Value} (h : VRL m (v :: r) (v' :: r')) : VR m v v' := h.2 0 (by simp) (by simp)
theorem VRL.tail {m : Mp} {v v' : Value} {r r' : List Value} (h : VRL m (v :: r) (v' :: r')) : VRL m r r' :=
 ⟨by simpa using h.1, fun i a b => by have := h.2 (i + 1) (by simpa using a) (by simpa using b); simpa using this⟩
theorem VRL.cases {m : Mp} {v : Value} {r l' : List Value} (h : VRL m (v :: r) l') : ∃ v' r', l' = v' :: r' ∧ VR m v v' ∧ VRL m r r' := by
 cases l' with
 | nil => have := h.1; simp at this
 | cons v' r' => exact ⟨v', r', rfl, h.head, h.tail⟩
theorem VRL.nil_cases {m : Mp} {l' : List Value} (h : VRL m [] l') : l' = [] := by
 cases l' with
 | nil => rfl
 | cons v' r' => have := h.1; simp at this
theorem VRL.append {m : Mp} {a a' b b' : List Value} (h : VRL m a a') (k : VRL m b b') : VRL m (a ++ b) (a' ++ b') := by
 refine ⟨by simp [h.1, k.1], fun i p q => ?_⟩
 by_cases hi : i < a.length
 ·rw [List.getElem_append_left hi, List.getElem_append_left (by rw [← h.1]; exact hi)]
  exact h.2 i hi _
 ·rw [List.getElem_append_right (by omega), List.getElem_append_right (by rw [← h.1]; omega)]
  have e1 := h.1
  rw [List.length_append] at p q
  have := k.2 (i - a.length) (by omega) (by omega)
  simpa [h.1] using this
theorem VRL.drop {m : Mp} {a a' : List Value} (h : VRL m a a') (n : Nat) : VRL m (a.drop n) (a'.drop n) :=
 ⟨by simp [h.1], fun i p q => by simp only [List.getElem_drop]; exact h.2 _ _ _⟩
theorem VRL.take {m : Mp} {a a' : List Value} (h : VRL m a a') (n : Nat) : VRL m (a.take n) (a'.take n) :=
 ⟨by simp [h.1], fun i p q => by simp only [List.getElem_take]; exact h.2 _ _ _⟩
theorem VRL.getElem? {m : Mp} {a a' : List Value} (h : VRL m a a') {i : Nat} {v : Value} (hv : a[i]? = some v) : ∃ v', a'[i]? = some v' ∧ VR m v v' := by
 obtain ⟨hi, rfl⟩ := List.getElem?_eq_some_iff.1 hv
 exact ⟨a'[i]'(by rw [← h.1]; exact hi), List.getElem?_eq_getElem _, h.2 i hi _⟩
theorem VRL.map_same {m : Mp} {α : Type} (l : List α) (f g : α → Value) (h : ∀ x ∈ l, VR m (f x) (g x)) : VRL m (l.map f) (l.map g) :=
 ⟨by simp, fun i p q => by simp only [List.getElem_map]; exact h _ (List.getElem_mem _)⟩
theorem VRL.set {m : Mp} {a a' : List Value} (h : VRL m a a') (i : Nat) {v v' : Value} (hv : VR m v v') : VRL m (a.set i v) (a'.set i v') := by
 refine ⟨by simp [h.1], fun j p q => ?_⟩
 simp only [List.getElem_set]
 split
 ·exact hv
 ·exact h.2 j _ _
theorem VRL.refl_flat {m : Mp} {l : List Value} (h : l.all flat1 = true) : VRL m l l :=
 ⟨rfl, fun _ _ _ => .flat _ (List.all_eq_true.1 h _ (List.getElem_mem _))⟩
theorem VRL.replicate {m : Mp} {v v' : Value} (n : Nat) (h : VR m v v') : VRL m (List.replicate n v) (List.replicate n v') :=
 ⟨by simp, fun i p q => by simpa using h⟩
theorem VRL.splice {m : Mp} {a a' b b' : List Value} (h : VRL m a a') (off : Nat) (k : VRL m b b') : VRL m (splice a off b) (splice a' off b') := by
 unfold AM.splice
 rw [k.1]
 exact ((h.take _).append k).append (h.drop _)

theorem VR.undef {m : Mp} : VR m Go.undef Go.undef := .tuple _ _ rfl (fun i h => by simp at h)
theorem VRL.ofArr {m : Mp} {x x' : Array Value} (hx : x.size = x'.size) (h1 : ∀ i (h : i < x.size) (h' : i < x'.size), VR m x[i] x'[i]) : VRL m x.toList x'.toList :=
 ⟨by simpa using hx, fun i a b => by simpa only [Array.getElem_toList] using h1 i (by simpa using a) (by simpa using b)⟩
theorem VRL.arr {m : Mp} {x x' : Array Value} (h : VRL m x.toList x'.toList) : x.size = x'.size ∧ ∀ i (h : i < x.size) (h' : i < x'.size), VR m x[i] x'[i] :=
 ⟨by simpa using h.1, fun i a b => by have := h.2 i (by simpa using a) (by simpa using b); simpa only [Array.getElem_toList] using this⟩
theorem VR.of_vrl_agg {m : Mp} {x x' : Array Value} (h : VRL m x.toList x'.toList) : VR m (.agg x) (.agg x') :=
 .agg x x' h.arr.1 h.arr.2
theorem VR.of_vrl_tuple {m : Mp} {x x' : Array Value} (h : VRL m x.toList x'.toList) : VR m (.tuple x) (.tuple x') :=
 .tuple x x' h.arr.1 h.arr.2
theorem VR.of_vrl_func {m : Mp} {f : FuncId} {x x' y y' : Array Value} (h : VRL m x.toList x'.toList) (k : VRL m y.toList y'.toList) : VR m (.func (.func f) x y) (.func (.func f) x' y') :=
 .func f x x' y y' h.arr.1 k.arr.1 h.arr.2 k.arr.2

theorem VR.flat1_eq {m : Mp} {v v' : Value} (h : VR m v v') (hf : flat1 v = true) : v' = v := by
 cases h with
 | flat _ _ => rfl
 | _ => simp [flat1] at hf
theorem VRL.flat_eq {m : Mp} {l l' : List Value} (h : VRL m l l') (hf : l.all flat1 = true) : l' = l := by
 refine List.ext_getElem h.1.symm fun i p q => ?_
 exact (h.2 i q p).flat1_eq (List.all_eq_true.1 hf _ (List.getElem_mem _))
theorem VR.agg_inv {m : Mp} {x : Array Value} {v' : Value} (h : VR m (.agg x) v') : ∃ x' : Array Value, v' = .agg x' ∧ VRL m x.toList x'.toList := by
 cases h with
 | flat _ hf => simp [flat1] at hf
 | agg _ x' hx h1 => exact ⟨x', rfl, .ofArr hx h1⟩
theorem VR.tuple_inv {m : Mp} {x : Array Value} {v' : Value} (h : VR m (.tuple x) v') : ∃ x' : Array Value, v' = .tuple x' ∧ VRL m x.toList x'.toList := by
 cases h with
 | flat _ hf => simp [flat1] at hf
 | tuple _ x' hx h1 => exact ⟨x', rfl, .ofArr hx h1⟩
theorem VR.func_inv {m : Mp} {f : FuncId} {x y : Array Value} {v' : Value} (h : VR m (.func (.func f) x y) v') : ∃ x' y' : Array Value, v' = .func (.func f) x' y' ∧ VRL m x.toList x'.toList ∧ VRL m y.toList y'.toList := by
 cases h with
 | flat _ hf => simp [flat1] at hf
 | func _ _ x' _ y' hx hy h1 h2 =>
  exact ⟨x', y', rfl, .ofArr hx h1, .ofArr hy h2⟩
theorem VR.yld_inv {m : Mp} {l : Nat} {x y : Array Value} {v' : Value} (h : VR m (.func (.yield l) x y) v') : ∃ pl, m l = some pl ∧ x = #[] ∧ y = #[] ∧ v' = .func (.yield pl.blk) #[] #[] := by
 cases h with
 | flat _ hf => simp [flat1] at hf
 | yld _ pl h => exact ⟨pl, h, rfl, rfl, rfl⟩
theorem VR.ptr_inv {m : Mp} {b off : Nat} {s : Option Nat} {v' : Value} (h : VR m (.pointer (some ⟨b, off, s⟩)) v') : ∃ pl, m b = some pl ∧ s = none ∧ v' = .pointer (some ⟨pl.blk, pl.off + off, none⟩) := by
 cases h with
 | flat _ hf => simp [flat1] at hf
 | ptr _ _ pl h => exact ⟨pl, h, rfl, rfl⟩
theorem VR.slice_inv {m : Mp} {b off n sz : Nat} {s : Option Nat} {v' : Value} (h : VR m (.slice (some ⟨b, off, s⟩) n sz) v') :
  ∃ a' c', v' = .slice (some a') n c' ∧ s = none ∧ n ≤ c' ∧ (c' = 0 ∨ ∃ pl, m b = some pl ∧ a' = ⟨pl.blk, pl.off + off, none⟩ ∧ (sz ≠ 0 → pl.sz = sz ∧ off + c' * sz ≤ pl.cap)) := by
 cases h with
 | flat _ hf => simp [flat1] at hf
 | slice _ _ _ _ a' c' hn h =>
  obtain ⟨pl, h1, h2⟩ := h
  refine ⟨a', c', rfl, rfl, hn, ?_⟩
  rcases h2 with h2 | h2
  ·exact .inl h2
  ·exact .inr ⟨pl, h1, h2⟩
theorem VR.slice_map {m : Mp} {b off n sz : Nat} {s : Option Nat} {v' : Value} (h : VR m (.slice (some ⟨b, off, s⟩) n sz) v') :
  ∃ pl, m b = some pl ∧ ∃ a' c', v' = .slice (some a') n c' ∧ s = none ∧ n ≤ c' ∧ (c' = 0 ∨ (a' = ⟨pl.blk, pl.off + off, none⟩ ∧ (sz ≠ 0 → pl.sz = sz ∧ off + c' * sz ≤ pl.cap))) := by
 cases h with
 | flat _ hf => simp [flat1] at hf
 | slice _ _ _ _ a' c' hn h =>
  obtain ⟨pl, h1, h2⟩ := h
  exact ⟨pl, h1, a', c', rfl, rfl, hn, h2⟩
theorem VR.map_inv {m : Mp} {b : Nat} {v' : Value} (h : VR m (.map (some b)) v') : ∃ pl, m b = some pl ∧ v' = .map (some pl.blk) := by
 cases h with
 | flat _ hf => simp [flat1] at hf
 | map _ pl h => exact ⟨pl, h, rfl⟩
theorem VR.iface_inv {m : Mp} {t : TypeId} {v v' : Value} (h : VR m (.iface t v) v') : ∃ u', v' = .iface t u' ∧ VR m v u' := by
 cases h with
 | flat _ hf => simp [flat1] at hf
 | iface _ _ u' h => exact ⟨u', rfl, h⟩
theorem VR.flat_eq {m : Mp} {v v' : Value} (h : VR m v v') (hf : AM.flat v = true) : v' = v := by
 cases v with
 | agg x =>
  obtain ⟨x', rfl, hx⟩ := h.agg_inv
  have := hx.flat_eq (by simpa [AM.flat] using hf)
  have e : x' = x := by rw [← Array.toList_inj]; exact this
  rw [e]
 | tuple x =>
  obtain ⟨x', rfl, hx⟩ := h.tuple_inv
  have := hx.flat_eq (by simpa [AM.flat] using hf)
  have e : x' = x := by rw [← Array.toList_inj]; exact this
  rw [e]
 | iface t v =>
  obtain ⟨u', rfl, hu⟩ := h.iface_inv
  rw [hu.flat1_eq (by simpa [AM.flat] using hf)]
 | _ => exact h.flat1_eq (by simpa [AM.flat] using hf)
theorem VR.bool_inv {m : Mp} {b : Bool} {v' : Value} (h : VR m (.bool b) v') : v' = .bool b := h.flat1_eq rfl
theorem VR.int_inv {m : Mp} {k : IntKind} {n : Int} {v' : Value} (h : VR m (.int k n) v') : v' = .int k n := h.flat1_eq rfl
theorem VR.string_inv {m : Mp} {s : ByteArray} {v' : Value} (h : VR m (.string s) v') : v' = .string s := h.flat1_eq rfl
theorem VR.cells {m : Mp} {v v' : Value} (h : VR m v v') : VRL m v.cells.toList v'.cells.toList := by
 have one : ∀ {a b : Value}, VR m a b → VRL m [a] [b] := fun h => .cons h (.nil m)
 cases h with
 | agg x x' hx h1 => exact VRL.ofArr hx h1
 | flat v hf => cases v <;> simp [flat1] at hf <;> exact one (.flat _ (by simp [flat1]; try exact hf))
 | tuple x x' hx h1 => exact one (.tuple _ _ hx h1)
 | ptr b off pl h => exact one (.ptr b off pl h)
 | slice b off n sz a' c' hn h => exact one (.slice b off n sz a' c' hn h)
 | map b pl h => exact one (.map b pl h)
 | func f x x' y y' hx hy h1 h2 => exact one (.func f x x' y y' hx hy h1 h2)
 | yld l pl h => exact one (.yld l pl h)
 | iface t v v' h => exact one (.iface t v v' h)
 | dptr cs k off arr h hl hc => exact one (.dptr cs k off arr h hl hc)
 | lst cs n c' a' hn h hc => exact one (.lst cs n c' a' hn h hc)
theorem VR.dptr_inv {m : Mp} {s : String} {x cs : Array Value} {v' : Value} (h : VR m (.func (.method s) cs x) v') : ∃ k off arr, v' = .pointer (some ⟨k, off, none⟩) ∧ m.fro k = some arr ∧ off + cs.size ≤ arr.size ∧ ∀ i (h : i < cs.size) (h' : off + i < arr.size), VR m cs[i] arr[off + i] := by
 cases h with
 | flat _ hf => simp [flat1] at hf
 | dptr _ k off arr h hl hc => exact ⟨k, off, arr, rfl, h, hl, hc⟩
theorem VR.lst_inv {m : Mp} {s : String} {x cs : Array Value} {n : Nat} {v' : Value} (h : VR m (.func (.methodOf n s) cs x) v') : ∃ a' c', v' = .slice (some a') n c' ∧ n ≤ c' ∧ (cs.size = 0 ∨ ∃ arr, m.fro a'.block = some arr ∧ a'.spot = none ∧ a'.off + cs.size ≤ arr.size ∧ ∀ i (h : i < cs.size) (h' : a'.off + i < arr.size), VR m cs[i] arr[a'.off + i]) := by
 cases h with
 | flat _ hf => simp [flat1] at hf
 | lst _ _ c' a' hn h hc =>
  refine ⟨a', c', rfl, hn, ?_⟩
  rcases h with h | ⟨arr, h1, h2, h3⟩
  ·exact .inl h
  ·exact .inr ⟨arr, h1, h2, h3, fun i hi h' => hc i hi arr h' h1⟩
theorem VR.one_eq {m : Mp} {v v' : Value} (h : VR m v v') : one v' = one v := by cases h <;> rfl
theorem VRL.one_all {m : Mp} {l l' : List Value} (h : VRL m l l') (hf : l.all one = true) : l'.all one = true := by
 rw [List.all_eq_true] at *
 intro x hx
 obtain ⟨i, hi, rfl⟩ := List.getElem_of_mem hx
 have hi' : i < l.length := by rw [h.1]; exact hi
 rw [(h.2 i hi' hi).one_eq]
 exact hf _ (List.getElem_mem _)

def stOf : Nat → LoopState
 | 0 => .ready
 | 1 => .busy
 | 2 => .done
 | _ => .exhausted

def isOwn : AObj → Bool
 | .dead => false
 | .cells _ own _ _ => own
 | _ => true

def ObjRel (m : Mp) (o : AObj) (pl : Pl) (w : World) : Prop :=
 match o with
 | .dead => True
 | .cells c own sz ty => (∀ (i : Nat) (h : i < c.length), ∃ v', w.cell? ⟨pl.blk, pl.off + i, none⟩ = some v' ∧ VR m c[i] v') ∧ pl.sz = sz ∧
   (own = true → pl.off = 0 ∧ c.length ≤ pl.cap ∧ ∃ (arr : Array Value) (lo hi : Nat), w.heap[pl.blk]? = some (.cells arr ty (lo, hi)) ∧ arr.size = pl.cap ∧ ∀ i, i < pl.cap → ¬ (lo ≤ i ∧ i < hi))
 | .loop tmps ps asg body st pend => ∃ r : Loop, w.heap[pl.blk]? = some (.loop r) ∧ r.state = stOf st ∧ r.pending = pend ∧ VRL m tmps r.tmps.toList ∧ r.params.toList = ps ∧ r.assign = asg ∧ r.body = body
 | .iter s pos => pl.off = 0 ∧ w.heap[pl.blk]? = some (.stringIter s pos)
 | .map es => ∃ (es' : Array MapEntry) (clock : Nat), w.heap[pl.blk]? = some (.map es' clock) ∧ VRL m (es.map (·.1)) (es'.toList.map (·.key)) ∧ VRL m (es.map (·.2)) (es'.toList.map (·.val)) ∧ clock = es'.size ∧ ∀ (i : Nat) (e : MapEntry), es'[i]? = some e → e.born = i

def Owned (m : Mp) (H : AH) (k : Nat) : Prop := ∃ b pl, m b = some pl ∧ isOwn (H.get b) = true ∧ pl.blk = k
structure Rel (m : Mp) (H : AH) (w : World) : Prop where
 dom : ∀ b pl, m b = some pl → b < H.next
 blk : ∀ b pl, m b = some pl → pl.blk < w.heap.size
 obj : ∀ b pl, m b = some pl → ObjRel m (H.get b) pl w
 apart : ∀ b b' pl pl', m b = some pl → m b' = some pl' → b ≠ b' → isOwn (H.get b) = true → H.get b' ≠ .dead → pl.blk ≠ pl'.blk
 fro : ∀ k arr, m.fro k = some arr → (∃ ty fr, w.heap[k]? = some (.cells arr ty fr)) ∧ ¬ Owned m H k

theorem Rel.fro_lt {m : Mp} {H : AH} {w : World} (h : Rel m H w) {k : Nat} {arr : Array Value} (hk : m.fro k = some arr) : k < w.heap.size := by
 obtain ⟨⟨ty, fr, e⟩, -⟩ := h.fro k arr hk
 exact (Array.getElem?_eq_some_iff.1 e).1

def Seen (m : Mp) (H : AH) (k : Nat) : Prop := ∃ b pl, m b = some pl ∧ H.get b ≠ .dead ∧ pl.blk = k
structure Stp (m : Mp) (H : AH) (w : World) (m1 : Mp) (H1 : AH) (w1 : World) : Prop where
 rel : Rel m1 H1 w1
 next : H.next ≤ H1.next
 old : ∀ b, b < H.next → m1 b = m b
 size : w.heap.size ≤ w1.heap.size
 frame : ∀ k, k < w.heap.size → ¬ Owned m H k → w1.heap[k]? = w.heap[k]?
 grow : ∀ k, Owned m1 H1 k → Owned m H k ∨ w.heap.size ≤ k
 seen : ∀ k, Seen m1 H1 k → Seen m H k ∨ w.heap.size ≤ k
 os : w1.os = w.os
 tape : w1.tape = w.tape
 output : w1.output = w.output
 loops : ∀ (k : Nat) (l : Loop), w.heap[k]? = some (.loop l) → ∃ l' : Loop, w1.heap[k]? = some (.loop l') ∧ l'.defers = l.defers
 fle : ∀ k arr, m.fro k = some arr → m1.fro k = some arr
 fgrow : ∀ k arr, m1.fro k = some arr → m.fro k = some arr ∨ Owned m H k ∨ w.heap.size ≤ k

theorem Stp.le {m : Mp} {H : AH} {w : World} {m1 : Mp} {H1 : AH} {w1 : World} (h : Stp m H w m1 H1 w1) (hR : Rel m H w) : Mle m m1 :=
 ⟨fun b pl hb => by rw [h.old b (hR.dom b pl hb)]; exact hb, h.fle⟩
theorem Stp.refl {m : Mp} {H : AH} {w : World} (h : Rel m H w) : Stp m H w m H w :=
 ⟨h, Nat.le_refl _, fun _ _ => rfl, Nat.le_refl _, fun _ _ _ => rfl, fun _ hk => .inl hk, fun _ hk => .inl hk, rfl, rfl, rfl, fun _ l hl => ⟨l, hl, rfl⟩, fun _ _ h => h, fun _ _ h => .inl h⟩
theorem Stp.trans {m : Mp} {H : AH} {w : World} {m1 : Mp} {H1 : AH} {w1 : World} {m2 : Mp} {H2 : AH} {w2 : World}
  (h : Stp m H w m1 H1 w1) (k : Stp m1 H1 w1 m2 H2 w2) : Stp m H w m2 H2 w2 where
 rel := k.rel
 next := Nat.le_trans h.next k.next
 old b hb := (k.old b (Nat.lt_of_lt_of_le hb h.next)).trans (h.old b hb)
 size := Nat.le_trans h.size k.size
 frame i hi hno := (k.frame i (Nat.lt_of_lt_of_le hi h.size) (fun ho => by
  rcases h.grow i ho with h1 | h1
  ·exact hno h1
  ·omega)).trans (h.frame i hi hno)
 grow i hi := by
  rcases k.grow i hi with h1 | h1
  ·exact h.grow i h1
  ·exact .inr (Nat.le_trans h.size h1)
 seen i hi := by
  rcases k.seen i hi with h1 | h1
  ·exact h.seen i h1
  ·exact .inr (Nat.le_trans h.size h1)
 os := k.os.trans h.os
 tape := k.tape.trans h.tape
 output := k.output.trans h.output
 loops i l hl := by
  obtain ⟨l1, a1, b1⟩ := h.loops i l hl
  obtain ⟨l2, a2, b2⟩ := k.loops i l1 a1
  exact ⟨l2, a2, b2.trans b1⟩
 fle i arr hi := k.fle i arr (h.fle i arr hi)
 fgrow i arr hi := by
  rcases k.fgrow i arr hi with h1 | h1 | h1
  ·exact h.fgrow i arr h1
  ·rcases h.grow i h1 with h2 | h2
   ·exact .inr (.inl h2)
   ·exact .inr (.inr h2)
  ·exact .inr (.inr (Nat.le_trans h.size h1))

theorem Rel.deep {m : Mp} {H : AH} {w : World} (hR : Rel m H w) {cs : Array Value} {k off : Nat} {arr : Array Value} (hf : m.fro k = some arr) (hl : off + cs.size ≤ arr.size) (hc : ∀ i (h : i < cs.size) (h' : off + i < arr.size), VR m cs[i] arr[off + i]) :
  ∀ (i : Nat) (h : i < cs.toList.length), ∃ v', w.cell? ⟨k, off + i, none⟩ = some v' ∧ VR m cs.toList[i] v' := by
 intro i hi
 obtain ⟨⟨ty, fr, e⟩, -⟩ := hR.fro k arr hf
 have hi' : i < cs.size := by simpa using hi
 have ha : off + i < arr.size := by omega
 refine ⟨arr[off + i], ?_, by simpa using hc i hi' ha⟩
 unfold World.cell?
 simp only [e]
 simp [ha]
theorem VR.dptr_drop {m : Mp} {cs : Array Value} {k off : Nat} {arr : Array Value} (hf : m.fro k = some arr) (hl : off + cs.size ≤ arr.size) (hc : ∀ i (h : i < cs.size) (h' : off + i < arr.size), VR m cs[i] arr[off + i]) (d : Nat) (hd : d ≤ cs.size) :
  VR m (DPTR (cs.toList.drop d).toArray) (.pointer (some ⟨k, off + d, none⟩)) := by
 refine .dptr _ k (off + d) arr hf (by simp; omega) fun i hi h' => ?_
 have hi' : d + i < cs.size := by simp at hi; omega
 have := hc (d + i) hi' (by omega)
 simpa [Nat.add_assoc] using this
theorem VR.lst_cut {m : Mp} {cs : Array Value} {k off : Nat} {arr : Array Value} (hf : m.fro k = some arr) (hl : off + cs.size ≤ arr.size) (hc : ∀ i (h : i < cs.size) (h' : off + i < arr.size), VR m cs[i] arr[off + i]) (d e n c' : Nat) (hn : n ≤ c') (a' : Addr)
  (ha : e = 0 ∨ a' = ⟨k, off + d, none⟩) : VR m (LST n ((cs.toList.drop d).take e).toArray) (.slice (some a') n c') := by
 by_cases hz : ((cs.toList.drop d).take e).toArray.size = 0
 ·exact .lst _ n c' a' hn (.inl hz) fun i hi => by omega
 ·rcases ha with ha | ha
  ·subst ha; simp at hz
  ·subst ha
   simp only [List.size_toArray, List.length_take, List.length_drop, Array.length_toList] at hz
   refine .lst _ n c' _ hn (.inr ⟨arr, hf, rfl, by simp only [List.size_toArray, List.length_take, List.length_drop, Array.length_toList]; omega⟩) fun i hi arr' h' hf' => ?_
   rw [hf] at hf'; cases hf'
   have hi' : d + i < cs.size := by simp at hi; omega
   have := hc (d + i) hi' (by simp only at h'; omega)
   simpa [Nat.add_assoc] using this

theorem cell_congr {w w' : World} {a : Addr} (h : w'.heap[a.block]? = w.heap[a.block]?) : w'.cell? a = w.cell? a := by
 unfold World.cell?; rw [h]

theorem ObjRel.mono {m m1 : Mp} (hm : Mle m m1) {o : AObj} {pl : Pl} {w w1 : World} (hw : w1.heap[pl.blk]? = w.heap[pl.blk]?) (h : ObjRel m o pl w) : ObjRel m1 o pl w1 := by
 cases o with
 | dead => trivial
 | cells c own sz ty =>
  obtain ⟨h1, h2, h3⟩ := h
  refine ⟨fun i hi => ?_, h2, fun ho => ?_⟩
  ·obtain ⟨v', a, b⟩ := h1 i hi
   exact ⟨v', (cell_congr hw).trans a, b.mono hm⟩
  ·obtain ⟨a, b, arr, lo, hi, c1, c2, c3⟩ := h3 ho
   exact ⟨a, b, arr, lo, hi, hw.trans c1, c2, c3⟩
 | loop tmps ps asg body st pend =>
  obtain ⟨r, a, b, c, d, e⟩ := h
  exact ⟨r, hw.trans a, b, c, d.mono hm, e⟩
 | iter s pos => exact ⟨h.1, hw.trans h.2⟩
 | map es =>
  obtain ⟨es', clock, a, b, c, d⟩ := h
  exact ⟨es', clock, hw.trans a, b.mono hm, c.mono hm, d⟩

theorem Rel.heap {m : Mp} {H : AH} {w w1 : World} (h : Rel m H w) (hw : w1.heap = w.heap) : Rel m H w1 :=
 ⟨h.dom, fun b pl hb => by rw [hw]; exact h.blk b pl hb, fun b pl hb => (h.obj b pl hb).mono (Mle.refl m) (by rw [hw]), h.apart, fun k arr hk => by rw [hw]; exact h.fro k arr hk⟩
theorem Stp.heap {m : Mp} {H : AH} {w w1 : World} (h : Rel m H w) (hw : w1.heap = w.heap) (ho : w1.os = w.os) (ht : w1.tape = w.tape) (hp : w1.output = w.output) : Stp m H w m H w1 :=
 ⟨h.heap hw, Nat.le_refl _, fun _ _ => rfl, by rw [hw]; exact Nat.le_refl _, fun k _ _ => by rw [hw], fun _ hk => .inl hk, fun _ hk => .inl hk, ho, ht, hp, fun k l hl => ⟨l, by rw [hw]; exact hl, rfl⟩, fun _ _ h => h, fun _ _ h => .inl h⟩

def upd (m : Mp) (b : Nat) (pl : Pl) : Mp := ⟨fun k => if k = b then some pl else m k, m.fro⟩
@[simp] theorem upd_fro (m : Mp) (b : Nat) (pl : Pl) : (upd m b pl).fro = m.fro := rfl
theorem upd_self (m : Mp) (b : Nat) (pl : Pl) : upd m b pl b = some pl := by simp [upd]
theorem upd_other {m : Mp} {b k : Nat} {pl : Pl} (h : k ≠ b) : upd m b pl k = m k := by simp [upd, h]
theorem Rel.upd_le {m : Mp} {H : AH} {w : World} (h : Rel m H w) (pl : Pl) : Mle m (upd m H.next pl) := ⟨fun b p hb => by
 rw [upd_other (Nat.ne_of_lt (h.dom b p hb))]; exact hb, fun _ _ h => h⟩

theorem Stp.alloc {m : Mp} {H : AH} {w w1 : World} (hR : Rel m H w) (o : AObj) (obj : Obj) (pl : Pl) (hpl : pl.blk = w.heap.size) (hw : w1.heap = w.heap.push obj)
  (ho : w1.os = w.os) (ht : w1.tape = w.tape) (hp : w1.output = w.output) (hobj : ObjRel (upd m H.next pl) o pl w1) : Stp m H w (upd m H.next pl) (H.push o) w1 := by
 have hold : ∀ k, k < w.heap.size → w1.heap[k]? = w.heap[k]? := fun k hk => by rw [hw, Array.getElem?_push, if_neg (by omega)]
 have hsz : w1.heap.size = w.heap.size + 1 := by rw [hw]; simp
 have hne : ∀ b p, m b = some p → b ≠ H.next := fun b p hb => Nat.ne_of_lt (hR.dom b p hb)
 have hget : ∀ b p, m b = some p → (H.push o).get b = H.get b := fun b p hb => by rw [AH.get_push, if_neg (fun e => hne b p hb e.symm)]
 have hfro : ∀ k arr, m.fro k = some arr → (∃ ty fr, w1.heap[k]? = some (.cells arr ty fr)) ∧ ¬ Owned (upd m H.next pl) (H.push o) k := fun k arr hk => by
  obtain ⟨⟨ty, fr, e⟩, hno⟩ := hR.fro k arr hk
  have hlt := hR.fro_lt hk
  refine ⟨⟨ty, fr, by rw [hold k hlt]; exact e⟩, ?_⟩
  rintro ⟨b, p, hb, hown, he⟩
  by_cases e : b = H.next
  ·subst e; rw [upd_self] at hb; cases hb; omega
  ·rw [upd_other e] at hb
   rw [hget b p hb] at hown
   exact hno ⟨b, p, hb, hown, he⟩
 refine ⟨⟨?_, ?_, ?_, ?_, hfro⟩, by simp, fun b hb => upd_other (Nat.ne_of_lt hb), by omega, fun k hk _ => hold k hk, ?_, ?_, ho, ht, hp, fun k l hl => ⟨l, ?_, rfl⟩, fun _ _ h => h, fun _ _ h => .inl h⟩
 ·intro b p hb
  by_cases e : b = H.next
  ·simp [e]
  ·rw [upd_other e] at hb
   have := hR.dom b p hb
   simp; omega
 ·intro b p hb
  by_cases e : b = H.next
  ·subst e; rw [upd_self] at hb; cases hb; omega
  ·rw [upd_other e] at hb
   have := hR.blk b p hb
   omega
 ·intro b p hb
  by_cases e : b = H.next
  ·subst e; rw [upd_self] at hb; cases hb
   rw [AH.get_push, if_pos rfl]; exact hobj
  ·rw [upd_other e] at hb
   rw [hget b p hb]
   exact (hR.obj b p hb).mono (hR.upd_le pl) (hold _ (hR.blk b p hb))
 ·intro b b' p p' hb hb' hbb hown hdead
  by_cases e : b = H.next
  ·subst e; rw [upd_self] at hb; cases hb
   rw [upd_other (fun e => hbb e.symm)] at hb'
   have := hR.blk b' p' hb'
   omega
  ·rw [upd_other e] at hb
   rw [hget b p hb] at hown
   by_cases e' : b' = H.next
   ·subst e'; rw [upd_self] at hb'; cases hb'
    have := hR.blk b p hb
    omega
   ·rw [upd_other e'] at hb'
    rw [hget b' p' hb'] at hdead
    exact hR.apart b b' p p' hb hb' hbb hown hdead
 ·rintro k ⟨b, p, hb, hown, rfl⟩
  by_cases e : b = H.next
  ·subst e; rw [upd_self] at hb; cases hb
   exact .inr (by omega)
  ·rw [upd_other e] at hb
   rw [hget b p hb] at hown
   exact .inl ⟨b, p, hb, hown, rfl⟩
 ·rintro k ⟨b, p, hb, hown, rfl⟩
  by_cases e : b = H.next
  ·subst e; rw [upd_self] at hb; cases hb
   exact .inr (by omega)
  ·rw [upd_other e] at hb
   rw [hget b p hb] at hown
   exact .inl ⟨b, p, hb, hown, rfl⟩
 ·have hk : k < w.heap.size := by
   rcases Nat.lt_or_ge k w.heap.size with h | h
   ·exact h
   ·rw [Array.getElem?_eq_none h] at hl; cases hl
  rw [hold k hk]; exact hl

theorem Stp.put {m : Mp} {H : AH} {w w1 : World} (hR : Rel m H w) (b : Nat) (pl : Pl) (o : AObj) (hb : m b = some pl) (hown : isOwn (H.get b) = true) (hown' : isOwn o = true ∨ True)
  (hsz : w1.heap.size = w.heap.size) (hw : ∀ k, k ≠ pl.blk → w1.heap[k]? = w.heap[k]?)
  (ho : w1.os = w.os) (ht : w1.tape = w.tape) (hp : w1.output = w.output) (hobj : ObjRel m o pl w1)
  (hlp : ∀ l : Loop, w.heap[pl.blk]? = some (.loop l) → ∃ l' : Loop, w1.heap[pl.blk]? = some (.loop l') ∧ l'.defers = l.defers) : Stp m H w m (H.set b o) w1 := by
 have _ := hown'
 have hother : ∀ b' p', m b' = some p' → b' ≠ b → H.get b' ≠ .dead → p'.blk ≠ pl.blk := fun b' p' hb' hne hd => (hR.apart b b' pl p' hb hb' (Ne.symm hne) hown hd).symm
 have hfro : ∀ k arr, m.fro k = some arr → (∃ ty fr, w1.heap[k]? = some (.cells arr ty fr)) ∧ ¬ Owned m (H.set b o) k := fun k arr hk => by
  obtain ⟨⟨ty, fr, e⟩, hno⟩ := hR.fro k arr hk
  refine ⟨⟨ty, fr, by rw [hw k (by rintro rfl; exact hno ⟨b, pl, hb, hown, rfl⟩)]; exact e⟩, ?_⟩
  rintro ⟨b', p', hb', hown', rfl⟩
  rw [AH.get_set] at hown'
  by_cases e : b = b'
  ·subst e
   rw [hb] at hb'; cases hb'
   exact hno ⟨b, pl, hb, hown, rfl⟩
  ·rw [if_neg e] at hown'
   exact hno ⟨b', p', hb', hown', rfl⟩
 refine ⟨⟨hR.dom, fun b' p' hb' => by rw [hsz]; exact hR.blk b' p' hb', ?_, ?_, hfro⟩, by simp, fun _ _ => rfl, by omega, ?_, ?_, ?_, ho, ht, hp, ?_, fun _ _ h => h, fun _ _ h => .inl h⟩
 ·intro b' p' hb'
  rw [AH.get_set]
  split
  ·rename_i e; subst e
   rw [hb] at hb'; cases hb'; exact hobj
  ·rename_i e
   by_cases hd : H.get b' = .dead
   ·rw [hd]; trivial
   ·exact (hR.obj b' p' hb').mono (Mle.refl m) (hw _ (hother b' p' hb' (Ne.symm e) hd))
 ·intro b1 b2 p1 p2 h1 h2 hne hown1 hdead
  rw [AH.get_set] at hown1 hdead
  by_cases e1 : b = b1
  ·subst e1
   rw [hb] at h1; cases h1
   rw [if_neg hne] at hdead
   exact hR.apart b b2 pl p2 hb h2 hne hown hdead
  ·rw [if_neg e1] at hown1
   by_cases e2 : b = b2
   ·subst e2
    rw [hb] at h2; cases h2
    exact hR.apart b1 b p1 pl h1 hb hne hown1 (by intro h; rw [h] at hown; simp [isOwn] at hown)
   ·rw [if_neg e2] at hdead
    exact hR.apart b1 b2 p1 p2 h1 h2 hne hown1 hdead
 ·intro k _ hno
  exact hw k (fun e => hno ⟨b, pl, hb, hown, e.symm⟩)
 ·rintro k ⟨b', p', hb', hown', rfl⟩
  rw [AH.get_set] at hown'
  by_cases e : b = b'
  ·subst e
   rw [hb] at hb'; cases hb'
   exact .inl ⟨b, pl, hb, hown, rfl⟩
  ·rw [if_neg e] at hown'
   exact .inl ⟨b', p', hb', hown', rfl⟩
 ·rintro k ⟨b', p', hb', hown', rfl⟩
  rw [AH.get_set] at hown'
  by_cases e : b = b'
  ·subst e
   rw [hb] at hb'; cases hb'
   exact .inl ⟨b, pl, hb, (by intro h; rw [h] at hown; simp [isOwn] at hown), rfl⟩
  ·rw [if_neg e] at hown'
   exact .inl ⟨b', p', hb', hown', rfl⟩
 ·intro k l hl
  by_cases e : k = pl.blk
  ·subst e; exact hlp l hl
  ·exact ⟨l, by rw [hw k e]; exact hl, rfl⟩

theorem Stp.kill {m : Mp} {H : AH} {w : World} (hR : Rel m H w) (b : Nat) : Stp m H w m (H.set b .dead) w := by
 have hfro : ∀ k arr, m.fro k = some arr → (∃ ty fr, w.heap[k]? = some (.cells arr ty fr)) ∧ ¬ Owned m (H.set b .dead) k := fun k arr hk => by
  obtain ⟨h1, hno⟩ := hR.fro k arr hk
  refine ⟨h1, ?_⟩
  rintro ⟨b', p', hb', hown', rfl⟩
  rw [AH.get_set] at hown'
  split at hown'
  ·simp [isOwn] at hown'
  ·exact hno ⟨b', p', hb', hown', rfl⟩
 refine ⟨⟨hR.dom, hR.blk, ?_, ?_, hfro⟩, by simp, fun _ _ => rfl, Nat.le_refl _, fun _ _ _ => rfl, ?_, ?_, rfl, rfl, rfl, fun k l hl => ⟨l, hl, rfl⟩, fun _ _ h => h, fun _ _ h => .inl h⟩
 ·intro b' p' hb'
  rw [AH.get_set]
  split
  ·trivial
  ·exact hR.obj b' p' hb'
 ·intro b1 b2 p1 p2 h1 h2 hne hown hdead
  rw [AH.get_set] at hown hdead
  split at hown
  ·simp [isOwn] at hown
  ·split at hdead
   ·exact absurd rfl hdead
   ·exact hR.apart b1 b2 p1 p2 h1 h2 hne hown hdead
 ·rintro k ⟨b', p', hb', hown', rfl⟩
  rw [AH.get_set] at hown'
  split at hown'
  ·simp [isOwn] at hown'
  ·exact .inl ⟨b', p', hb', hown', rfl⟩
 ·rintro k ⟨b', p', hb', hown', rfl⟩
  rw [AH.get_set] at hown'
  split at hown'
  ·exact absurd rfl hown'
  ·exact .inl ⟨b', p', hb', hown', rfl⟩

end Go.AM
