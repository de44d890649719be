/- The model's terms run in a world: what the soundness of AM's operations leans on. -/

import Derived.Test.YtgpligmjbecbjaaGreatDoorAmRel
set_option linter.unusedVariables false
set_option linter.unusedSimpArgs false
set_option linter.unusedSectionVars false
namespace Go.AM
open Go

theorem one_oneCell (v : Value) : one v = v.oneCell' := by cases v <;> rfl

theorem pureRun_run {α : Type} {P : Program} : ∀ {s : Sem α} {a : α}, pureRun P s = some a → ∀ w, s.run P w = .ok a w := by
 intro s
 induction s with
 | pure a => intro b h w; simp only [pureRun, Option.some.injEq] at h; subst h; rfl
 | program k ih => intro b h w; simp only [pureRun] at h; simpa [Sem.run] using ih P h w
 | mark m k ih => intro b h w; simp only [pureRun] at h; simpa [Sem.run] using ih h w
 | _ => intro b h; simp [pureRun] at h

theorem run_bind_ok {α β : Type} {P : Program} {x : Sem α} {f : α → Sem β} {a : α} {w w' : World} (h : x.run P w = .ok a w') : (x >>= f).run P w = (f a).run P w' := by
 simp [h]

theorem run_underlying' {P : Program} {t : TypeId} {d : TypeDesc} (h : P.underlying t = some d) (w : World) : (underlying t).run P w = .ok d w := by
 simp [underlying, h]
theorem run_typeInfo' {P : Program} {t : TypeId} {i : TypeInfo} (h : P.info? t = some i) (w : World) : (typeInfo t).run P w = .ok i w := by
 simp [typeInfo, h]
theorem run_sizeOf' {P : Program} {t : TypeId} {n : Nat} (h : sizeOf? P t = some n) (w : World) : (sizeOf t).run P w = .ok n w := by
 obtain ⟨i, hi, rfl⟩ := Option.map_eq_some_iff.1 h
 simp [sizeOf, run_typeInfo' hi]
theorem run_zeroValue' {P : Program} {t : TypeId} {z : Value} (h : zero? P t = some z) (w : World) : (zeroValue t).run P w = .ok z w := by
 obtain ⟨i, hi, hz⟩ := Option.bind_eq_some_iff.1 (zero_zeroI h).2
 simp [zeroValue, run_typeInfo' hi, hz]
theorem run_isAgg' {P : Program} {t : TypeId} {b : Bool} (h : isAgg? P t = some b) (w : World) : (isAgg t).run P w = .ok b w := by
 unfold isAgg? at h
 cases hd : P.underlying t with
 | none => rw [hd] at h; simp at h
 | some d =>
  rw [hd] at h; simp only [isAgg, run_bind_ok (run_underlying' hd w)]; cases d <;> simp at h <;> subst h <;> rfl
theorem bytes_of {P : Program} {t : TypeId} {n : Nat} (h : bytesOf? P t = some n) (w : World) : ∃ i, (typeInfo t).run P w = .ok i w ∧ i.bytes = n := by
 obtain ⟨i, hi, rfl⟩ := Option.map_eq_some_iff.1 h
 exact ⟨i, run_typeInfo' hi w, rfl⟩

theorem add_none (b o n : Nat) : (⟨b, o, none⟩ : Addr).add n = ⟨b, o + n, none⟩ := by
 unfold Addr.add; split
 ·rename_i h; simp [h]
 ·rfl

theorem run_load_cell {P : Program} {w : World} {a : Addr} {v : Value} (h : w.cell? a = some v) (m : Mode := .plain) : (load a m).run P w = .ok v w := by
 simp [h]

theorem run_loadCellsFrom' {P : Program} {w : World} {b o : Nat} : ∀ (vs : List Value) (i : Nat) (acc : Array Value), (∀ (j : Nat) (h : j < vs.length), w.cell? ⟨b, o + (i + j), none⟩ = some vs[j]) →
  (loadCellsFrom ⟨b, o, none⟩ i vs.length acc).run P w = .ok (acc ++ vs.toArray) w := by
 intro vs
 induction vs with
 | nil => intro i acc _; simp [loadCellsFrom]
 | cons v r ih =>
  intro i acc h; have h0 := h 0 (by simp); simp only [Nat.add_zero, List.getElem_cons_zero] at h0; simp only [List.length_cons, loadCellsFrom]; rw [run_bind_ok (run_load_cell (by rw [add_none]; exact h0))]; have := ih (i + 1) (acc.push v) (fun j hj => by
   have := h (j + 1) (by simpa using hj); simpa [Nat.add_assoc, Nat.add_comm 1 j] using this)
  rw [this]; simp
theorem run_loadCells' {P : Program} {w : World} {b o : Nat} (vs : List Value) (h : ∀ (j : Nat) (h : j < vs.length), w.cell? ⟨b, o + j, none⟩ = some vs[j]) :
  (loadCells ⟨b, o, none⟩ vs.length).run P w = .ok vs.toArray w := by
 unfold loadCells
 rw [run_loadCellsFrom' vs 0 #[] (fun j hj => by simpa using h j hj)]
 simp

theorem cells_list {m : Mp} {c : List Value} {pl : Pl} {w : World} (h : ∀ (i : Nat) (h : i < c.length), ∃ v', w.cell? ⟨pl.blk, pl.off + i, none⟩ = some v' ∧ VR m c[i] v') (off n : Nat) (hn : off + n ≤ c.length) :
  ∃ vs : List Value, vs.length = n ∧ VRL m ((c.drop off).take n) vs ∧ ∀ (j : Nat) (h : j < vs.length), w.cell? ⟨pl.blk, pl.off + off + j, none⟩ = some vs[j] := by
 induction n with
 | zero => exact ⟨[], rfl, by simpa using VRL.nil m, fun j h => by simp at h⟩
 | succ n ih =>
  obtain ⟨vs, h1, h2, h3⟩ := ih (by omega); obtain ⟨v', hv, hr⟩ := h (off + n) (by omega); refine ⟨vs ++ [v'], by simp [h1], ?_, fun j hj => ?_⟩
  ·have e : (c.drop off).take (n + 1) = (c.drop off).take n ++ [c[off + n]] := by
    rw [List.take_succ_eq_append_getElem (by simp; omega)]; simp
   rw [e]; exact h2.append (.cons hr (.nil m))
  ·by_cases hj' : j < vs.length
   ·rw [List.getElem_append_left hj']; exact h3 j hj'
   ·have : j = n := by simp [h1] at hj hj'; omega
    subst this; rw [List.getElem_append_right (by omega)]; simp only [h1, Nat.sub_self, List.getElem_cons_zero]; rw [Nat.add_assoc]; exact hv

theorem part?_run {P : Program} {m : Mp} {t : TypeId} {cs : List Value} {cs' : Array Value} {off : Nat} {v : Value} (h : part? P t cs off = some v) (hr : VRL m cs cs'.toList) (w : World) :
  ∃ v', (part t cs' off).run P w = .ok v' w ∧ VR m v v' := by
 unfold part? at h
 cases ha : isAgg? P t with
 | none => simp [ha] at h
 | some b =>
  cases b with
  | true =>
   cases hs : sizeOf? P t with
   | none => simp [ha, hs] at h
   | some n =>
    simp only [ha, hs] at h; split at h
    ·rename_i hle
     simp only [Option.some.injEq] at h; subst h; refine ⟨.agg (cs'.extract off (off + n)), ?_, ?_⟩
     ·simp only [Go.part, run_bind_ok (run_isAgg' ha w), if_true]
      simp [run_sizeOf' hs]
     ·apply VR.of_vrl_agg
      have e : (cs'.extract off (off + n)).toList = (cs'.toList.drop off).take n := by
       simp
      rw [e]; exact (hr.drop off).take n
    ·cases h
  | false =>
   simp only [ha] at h; obtain ⟨v', h1, h2⟩ := hr.getElem? h; refine ⟨v', ?_, h2⟩; simp only [Go.part, run_bind_ok (run_isAgg' ha w)]; have : cs'[off]? = some v' := by simpa using h1
   simp [this]

theorem load_cells {P : Program} {m : Mp} {w : World} {t : TypeId} {v : Value} (pl : Pl) (c : List Value) (off : Nat) (h : part? P t c off = some v) (h1 : ∀ (i : Nat) (h : i < c.length), ∃ v', w.cell? ⟨pl.blk, pl.off + i, none⟩ = some v' ∧ VR m c[i] v') :
  ∃ v', (Instr.loadAt t (.pointer (some ⟨pl.blk, pl.off + off, none⟩))).run P w = .ok v' w ∧ VR m v v' := by
   unfold part? at h; simp only [Instr.loadAt, Instr.sureAddr, Sem.run_bind, Sem.run_pure, Result.andThen_ok, loadVar]; cases ha : isAgg? P t with
   | none => simp [ha] at h
   | some bb =>
    rw [run_isAgg' ha w]; cases bb with
    | true =>
     cases hs : sizeOf? P t with
     | none => simp [ha, hs] at h
     | some n =>
      simp only [ha, hs] at h; split at h
      ·rename_i hle
       simp only [Option.some.injEq] at h; subst h; obtain ⟨vs, e1, e2, e3⟩ := cells_list h1 off n hle; refine ⟨.agg vs.toArray, ?_, VR.of_vrl_agg (by simpa using e2)⟩; simp only [Result.andThen_ok, if_true, Sem.run_bind, run_sizeOf' hs]; have := run_loadCells' (P := P) vs e3; rw [e1] at this; rw [this]; rfl
      ·cases h
    | false =>
     simp only [ha] at h; obtain ⟨hi, rfl⟩ := List.getElem?_eq_some_iff.1 h; obtain ⟨v', e1, e2⟩ := h1 off hi; refine ⟨v', ?_, e2⟩; simp only [Result.andThen_ok]; exact run_load_cell e1

theorem aload_run {P : Program} {m : Mp} {H : AH} {w : World} (hR : Rel m H w) {t : TypeId} {x x' v : Value} (hx : VR m x x') (h : aload P t x H = some v) :
  ∃ v', (Instr.loadAt t x').run P w = .ok v' w ∧ VR m v v' := by
 unfold aload at h
 split at h
 ·rename_i b off
  split at h
  ·rename_i c own sz ty hg
   obtain ⟨pl, hm, -, rfl⟩ := hx.ptr_inv; have ho := hR.obj b pl hm; rw [hg] at ho; exact load_cells pl c off h ho.1
  ·cases h
 ·rename_i s cs x
  obtain ⟨k, off, arr, rfl, h1, h2, h3⟩ := hx.dptr_inv; exact load_cells ⟨k, off, 0, 0⟩ cs.toList 0 h (hR.deep h1 h2 h3)
 ·cases h

theorem cell_set {w : World} {b : Nat} {arr : Array Value} {ty : TypeId} {fr : Nat × Nat} (h : w.heap[b]? = some (.cells arr ty fr)) (o : Nat) : w.cell? ⟨b, o, none⟩ = arr[o]? := by
 simp [World.cell?, h]
theorem frozen_set {w : World} {b : Nat} {arr : Array Value} {ty : TypeId} {lo hi : Nat} (h : w.heap[b]? = some (.cells arr ty (lo, hi))) (o : Nat) : w.frozen? ⟨b, o, none⟩ = (decide (lo ≤ o) && decide (o < hi)) := by
 simp [World.frozen?, h]

theorem setCell_heap {w : World} {b o : Nat} {arr : Array Value} {ty : TypeId} {fr : Nat × Nat} (h : w.heap[b]? = some (.cells arr ty fr)) (v : Value) :
  (w.setCell ⟨b, o, none⟩ v).heap = w.heap.setIfInBounds b (.cells (arr.setIfInBounds o v) ty fr) := by
 obtain ⟨hb, he⟩ := Array.getElem?_eq_some_iff.1 h
 unfold World.setCell
 apply Array.ext_getElem?
 intro i
 simp only [Array.getElem?_modify, Array.getElem?_setIfInBounds]
 by_cases hi : b = i
 ·subst hi; simp [he, hb]
 ·simp [hi]

def spliceA (arr : Array Value) (o : Nat) : List Value → Array Value
 | [] => arr
 | v :: r => spliceA (arr.setIfInBounds o v) (o + 1) r
theorem spliceA_size (vs : List Value) : ∀ (arr : Array Value) (o : Nat), (spliceA arr o vs).size = arr.size := by
 induction vs with
 | nil => intro arr o; rfl
 | cons v r ih => intro arr o; simp [spliceA, ih]
theorem heap_set_same {h : Array Obj} {b : Nat} {o : Obj} (e : h[b]? = some o) : h.setIfInBounds b o = h := by
 apply Array.ext_getElem?
 intro i
 simp only [Array.getElem?_setIfInBounds]
 split
 ·rename_i q; subst q; split
  ·exact e.symm
  ·rename_i hb; rw [Array.getElem?_eq_none (by omega)] at e; cases e
 ·rfl
theorem spliceA_get (vs : List Value) : ∀ (arr : Array Value) (o i : Nat), o + vs.length ≤ arr.size → (spliceA arr o vs)[i]? = if h : o ≤ i ∧ i < o + vs.length then some (vs[i - o]'(by omega)) else arr[i]? := by
 induction vs with
 | nil => intro arr o i _; rw [dif_neg (by simp only [List.length_nil]; omega)]; rfl
 | cons v r ih =>
  intro arr o i h; simp only [List.length_cons] at h; simp only [spliceA]; rw [ih _ _ _ (by simp; omega)]; by_cases h1 : o + 1 ≤ i ∧ i < o + 1 + r.length
  ·rw [dif_pos h1, dif_pos (by simp; omega)]
   have : i - o = (i - (o + 1)) + 1 := by omega
   simp [this]
  ·rw [dif_neg h1]
   by_cases h2 : i = o
   ·subst h2
    rw [dif_pos (by simp)]; rw [Array.getElem?_setIfInBounds_self_of_lt (by omega)]; simp
   ·rw [dif_neg (by simp; omega)]
    rw [Array.getElem?_setIfInBounds_ne (by omega)]

theorem run_storeCells' {P : Program} {b o : Nat} {ty : TypeId} {lo hi : Nat} : ∀ (vs : List Value) (i : Nat) (arr : Array Value) (w : World), w.heap[b]? = some (.cells arr ty (lo, hi)) → o + i + vs.length ≤ arr.size → vs.all one = true →
  (∀ k, o + i ≤ k → k < o + i + vs.length → ¬ (lo ≤ k ∧ k < hi)) → ∃ w', (storeCells ⟨b, o, none⟩ vs i).run P w = .ok () w' ∧ w'.heap = w.heap.setIfInBounds b (.cells (spliceA arr (o + i) vs) ty (lo, hi)) ∧ w'.os = w.os ∧ w'.tape = w.tape ∧ w'.output = w.output := by
 intro vs
 induction vs with
 | nil =>
  intro i arr w h _ _ _; obtain ⟨hb, he⟩ := Array.getElem?_eq_some_iff.1 h; exact ⟨w, by simp [storeCells], (heap_set_same h).symm, rfl, rfl, rfl⟩
 | cons v r ih =>
  intro i arr w h hsz hone hfr; simp only [List.length_cons] at hsz hfr; simp only [List.all_cons, Bool.and_eq_true] at hone; obtain ⟨hb, he⟩ := Array.getElem?_eq_some_iff.1 h; have hcell : w.cell? ⟨b, o + i, none⟩ = some arr[o + i] := by rw [cell_set h]; exact Array.getElem?_eq_getElem _
  have hfro : w.frozen? ⟨b, o + i, none⟩ = false := by
   rw [frozen_set h]; have := hfr (o + i) (by omega) (by omega); simp only [Bool.and_eq_false_iff, decide_eq_false_iff_not]; omega
  have hst : (store ((⟨b, o, none⟩ : Addr).add i) v).run P w = .ok () (w.setCell ⟨b, o + i, none⟩ v) := by
   rw [add_none, run_store P w _ v _ (by rw [← one_oneCell]; exact hone.1), hcell]; simp [hfro]
  have hh := setCell_heap (o := o + i) h v; have h' : (w.setCell ⟨b, o + i, none⟩ v).heap[b]? = some (.cells (arr.setIfInBounds (o + i) v) ty (lo, hi)) := by rw [hh]; simp [hb]
  obtain ⟨w', e1, e2, e3, e4, e5⟩ := ih (i + 1) (arr.setIfInBounds (o + i) v) _ h' (by simp; omega) hone.2 (fun k h1 h2 => hfr k (by omega) (by omega)); refine ⟨w', ?_, ?_, e3, e4, e5⟩
  ·simp only [storeCells]
   rw [run_bind_ok hst]; exact e1
  ·rw [e2, hh]
   simp only [spliceA, Nat.add_assoc]; apply Array.ext_getElem?; intro k; simp only [Array.getElem?_setIfInBounds, Array.size_setIfInBounds]; split <;> rfl

theorem splice_get? (c vs : List Value) (off : Nat) (h : off + vs.length ≤ c.length) (i : Nat) : (splice c off vs)[i]? = if off ≤ i ∧ i < off + vs.length then vs[i - off]? else c[i]? := by
 unfold splice
 by_cases h1 : i < off
 ·rw [if_neg (by omega), List.append_assoc, List.getElem?_append_left (by simp; omega), List.getElem?_take_of_lt h1]
 ·by_cases h2 : i < off + vs.length
  ·rw [if_pos ⟨by omega, h2⟩, List.append_assoc, List.getElem?_append_right (by simp; omega), List.getElem?_append_left (by simp; omega)]
   congr 1; simp; omega
  ·rw [if_neg (by omega), List.getElem?_append_right (by simp; omega), List.getElem?_drop]
   congr 1; simp; omega
theorem splice_length (c vs : List Value) (off : Nat) (h : off + vs.length ≤ c.length) : (splice c off vs).length = c.length := by
 simp [splice]; omega

theorem own_store {P : Program} {m : Mp} {H : AH} {w : World} (hR : Rel m H w) {b off : Nat} {pl : Pl} (hm : m b = some pl) {c : List Value} {sz : Nat} {ty : TypeId} (hg : H.get b = .cells c true sz ty)
  {vs vs' : List Value} (hv : VRL m vs vs') (hone : vs.all one = true) (hle : off + vs.length ≤ c.length) :
  ∃ w1, (storeCells ⟨pl.blk, pl.off + off, none⟩ vs').run P w = .ok () w1 ∧ Stp m H w m (H.set b (.cells (splice c off vs) true sz ty)) w1 := by
 have ho := hR.obj b pl hm
 rw [hg] at ho
 obtain ⟨h1, h2, h3⟩ := ho
 obtain ⟨e0, e1, arr, lo, hi, e2, e3, e4⟩ := h3 rfl
 have hlen := hv.1
 obtain ⟨w1, r1, r2, r3, r4, r5⟩ := run_storeCells' (P := P) (o := pl.off + off) vs' 0 arr w e2 (by omega) (hv.one_all hone) (fun k a b => e4 k (by omega))
 refine ⟨w1, r1, ?_⟩
 have hb : pl.blk < w.heap.size := hR.blk b pl hm
 have hnew : w1.heap[pl.blk]? = some (.cells (spliceA arr (pl.off + off) vs') ty (lo, hi)) := by rw [r2]; simp [hb]
 refine Stp.put hR b pl _ hm (by rw [hg]; rfl) (.inr trivial) (by rw [r2]; simp) (fun k hk => by rw [r2, Array.getElem?_setIfInBounds_ne (by omega)]) r3 r4 r5 ⟨?_, h2, fun _ => ?_⟩ ?_
 ·intro i hi'
  rw [splice_length _ _ _ hle] at hi'; rw [cell_set hnew, e0, Nat.zero_add, spliceA_get _ _ _ _ (by omega)]; have hg' := splice_get? c vs off hle i; by_cases hin : off ≤ i ∧ i < off + vs.length
  ·rw [if_pos hin, List.getElem?_eq_getElem (by rw [splice_length _ _ _ hle]; exact hi'), List.getElem?_eq_getElem (by omega)] at hg'
   rw [Nat.zero_add, dif_pos (by omega)]; refine ⟨_, rfl, ?_⟩; rw [Option.some.inj hg']; have := hv.2 (i - off) (by omega) (by omega); simpa using this
  ·rw [if_neg hin, List.getElem?_eq_getElem (by rw [splice_length _ _ _ hle]; exact hi'), List.getElem?_eq_getElem hi'] at hg'
   rw [Nat.zero_add, dif_neg (by omega)]; obtain ⟨v', a1, a2⟩ := h1 i hi'; rw [cell_set e2, e0, Nat.zero_add] at a1; exact ⟨v', a1, by rw [Option.some.inj hg']; exact a2⟩
 ·exact ⟨e0, by rw [splice_length _ _ _ hle]; exact e1, _, lo, hi, hnew, by rw [spliceA_size]; exact e3, e4⟩
 ·intro l hl; rw [e2] at hl; cases hl

theorem astore_run {P : Program} {m : Mp} {H H1 : AH} {w : World} (hR : Rel m H w) {t : TypeId} {x x' v v' : Value} (hx : VR m x x') (hv : VR m v v') (h : astore P t x v H = some H1) :
  ∃ w1, (Instr.storeAt t x' v').run P w = .ok () w1 ∧ Stp m H w m H1 w1 := by
 unfold astore at h
 split at h
 ·rename_i b off
  split at h
  ·rename_i c sz ty hg
   split at h
   ·rename_i n hs
    split at h
    ·rename_i hc
     obtain ⟨c1, c2, c3⟩ := hc; simp only [Option.some.injEq] at h; subst h; obtain ⟨pl, hm, -, rfl⟩ := hx.ptr_inv; have hcl := hv.cells; obtain ⟨w1, r1, r2⟩ := own_store (P := P) hR hm hg hcl c3 (by simpa [c1] using c2); refine ⟨w1, ?_, r2⟩; have hsz : v'.cells.size = n := by have := hcl.1; simp at this; omega
     simp only [Instr.storeAt, Instr.sureAddr, Sem.run_bind, Sem.run_pure, Result.andThen_ok, storeVar, run_sizeOf' hs]; simp only [hsz, ne_eq, not_true_eq_false, if_false]; simpa using r1
    ·cases h
   ·cases h
  ·cases h
 ·cases h

end Go.AM
