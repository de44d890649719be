/- AM's operations that ask nothing of the heap: each stands to the model's. -/

import Derived.Test.YtgpligmjbecbjaaGreatDoorAmBase
set_option linter.unusedVariables false
set_option linter.unusedSimpArgs false
set_option linter.unusedSectionVars false
namespace Go.AM
open Go

def QRel (P : Program) (m : Mp) (s : Sem Next) (v : Value) : Prop := ∃ v', (∀ w, s.run P w = .ok (.value v') w) ∧ VR m v v'

theorem q_of {P : Program} {m : Mp} {s : Sem Value} {v v' : Value} (h : ∀ w, s.run P w = .ok v' w) (hv : VR m v v') : QRel P m (do pure (.value (← s))) v :=
 ⟨v', fun w => by simp [h w], hv⟩
theorem pureV_run {P : Program} {s : Sem Value} {v : Value} (h : pureV P s = some v) : flat1 v = true ∧ ∀ w, s.run P w = .ok v w := by
 simp only [pureV, Option.bind_eq_some_iff] at h
 obtain ⟨r, h1, h2⟩ := h
 split at h2
 ·rename_i hf
  simp only [Option.some.injEq] at h2; subst h2; exact ⟨hf, pureRun_run h1⟩
 ·cases h2
theorem q_pure {P : Program} {m : Mp} {s : Sem Value} {v : Value} (h : pureV P s = some v) : QRel P m (do pure (.value (← s))) v :=
 q_of (pureV_run h).2 (.flat v (pureV_run h).1)

theorem foldl_set (vs : List Value) : ∀ (cells : Array Value) (off k : Nat), off + k + vs.length ≤ cells.size →
  ((vs.zipIdx k).foldl (fun (cs : Array Value) (x : Value × Nat) => cs.setIfInBounds (off + x.2) x.1) cells).toList = splice cells.toList (off + k) vs := by
 induction vs with
 | nil => intro cells off k _; simp [splice]
 | cons v r ih =>
  intro cells off k h; simp only [List.length_cons] at h; simp only [List.zipIdx_cons, List.foldl_cons]; rw [ih _ _ _ (by simp; omega)]; apply List.ext_getElem?; intro i; rw [splice_get? _ _ _ (by simp; omega), splice_get? _ _ _ (by simp; omega)]; simp only [Array.toList_setIfInBounds, List.length_cons]; by_cases h1 : off + (k + 1) ≤ i ∧ i < off + (k + 1) + r.length
  ·rw [if_pos h1, if_pos (by omega)]
   have e : i - (off + k) = (i - (off + (k + 1))) + 1 := by omega
   rw [e, List.getElem?_cons_succ]
  ·rw [if_neg h1]
   by_cases h2 : i = off + k
   ·subst h2
    rw [if_pos (by omega), List.getElem?_set_self (by simp; omega)]; simp
   ·rw [if_neg (by omega), List.getElem?_set_ne (by omega)]

theorem fill_run {m : Mp} {pl : Nat → Option (Nat × Nat)} : ∀ (parts parts' : List (Nat × Value)) (c c1 : List Value) (c' : Array Value), fillL pl c parts = some c1 → VRL m c c'.toList → parts.map (·.1) = parts'.map (·.1) → VRL m (parts.map (·.2)) (parts'.map (·.2)) →
  ∃ c1' : Array Value, Instr.fill pl c' parts' = some c1' ∧ VRL m c1 c1'.toList := by
 intro parts
 induction parts with
 | nil =>
  intro parts' c c1 c' h hc he _; cases parts' with
  | nil => simp only [fillL, Option.some.injEq] at h; subst h; exact ⟨c', rfl, hc⟩
  | cons x r => simp at he
 | cons x r ih =>
  intro parts' c c1 c' h hc he hv; cases parts' with
  | nil => simp at he
  | cons x' r' =>
   obtain ⟨i, v⟩ := x; obtain ⟨i', v'⟩ := x'; simp only [List.map_cons, List.cons.injEq] at he; obtain ⟨rfl, he⟩ := he; simp only [List.map_cons] at hv; have hvv := hv.head; have hcl := hvv.cells; have hl : v.cells.size = v'.cells.size := by simpa using hcl.1
   have hcc : c.length = c'.size := by simpa using hc.1
   simp only [fillL] at h; simp only [Instr.fill]; cases hp : pl i with
   | none => simp [hp] at h
   | some os =>
    obtain ⟨off, size⟩ := os; simp only [hp] at h; split at h
    ·cases h
    ·rename_i hn
     dsimp only
     rw [if_neg (by simp only [Bool.or_eq_true, decide_eq_true_eq]; omega)]; refine ih r' _ c1 _ h ?_ he hv.tail; have e := foldl_set v'.cells.toList c' off 0 (by simp; omega); have e2 : (v'.cells.zipIdx.foldl (fun (cs : Array Value) (x : Value × Nat) => cs.setIfInBounds (off + x.2) x.1) c').toList = splice c'.toList off v'.cells.toList := by
      rw [← Array.foldl_toList, Array.toList_zipIdx]; simpa using e
     have e3 : (v'.cells.zipIdx.foldl (fun cs (x : Value × Nat) => match x with | (c, j) => cs.setIfInBounds (off + j) c) c').toList = splice c'.toList off v'.cells.toList := e2; show VRL m _ (v'.cells.zipIdx.foldl (fun cs (x : Value × Nat) => match x with | (c, j) => cs.setIfInBounds (off + j) c) c').toList; rw [e3]; exact hc.splice off hcl

theorem mapM_places {P : Program} (w : World) : ∀ (fs : List Field) (pl : List (Nat × Nat)), fieldPlaces P fs = some pl → (fs.mapM fun f => do pure (f.offset, ← sizeOf f.type) : Sem (List (Nat × Nat))).run P w = .ok pl w := by
 intro fs
 induction fs with
 | nil => intro pl h; simp [fieldPlaces] at h; subst h; rfl
 | cons f r ih =>
  intro pl h; simp only [fieldPlaces, List.mapM_cons, Option.bind_eq_bind, Option.bind_eq_some_iff, Option.pure_def, Option.some.injEq] at h; obtain ⟨x, hx, ys, hys, rfl⟩ := h; obtain ⟨n, hn, rfl⟩ := Option.map_eq_some_iff.1 hx; simp only [List.mapM_cons, Sem.run_bind, run_sizeOf' hn, Result.andThen_ok, Sem.run_pure]; rw [ih ys hys]; rfl

theorem part_det {P : Program} {t : TypeId} {cs : Array Value} {off : Nat} {w w' w1 w1' : World} {v v' : Value} (h : (part t cs off).run P w = .ok v w1) (h' : (part t cs off).run P w' = .ok v' w1') : v = v' := by
 simp only [Go.part, isAgg, Sem.run_bind, underlying, run_program, Result.andThen_ok] at h h'
 cases hu : P.underlying t with
 | none => simp [hu] at h
 | some d =>
  have hs : ∀ w0 : World, (sizeOf t).run P w0 = match P.info? t with | some i => .ok i.size w0 | none => .halt (.stuck "no such type") w0 := fun w0 => by
   simp only [sizeOf, typeInfo, Sem.run_bind, run_program, Result.andThen_ok]; cases P.info? t <;> rfl
  cases hi : P.info? t with
  | none =>
   cases hc : cs[off]? with
   | none => cases d <;> simp [hu, hs, hi, hc] at h
   | some x => cases d <;> simp_all
  | some i =>
   cases hc : cs[off]? with
   | none => cases d <;> simp_all
   | some x => cases d <;> simp_all

theorem abuild_run {P : Program} {m : Mp} {t : TypeId} {parts parts' : List (Nat × Value)} {v : Value} (h : abuild P t parts = some v) (he : parts.map (·.1) = parts'.map (·.1)) (hv : VRL m (parts.map (·.2)) (parts'.map (·.2)))
  (hz : ∀ z, zero? P t = some z → z.cells.toList.all flat1 = true) : ∃ v', (∀ w, (Instr.build t parts'.toArray).run P w = .ok v' w) ∧ VR m v v' := by
 unfold abuild at h
 cases hzz : zero? P t with
 | none => simp [hzz] at h
 | some z =>
  have hzr : VRL m z.cells.toList z.cells.toList := .refl_flat (hz z hzz); cases hu : P.underlying t with
  | none => simp [hzz, hu] at h
  | some d =>
   cases d with
   | struct fs =>
    simp only [hzz, hu, Option.bind_eq_some_iff, Option.map_eq_some_iff] at h; obtain ⟨pl, hpl, c, hc, rfl⟩ := h; obtain ⟨c1', e1, e2⟩ := fill_run parts parts' _ _ z.cells hc hzr he hv; refine ⟨.agg c1', fun w => ?_, VR.of_vrl_agg (by simpa using e2)⟩; have hm := mapM_places w fs.toList pl hpl; have hm' : (fs.mapM fun f => do pure (f.offset, ← sizeOf f.type) : Sem (Array (Nat × Nat))).run P w = .ok pl.toArray w := by
     rw [Array.mapM_eq_mapM_toList]; simp only [Sem.run_map, hm]; rfl
    simp only [Instr.build, Sem.run_bind, run_zeroValue' hzz, Result.andThen_ok, run_underlying' hu]; rw [hm']; simp only [Result.andThen_ok]; have e1' : Instr.fill (pl.toArray[·]?) z.cells parts' = some c1' := by simpa using e1
    rw [e1']; rfl
   | array k e =>
    simp only [hzz, hu, Option.bind_eq_some_iff, Option.map_eq_some_iff] at h; obtain ⟨n, hn, c, hc, rfl⟩ := h; obtain ⟨c1', e1, e2⟩ := fill_run parts parts' _ _ z.cells hc hzr he hv; refine ⟨.agg c1', fun w => ?_, VR.of_vrl_agg (by simpa using e2)⟩; simp only [Instr.build, Sem.run_bind, run_zeroValue' hzz, Result.andThen_ok, run_underlying' hu, run_sizeOf' hn]; rw [e1]; rfl
   | _ => simp [hzz, hu] at h

theorem run_bound {m : Mp} {d : Nat} {x x' : Option Value} {n : Int} (h : boundOf d x = some n) (hx : ∀ v, x = some v → ∃ v', x' = some v' ∧ VR m v v') (hn : x = none → x' = none) :
  (x' = none ∧ n = d) ∨ (∃ k, x' = some (.int k n)) := by
 cases x with
 | none => simp only [boundOf, Option.some.injEq] at h; exact .inl ⟨hn rfl, h.symm⟩
 | some v =>
  obtain ⟨v', rfl, hv⟩ := hx v rfl; simp only [boundOf] at h; cases v <;> simp [asInt?] at h
  subst h; rw [hv.int_inv]; exact .inr ⟨_, rfl⟩

theorem run_sliceBounds {P : Program} (w : World) {isSlice : Bool} {len cap : Nat} {lo hi : Option Value} {l h : Int} (hl : (lo = none ∧ l = 0) ∨ ∃ k, lo = some (.int k l)) (hh : (hi = none ∧ h = len) ∨ ∃ k, hi = some (.int k h))
  (h0 : 0 ≤ l) (h1 : l ≤ h) (h2 : h ≤ len) (h3 : len ≤ cap) : (Instr.sliceBounds isSlice len cap lo hi none).run P w = .ok (l.toNat, h.toNat, cap) w := by
 unfold Instr.sliceBounds
 rcases hh with ⟨rfl, rfl⟩ | ⟨k, rfl⟩ <;> rcases hl with ⟨rfl, rfl⟩ | ⟨k', rfl⟩
 ·simp
 ·have a : (0 ≤ l ∧ l ≤ (len : Int)) := ⟨h0, h1⟩
  simp [Instr.sliceBound, asIntOf, a]
 ·have b : (0 ≤ h ∧ h ≤ (cap : Int)) := ⟨by omega, by omega⟩
  simp [Instr.sliceBound, asIntOf, b]
 ·have b : (0 ≤ h ∧ h ≤ (cap : Int)) := ⟨by omega, by omega⟩
  have a : (0 ≤ l ∧ l ≤ ((h.toNat : Nat) : Int)) := ⟨h0, by omega⟩; simp only [Instr.sliceBound, asIntOf, Sem.run_bind, Sem.run_pure, Result.andThen_ok, b, and_self, if_true, a]

def optVR (m : Mp) (x x' : Option Value) : Prop := (∀ v, x = some v → ∃ v', x' = some v' ∧ VR m v v') ∧ (x = none → x' = none)

theorem aslice_run {P : Program} {m : Mp} {t : TypeId} {x x' v : Value} {lo lo' hi hi' mx mx' : Option Value} (h : aslice P t x lo hi mx = some v) (hx : VR m x x') (hl : optVR m lo lo') (hh : optVR m hi hi') (hm : optVR m mx mx') :
  ∃ v', (∀ w, (Instr.sliceAt t x' lo' hi' mx').run P w = .ok v' w) ∧ VR m v v' := by
 unfold aslice at h
 split at h
 ·-- a string
  rename_i s hu; rw [hm.2 rfl]; rw [hx.string_inv]; simp only [Option.bind_eq_some_iff] at h; obtain ⟨l, e1, hh1, e2, h⟩ := h; split at h
  ·rename_i hc
   simp only [Option.some.injEq] at h; subst h; have b1 := run_bound e1 hl.1 hl.2; have b2 := run_bound e2 hh.1 hh.2; refine ⟨_, fun w => ?_, .flat _ rfl⟩; have := run_sliceBounds (P := P) w (isSlice := false) (len := s.size) (cap := s.size) b1 b2 hc.1 hc.2.1 hc.2.2 (Nat.le_refl _); simp only [Instr.sliceAt, Sem.run_bind, run_underlying' hu, Result.andThen_ok, Instr.slice]; simp [this]
  ·cases h
 ·-- a nil slice
  rename_i e hu; rw [hm.2 rfl]; rw [hx.flat1_eq rfl]; simp only [Option.bind_eq_some_iff] at h; obtain ⟨l, e1, hh1, e2, h⟩ := h; split at h
  ·rename_i n hs
   split at h
   ·rename_i hc
    obtain ⟨rfl, rfl⟩ := hc; simp only [Option.some.injEq] at h; subst h; have b1 := run_bound e1 hl.1 hl.2; have b2 := run_bound e2 hh.1 hh.2; refine ⟨_, fun w => ?_, .flat _ rfl⟩; have := run_sliceBounds (P := P) w (isSlice := true) (len := 0) (cap := 0) b1 b2 (Int.le_refl _) (Int.le_refl _) (Int.le_refl _) (Nat.le_refl _); simp only [Instr.sliceAt, Sem.run_bind, run_underlying' hu, Result.andThen_ok, Instr.slice, this, run_sizeOf' hs]; rfl
   ·cases h
  ·cases h
 ·rename_i e b off len sz hu
  rw [hm.2 rfl]; obtain ⟨pl0, hpl0, a', c', rfl, -, hn, hd⟩ := hx.slice_map; simp only [Option.bind_eq_some_iff] at h; obtain ⟨l, e1, hh1, e2, h⟩ := h; split at h
  ·rename_i n hs
   split at h
   ·rename_i hc
    simp only [Option.some.injEq] at h; subst h; have b1 := run_bound e1 hl.1 hl.2; have b2 := run_bound e2 hh.1 hh.2; refine ⟨.slice (some (if c' = l.toNat then a' else a'.add (l.toNat * n))) (hh1.toNat - l.toNat) (c' - l.toNat), fun w => ?_, ?_⟩
    ·have := run_sliceBounds (P := P) w (isSlice := true) (len := len) (cap := c') b1 b2 hc.1 hc.2.1 hc.2.2.1 hn
     simp only [Instr.sliceAt, Sem.run_bind, run_underlying' hu, Result.andThen_ok, Instr.slice, this, run_sizeOf' hs]; split <;> rfl
    ·refine .slice _ _ _ _ _ _ (by omega) ⟨pl0, hpl0, ?_⟩
     by_cases hz : c' = l.toNat
     ·exact .inl (by omega)
     ·rcases hd with hd | ⟨d2, d4⟩
      ·omega
      ·refine .inr ⟨?_, fun hne => ?_⟩
       ·rw [if_neg hz, d2, add_none, Nat.add_assoc]
       ·have h4 := d4 hne
        have : sz = n := by omega
        subst this; have e : c' * sz = (c' - l.toNat) * sz + l.toNat * sz := by rw [← Nat.add_mul]; congr 1; omega
        exact ⟨h4.1, by omega⟩
   ·cases h
  ·cases h
 ·rename_i k e b off hu
  rw [hm.2 rfl]; obtain ⟨pl, hb, -, rfl⟩ := hx.ptr_inv; simp only [Option.bind_eq_some_iff] at h; obtain ⟨l, e1, hh1, e2, h⟩ := h; split at h
  ·rename_i n hs
   split at h
   ·rename_i hc
    simp only [Option.some.injEq] at h; subst h; have b1 := run_bound e1 hl.1 hl.2; have b2 := run_bound e2 hh.1 hh.2; refine ⟨.slice (some (if k = l.toNat then ⟨pl.blk, pl.off + off, none⟩ else (⟨pl.blk, pl.off + off, none⟩ : Addr).add (l.toNat * n))) (hh1.toNat - l.toNat) (k - l.toNat), fun w => ?_, ?_⟩
    ·have := run_sliceBounds (P := P) w (isSlice := false) (len := k) (cap := k) b1 b2 hc.1 hc.2.1 hc.2.2 (Nat.le_refl _)
     simp only [Instr.sliceAt, Sem.run_bind, run_underlying' hu, Result.andThen_ok, Instr.sureAddr, Sem.run_pure, this, run_sizeOf' hs]
    ·refine .slice _ _ _ _ _ _ (by omega) ⟨pl, hb, ?_⟩
     by_cases hz : k = l.toNat
     ·exact .inl (by omega)
     ·exact .inr ⟨by rw [if_neg hz, add_none, Nat.add_assoc], fun hne => absurd rfl hne⟩
   ·cases h
  ·cases h
 ·rename_i e len s cs y hu
  rw [hm.2 rfl]; obtain ⟨a', c', rfl, hn, hd⟩ := hx.lst_inv; simp only [Option.bind_eq_some_iff] at h; obtain ⟨l, e1, hh1, e2, h⟩ := h; split at h
  ·rename_i n hs
   split at h
   ·rename_i hc
    simp only [Option.some.injEq] at h; subst h; have b1 := run_bound e1 hl.1 hl.2; have b2 := run_bound e2 hh.1 hh.2; refine ⟨.slice (some (if c' = l.toNat then a' else a'.add (l.toNat * n))) (hh1.toNat - l.toNat) (c' - l.toNat), fun w => ?_, ?_⟩
    ·have := run_sliceBounds (P := P) w (isSlice := true) (len := len) (cap := c') b1 b2 hc.1 hc.2.1 hc.2.2 hn
     simp only [Instr.sliceAt, Sem.run_bind, run_underlying' hu, Result.andThen_ok, Instr.slice, this, run_sizeOf' hs]; split <;> rfl
    ·rcases hd with hd | ⟨arr, d1, d2, d3, d4⟩
     ·have : cs.toList = [] := by simpa using hd
      rw [this]; exact .lst _ _ _ _ (by omega) (.inl (by simp)) fun i hi => by simp at hi
     ·obtain ⟨ab, ao, as⟩ := a'
      simp only at d1 d2 d3 d4; subst d2; refine VR.lst_cut d1 d3 d4 _ _ _ _ (by omega) _ ?_; by_cases hz : c' = l.toNat
      ·left
       have : hh1.toNat - l.toNat = 0 := by omega
       rw [this, Nat.zero_mul]
      ·right; rw [if_neg hz, add_none]
   ·cases h
  ·cases h
 ·rename_i k e s cs y hu
  rw [hm.2 rfl]; obtain ⟨kb, off, arr, rfl, d1, d3, d4⟩ := hx.dptr_inv; simp only [Option.bind_eq_some_iff] at h; obtain ⟨l, e1, hh1, e2, h⟩ := h; split at h
  ·rename_i n hs
   split at h
   ·rename_i hc
    simp only [Option.some.injEq] at h; subst h; have b1 := run_bound e1 hl.1 hl.2; have b2 := run_bound e2 hh.1 hh.2; refine ⟨.slice (some (if k = l.toNat then ⟨kb, off, none⟩ else (⟨kb, off, none⟩ : Addr).add (l.toNat * n))) (hh1.toNat - l.toNat) (k - l.toNat), fun w => ?_, ?_⟩
    ·have := run_sliceBounds (P := P) w (isSlice := false) (len := k) (cap := k) b1 b2 hc.1 hc.2.1 hc.2.2 (Nat.le_refl _)
     simp only [Instr.sliceAt, Sem.run_bind, run_underlying' hu, Result.andThen_ok, Instr.sureAddr, Sem.run_pure, this, run_sizeOf' hs]
    ·refine VR.lst_cut d1 d3 d4 _ _ _ _ (by omega) _ ?_
     by_cases hz : k = l.toNat
     ·left
      have : hh1.toNat - l.toNat = 0 := by omega
      rw [this, Nat.zero_mul]
     ·right; rw [if_neg hz, add_none]
   ·cases h
  ·cases h
 ·cases h

theorem afieldAddr_run {P : Program} {m : Mp} {s : TypeId} {x x' v : Value} {f : Nat} (h : afieldAddr P s x f = some v) (hx : VR m x x') : ∃ v', (∀ w, (Instr.fieldAt s x' f).run P w = .ok v' w) ∧ VR m v v' := by
 unfold afieldAddr at h
 split at h
 ·rename_i fs b off hu
  split at h
  ·rename_i fd hf
   split at h
   ·rename_i k hs
    simp only [Option.some.injEq] at h; subst h; obtain ⟨pl, hb, -, rfl⟩ := hx.ptr_inv; refine ⟨.pointer (some ⟨pl.blk, pl.off + (off + fd.offset), none⟩), fun w => ?_, .ptr _ _ pl hb⟩; simp only [Instr.fieldAt, Sem.run_bind, run_underlying' hu, Result.andThen_ok, hf, Instr.sureAddr, Sem.run_pure, fieldPlace, run_sizeOf' hs]; rw [if_neg (by omega)]; simp [add_none, Nat.add_assoc]
   ·cases h
  ·cases h
 ·rename_i fs s' cs y hu
  split at h
  ·rename_i fd hf
   split at h
   ·rename_i k hs
    split at h
    ·rename_i hle
     simp only [Option.some.injEq] at h; subst h; obtain ⟨kb, off, arr, rfl, d1, d3, d4⟩ := hx.dptr_inv; refine ⟨.pointer (some ⟨kb, off + fd.offset, none⟩), fun w => ?_, VR.dptr_drop d1 d3 d4 _ hle⟩; simp only [Instr.fieldAt, Sem.run_bind, run_underlying' hu, Result.andThen_ok, hf, Instr.sureAddr, Sem.run_pure, fieldPlace, run_sizeOf' hs]; rw [if_neg (by omega)]; simp [add_none, Nat.add_assoc]
    ·cases h
   ·cases h
  ·cases h
 ·cases h

theorem afield_run {P : Program} {m : Mp} {t : TypeId} {x x' v : Value} {f : Nat} (h : afield P t x f = some v) (hx : VR m x x') : ∃ v', (∀ w, (Instr.field t x' f).run P w = .ok v' w) ∧ VR m v v' := by
 unfold afield at h
 split at h
 ·rename_i fs cs hu
  split at h
  ·rename_i fd hf
   obtain ⟨cs', rfl, hc⟩ := hx.agg_inv; have hp := fun w => part?_run h hc w
   obtain ⟨v', h1, h2⟩ := hp default; refine ⟨v', fun w => ?_, h2⟩; obtain ⟨v'', h3, _⟩ := hp w; have e : v'' = v' := part_det h3 h1; subst e; simp only [Instr.field, Sem.run_bind, run_underlying' hu, Result.andThen_ok, hf, asAgg, Sem.run_pure]; exact h3
  ·cases h
 ·cases h

theorem aindexAddr_run {P : Program} {m : Mp} {t : TypeId} {x x' i i' v : Value} (h : aindexAddr P t x i = some v) (hx : VR m x x') (hi : VR m i i') : ∃ v', (∀ w, (Instr.indexAt t x' i').run P w = .ok v' w) ∧ VR m v v' := by
 unfold aindexAddr at h
 split at h
 ·rename_i e b off len sz k n hu
  split at h
  ·rename_i q hs
   split at h
   ·rename_i hc
    simp only [Option.some.injEq] at h; subst h; rw [hi.int_inv]; obtain ⟨a', c', rfl, -, hn, hd⟩ := hx.slice_inv; rcases hd with hd | ⟨pl, d1, d2, d4⟩
    ·omega
    ·subst d2
     refine ⟨.pointer (some ⟨pl.blk, pl.off + (off + n.toNat * q), none⟩), fun w => ?_, .ptr _ _ pl d1⟩; simp only [Instr.indexAt, asIntOf, Sem.run_bind, Sem.run_pure, Result.andThen_ok, run_underlying' hu, hc, and_self, if_true, run_sizeOf' hs]; simp [add_none, Nat.add_assoc]
   ·cases h
  ·cases h
 ·rename_i len e b off k n hu
  split at h
  ·rename_i q hs
   split at h
   ·rename_i hc
    simp only [Option.some.injEq] at h; subst h; rw [hi.int_inv]; obtain ⟨pl, hb, -, rfl⟩ := hx.ptr_inv; refine ⟨.pointer (some ⟨pl.blk, pl.off + (off + n.toNat * q), none⟩), fun w => ?_, .ptr _ _ pl hb⟩; simp only [Instr.indexAt, asIntOf, Sem.run_bind, Sem.run_pure, Result.andThen_ok, run_underlying' hu, Instr.sureAddr, hc, and_self, if_true, run_sizeOf' hs]; simp [add_none, Nat.add_assoc]
   ·cases h
  ·cases h
 ·rename_i e len s cs y k n hu
  split at h
  ·rename_i q hs
   split at h
   ·rename_i hc
    simp only [Option.some.injEq] at h; subst h; rw [hi.int_inv]; obtain ⟨a', c', rfl, hn, hd⟩ := hx.lst_inv; rcases hd with hd | ⟨arr, d1, d2, d3, d4⟩
    ·omega
    ·obtain ⟨ab, ao, as⟩ := a'
     simp only at d1 d2 d3 d4; subst d2; refine ⟨.pointer (some ⟨ab, ao + n.toNat * q, none⟩), fun w => ?_, VR.dptr_drop d1 d3 d4 _ (by omega)⟩; simp only [Instr.indexAt, asIntOf, Sem.run_bind, Sem.run_pure, Result.andThen_ok, run_underlying' hu, hc.1, hc.2.1, and_self, if_true, run_sizeOf' hs]; simp [add_none, Nat.add_assoc]
   ·cases h
  ·cases h
 ·rename_i len e s cs y k n hu
  split at h
  ·rename_i q hs
   split at h
   ·rename_i hc
    simp only [Option.some.injEq] at h; subst h; rw [hi.int_inv]; obtain ⟨kb, off, arr, rfl, d1, d3, d4⟩ := hx.dptr_inv; refine ⟨.pointer (some ⟨kb, off + n.toNat * q, none⟩), fun w => ?_, VR.dptr_drop d1 d3 d4 _ hc.2.2⟩; simp only [Instr.indexAt, asIntOf, Sem.run_bind, Sem.run_pure, Result.andThen_ok, run_underlying' hu, Instr.sureAddr, hc.1, hc.2.1, and_self, if_true, run_sizeOf' hs]; simp [add_none, Nat.add_assoc]
   ·cases h
  ·cases h
 ·cases h

theorem aindex_run {P : Program} {m : Mp} {t : TypeId} {x x' i i' v : Value} (h : aindex P t x i = some v) (hx : VR m x x') (hi : VR m i i') : ∃ v', (∀ w, (Instr.index t x' i').run P w = .ok v' w) ∧ VR m v v' := by
 unfold aindex at h
 split at h
 ·rename_i len e cs k n hu
  split at h
  ·rename_i q hs
   split at h
   ·rename_i hc
    rw [hi.int_inv]; obtain ⟨cs', rfl, hcs⟩ := hx.agg_inv; have hp := fun w => part?_run h hcs w
    obtain ⟨v', h1, h2⟩ := hp default; refine ⟨v', fun w => ?_, h2⟩; obtain ⟨v'', h3, _⟩ := hp w; have e : v'' = v' := part_det h3 h1; subst e; simp only [Instr.index, asIntOf, Sem.run_bind, Sem.run_pure, Result.andThen_ok, run_underlying' hu, hc, and_self, if_true, run_sizeOf' hs]; exact h3
   ·cases h
  ·cases h
 ·rename_i s k n hu
  split at h
  ·rename_i hc
   rw [hi.int_inv, hx.string_inv]; obtain ⟨b, hb, rfl⟩ := Option.map_eq_some_iff.1 h; refine ⟨_, fun w => ?_, .flat _ rfl⟩; simp only [Instr.index, asIntOf, Sem.run_bind, Sem.run_pure, Result.andThen_ok, run_underlying' hu, hc, if_true, hb]
  ·cases h
 ·cases h

theorem equal_of {P : Program} {t : TypeId} {x y : Value} {r : Bool} (h : ∀ (d : Nat) (w : World), (Op.equalIn (d + 1) t x y).run P w = .ok r w) (w : World) : (Op.equal t x y).run P w = .ok r w := h 9999 w

theorem aeqNil_run {P : Program} {m : Mp} {t : TypeId} {x x' y y' : Value} {r : Bool} (h : aeqNil P t x y = some r) (hx : VR m x x') (hy : VR m y y') (op : BinOp) (X Y : Operand) :
  (∀ w, (eqGuard op t X Y x' y').run P w = .ok () w) ∧ ∀ w, (Op.equal t x' y').run P w = .ok r w := by
 unfold aeqNil at h
 split at h
 all_goals (first | (cases h; done) | skip)
 case h_1 u e a n c n' c' hu =>
  simp only [Option.some.injEq] at h; subst h; obtain ⟨b, o, s⟩ := a; obtain ⟨a', c'', rfl, -, -, -⟩ := hx.slice_inv; rw [hy.flat1_eq rfl]; exact ⟨fun w => by unfold eqGuard; split <;> rfl, equal_of fun d w => by simp [Op.equalIn, run_underlying' hu]⟩
 case h_2 u e n c a n' c' hu =>
  simp only [Option.some.injEq] at h; subst h; obtain ⟨b, o, s⟩ := a; obtain ⟨a', c'', rfl, -, -, -⟩ := hy.slice_inv; rw [hx.flat1_eq rfl]; exact ⟨fun w => by unfold eqGuard; split <;> rfl, equal_of fun d w => by simp [Op.equalIn, run_underlying' hu]⟩
 case h_3 u e a hu =>
  simp only [Option.some.injEq] at h; subst h; obtain ⟨b, o, s⟩ := a; obtain ⟨pl, hb, -, rfl⟩ := hx.ptr_inv; rw [hy.flat1_eq rfl]; exact ⟨fun w => by unfold eqGuard; split <;> rfl, equal_of fun d w => by simp [Op.equalIn, run_underlying' hu]⟩
 case h_4 u e a hu =>
  simp only [Option.some.injEq] at h; subst h; obtain ⟨b, o, s⟩ := a; obtain ⟨pl, hb, -, rfl⟩ := hy.ptr_inv; rw [hx.flat1_eq rfl]; exact ⟨fun w => by unfold eqGuard; split <;> rfl, equal_of fun d w => by simp [Op.equalIn, run_underlying' hu]⟩
 case h_5 u e a b hu =>
  split at h
  ·rename_i k hs
   split at h
   ·rename_i hab
    subst hab; simp only [Option.some.injEq] at h; subst h; obtain ⟨b, o, s⟩ := a; obtain ⟨pl, hb, -, rfl⟩ := hx.ptr_inv; obtain ⟨pl', hb', -, rfl⟩ := hy.ptr_inv; rw [hb] at hb'; cases hb'; exact ⟨fun w => by unfold eqGuard; split <;> rfl, equal_of fun d w => by simp [Op.equalIn, run_underlying' hu, run_sizeOf' hs, sameAddr]⟩
   ·cases h
  ·cases h
 case h_6 u k e a hu =>
  simp only [Option.some.injEq] at h; subst h; obtain ⟨pl, hb, rfl⟩ := hx.map_inv; rw [hy.flat1_eq rfl]; exact ⟨fun w => by unfold eqGuard; split <;> rfl, equal_of fun d w => by simp [Op.equalIn, run_underlying' hu]⟩
 case h_7 u k e a hu =>
  simp only [Option.some.injEq] at h; subst h; obtain ⟨pl, hb, rfl⟩ := hy.map_inv; rw [hx.flat1_eq rfl]; exact ⟨fun w => by unfold eqGuard; split <;> rfl, equal_of fun d w => by simp [Op.equalIn, run_underlying' hu]⟩
 case h_8 u p q vr fn a b hu =>
  split at h
  ·rename_i hk
   simp only [Option.some.injEq] at h; subst h; rw [hy.flat1_eq rfl]; cases hx with
   | flat _ hf => simp [flat1] at hf
   | func f _ x' _ y' _ _ _ _ => exact ⟨fun w => by unfold eqGuard; split <;> rfl, equal_of fun d w => by simp [Op.equalIn, run_underlying' hu]⟩
   | yld l pl hl => exact ⟨fun w => by unfold eqGuard; split <;> rfl, equal_of fun d w => by simp [Op.equalIn, run_underlying' hu]⟩
   | dptr cs k off arr h1 h2 h3 => cases hk
   | lst cs n c' a' h1 h2 h3 => cases hk
  ·cases h
 case h_9 u p q vr fn a b hu =>
  split at h
  ·rename_i hk
   simp only [Option.some.injEq] at h; subst h; rw [hx.flat1_eq rfl]; cases hy with
   | flat _ hf => simp [flat1] at hf
   | func f _ x' _ y' _ _ _ _ => exact ⟨fun w => by unfold eqGuard; split <;> rfl, equal_of fun d w => by simp [Op.equalIn, run_underlying' hu]⟩
   | yld l pl hl => exact ⟨fun w => by unfold eqGuard; split <;> rfl, equal_of fun d w => by simp [Op.equalIn, run_underlying' hu]⟩
   | dptr cs k off arr h1 h2 h3 => cases hk
   | lst cs n c' a' h1 h2 h3 => cases hk
  ·cases h
 case h_10 u e fn a b n' c' hu =>
  split at h
  ·rename_i hk
   simp only [Option.some.injEq] at h; subst h; rw [hy.flat1_eq rfl]; cases hx with
   | flat _ hf => simp [flat1] at hf
   | func f _ x' _ y' _ _ _ _ => cases hk
   | yld l pl hl => cases hk
   | dptr cs k off arr h1 h2 h3 => cases hk
   | lst cs n c' a' h1 h2 h3 => exact ⟨fun w => by unfold eqGuard; split <;> rfl, equal_of fun d w => by simp [Op.equalIn, run_underlying' hu]⟩
  ·cases h
 case h_11 u e n' c' fn a b hu =>
  split at h
  ·rename_i hk
   simp only [Option.some.injEq] at h; subst h; rw [hx.flat1_eq rfl]; cases hy with
   | flat _ hf => simp [flat1] at hf
   | func f _ x' _ y' _ _ _ _ => cases hk
   | yld l pl hl => cases hk
   | dptr cs k off arr h1 h2 h3 => cases hk
   | lst cs n c' a' h1 h2 h3 => exact ⟨fun w => by unfold eqGuard; split <;> rfl, equal_of fun d w => by simp [Op.equalIn, run_underlying' hu]⟩
  ·cases h
 case h_12 u e fn a b hu =>
  split at h
  ·rename_i hk
   simp only [Option.some.injEq] at h; subst h; rw [hy.flat1_eq rfl]; cases hx with
   | flat _ hf => simp [flat1] at hf
   | func f _ x' _ y' _ _ _ _ => cases hk
   | yld l pl hl => cases hk
   | dptr cs k off arr h1 h2 h3 => exact ⟨fun w => by unfold eqGuard; split <;> rfl, equal_of fun d w => by simp [Op.equalIn, run_underlying' hu]⟩
   | lst cs n c' a' h1 h2 h3 => cases hk
  ·cases h
 case h_13 u e fn a b hu =>
  split at h
  ·rename_i hk
   simp only [Option.some.injEq] at h; subst h; rw [hx.flat1_eq rfl]; cases hy with
   | flat _ hf => simp [flat1] at hf
   | func f _ x' _ y' _ _ _ _ => cases hk
   | yld l pl hl => cases hk
   | dptr cs k off arr h1 h2 h3 => exact ⟨fun w => by unfold eqGuard; split <;> rfl, equal_of fun d w => by simp [Op.equalIn, run_underlying' hu]⟩
   | lst cs n c' a' h1 h2 h3 => cases hk
  ·cases h

end Go.AM
