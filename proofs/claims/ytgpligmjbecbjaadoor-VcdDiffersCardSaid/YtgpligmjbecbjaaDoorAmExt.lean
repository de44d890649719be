/- AM's further operations: ranging over a string, capacities that are known, unsafe's views. -/

import Derived.Test.YtgpligmjbecbjaaDoorAmEff
import Derived.Lib.UnsafeStr
import Derived.Lib.Builder
set_option linter.unusedVariables false
set_option linter.unusedSimpArgs false
set_option linter.unusedSectionVars false
namespace Go.AM
open Go

theorem arange_run {P : Program} {m : Mp} {H H1 : AH} {w : World} (hR : Rel m H w) {t : TypeId} {x x' v : Value} (h : arange P t x H = some (v, H1)) (hx : VR m x x') :
  ∃ v' w1 m1, (Instr.range t x').run P w = .ok v' w1 ∧ Stp m H w m1 H1 w1 ∧ VR m1 v v' := by
 unfold arange at h
 split at h
 ·rename_i s hu
  simp only [Option.some.injEq, Prod.mk.injEq] at h
  obtain ⟨rfl, rfl⟩ := h
  rw [hx.string_inv]
  refine ⟨.pointer (some ⟨w.heap.size, 0, none⟩), { w with heap := w.heap.push (.stringIter s 0) }, upd m H.next ⟨w.heap.size, 0, 0, 0⟩, ?_, ?_, ?_⟩
  ·simp [Instr.range, run_underlying' hu]
  ·exact Stp.alloc hR _ (.stringIter s 0) _ rfl rfl rfl rfl rfl ⟨rfl, by simp⟩
  ·exact .ptr H.next 0 _ (upd_self _ _ _)
 ·cases h

theorem anext_run {P : Program} {m : Mp} {H H1 : AH} {w : World} (hR : Rel m H w) {ty : TypeId} {isS : Bool} {x x' v : Value} (h : anext x isS H = some (v, H1)) (hx : VR m x x') :
  ∃ v' w1 m1, (Instr.next x' isS ty).run P w = .ok v' w1 ∧ Stp m H w m1 H1 w1 ∧ VR m1 v v' := by
 unfold anext at h
 split at h
 ·rename_i b
  split at h
  ·rename_i s pos hg
   obtain ⟨pl, hb, -, rfl⟩ := hx.ptr_inv
   have ho := hR.obj b pl hb
   rw [hg] at ho
   obtain ⟨h0, h1⟩ := ho
   rw [h0]
   split at h
   ·rename_i hlt
    simp only [Option.some.injEq, Prod.mk.injEq] at h
    obtain ⟨rfl, rfl⟩ := h
    refine ⟨.tuple #[.bool true, goInt pos, .int .i32 (Utf8.decode s pos).1], { w with heap := w.heap.setIfInBounds pl.blk (.stringIter s (pos + (Utf8.decode s pos).2)) }, m, ?_, ?_, ?_⟩
    ·simp only [Instr.next, Nat.add_zero, Sem.run_bind, getObj, setObj, Sem.run, h1, Result.andThen_ok, if_pos hlt]
     rfl
    ·have hsz : pl.blk < w.heap.size := hR.blk b pl hb
     refine Stp.put hR b pl (.iter s (pos + (Utf8.decode s pos).2)) hb (by rw [hg]; rfl) (.inr trivial) (by simp) (fun k hk => ?_) rfl rfl rfl ⟨h0, ?_⟩ fun l hl => ?_
     ·simp only
      rw [Array.getElem?_setIfInBounds_ne (fun e => hk e.symm)]
     ·simp [hsz]
     ·rw [h1] at hl; cases hl
    ·refine VR.of_vrl_tuple (VRL.refl_flat ?_)
     rfl
   ·rename_i hlt
    simp only [Option.some.injEq, Prod.mk.injEq] at h
    obtain ⟨rfl, rfl⟩ := h
    refine ⟨.tuple #[.bool false], w, m, ?_, .refl hR, VR.of_vrl_tuple (VRL.refl_flat rfl)⟩
    simp only [Instr.next, Nat.add_zero, Sem.run_bind, getObj, Sem.run, h1, Result.andThen_ok, if_neg hlt]
    rfl
  ·cases h
 ·cases h

theorem own_obj {m : Mp} {H : AH} {w : World} (hR : Rel m H w) {b : Nat} {pl : Pl} (hb : m b = some pl) {c : List Value} {sz : Nat} {ty : TypeId} (hg : H.get b = .cells c true sz ty) :
  pl.off = 0 ∧ ∃ (arr : Array Value) (lo hi : Nat), w.heap[pl.blk]? = some (.cells arr ty (lo, hi)) ∧ c.length ≤ arr.size ∧ ∀ (i : Nat) (h : i < c.length), ∃ v', arr[i]? = some v' ∧ VR m c[i] v' := by
 have ho := hR.obj b pl hb
 rw [hg] at ho
 obtain ⟨h1, -, h3⟩ := ho
 obtain ⟨h0, hc, arr, lo, hi, e, hs, -⟩ := h3 rfl
 refine ⟨h0, arr, lo, hi, e, by omega, fun i hi' => ?_⟩
 obtain ⟨v', a, b⟩ := h1 i hi'
 rw [cell_set e, h0, Nat.zero_add] at a
 exact ⟨v', a, b⟩

theorem Stp.drop {m : Mp} {H : AH} {w w1 : World} (hR : Rel m H w) (b : Nat) (pl : Pl) (hb : m b = some pl) (hown : isOwn (H.get b) = true) (hsz : w1.heap.size = w.heap.size) (hw : ∀ k, k ≠ pl.blk → w1.heap[k]? = w.heap[k]?)
  (ho : w1.os = w.os) (ht : w1.tape = w.tape) (hp : w1.output = w.output) (hlp : ∀ l : Loop, w.heap[pl.blk]? ≠ some (.loop l)) : Stp m H w m (H.set b .dead) w1 :=
 Stp.put hR b pl .dead hb hown (.inr trivial) hsz hw ho ht hp trivial fun l hl => absurd hl (hlp l)

theorem bytes_list : ∀ (vs : List Value) (l : List UInt8), vs.mapM byteOf? = some l → ∀ (j : Nat) (x : UInt8), l[j]? = some x → vs[j]? = some (.int .u8 x.toNat) := by
 intro vs
 induction vs with
 | nil => intro l h j x hx; simp at h; subst h; simp at hx
 | cons v r ih =>
  intro l h j x hx
  simp only [List.mapM_cons, Option.bind_eq_bind, Option.bind_eq_some_iff, Option.pure_def, Option.some.injEq] at h
  obtain ⟨b, hb, bs, hbs, rfl⟩ := h
  unfold byteOf? at hb
  split at hb
  ·rename_i n
   split at hb
   rotate_left
   ·cases hb
   rename_i hr
   simp only [Option.some.injEq] at hb
   cases j with
   | zero =>
    simp at hx
    have e : ((UInt8.ofNat n.toNat).toNat : Int) = n := by rw [UInt8.toNat_ofNat', Nat.mod_eq_of_lt (by omega)]; omega
    rw [← hx, ← hb, e]; rfl
   | succ j => simpa using ih bs hbs j x (by simpa using hx)
  ·cases hb
theorem bytes_len : ∀ (vs : List Value) (l : List UInt8), vs.mapM byteOf? = some l → l.length = vs.length := by
 intro vs
 induction vs with
 | nil => intro l h; simp at h; subst h; rfl
 | cons v r ih =>
  intro l h
  simp only [List.mapM_cons, Option.bind_eq_bind, Option.bind_eq_some_iff, Option.pure_def, Option.some.injEq] at h
  obtain ⟨b, hb, bs, hbs, rfl⟩ := h
  simp [ih bs hbs]

theorem aunsafeString_run {P : Program} {m : Mp} {H H1 : AH} {w : World} (hR : Rel m H w) {ts : Array TypeId} {ty : TypeId} {args : List Value} {args' : Array Value} {v : Value} (hts : ts.size = 2) (h : aunsafeString P ts.toList args H = some (v, H1)) (ha : VRL m args args'.toList) :
  ∃ v' w1 m1, (Builtin.unsafeString_ ts ty args').run P w = .ok v' w1 ∧ Stp m H w m1 H1 w1 ∧ VR m1 v v' := by
 obtain ⟨pt, it, e⟩ : ∃ pt it, ts = #[pt, it] := by
  obtain ⟨l⟩ := ts
  match l, hts with
  | [a, b], _ => exact ⟨a, b, rfl⟩
 subst e
 unfold aunsafeString at h
 split at h
 ·simp only [Option.some.injEq, Prod.mk.injEq] at h
  obtain ⟨rfl, rfl⟩ := h
  have e := ha.flat_eq rfl
  have e' : args' = #[.pointer none, .int .i64 0] := by apply Array.ext'; simpa using e
  subst e'
  exact ⟨_, w, m, Lib.run_unsafeString_none w pt it ty none, .refl hR, .flat _ rfl⟩
 ·rename_i pt' r b n heq
  simp only [List.cons.injEq] at heq
  split at h
  ·rename_i c ty' e hg hu
   split at h
   ·rename_i hc
    obtain ⟨l, hl, h⟩ := Option.map_eq_some_iff.1 h
    simp only [Prod.mk.injEq] at h
    obtain ⟨rfl, rfl⟩ := h
    obtain ⟨h1, h2, h3, h4, h5⟩ := hc
    subst h4
    rw [← heq.1] at hu
    obtain ⟨x', r', e1, hx, hr⟩ := ha.cases
    obtain ⟨y', r2, e2, hy, hr2⟩ := hr.cases
    have e3 := hr2.nil_cases
    subst e3
    obtain ⟨pl, hb, -, rfl⟩ := hx.ptr_inv
    rw [hy.int_inv] at e2
    obtain ⟨h0, arr, lo, hi, e4, hle, hcs⟩ := own_obj hR hb hg
    have hll := bytes_len _ _ hl
    simp only [List.length_take] at hll
    have hn : n = (l.length : Int) := by omega
    have e' : args' = #[.pointer (some ⟨pl.blk, 0, none⟩), .int .i64 l.length] := by
     apply Array.ext'
     rw [e1, e2, h0, hn]
    subst e'
    have hcell : ∀ j x, l[j]? = some x → w.cell? ((⟨pl.blk, 0, none⟩ : Addr).add j) = some (.int .u8 x.toNat) := fun j x hx => by
     have g1 := bytes_list _ _ hl j x hx
     have hj : j < c.length := by
      have := (List.getElem?_eq_some_iff.1 g1).1
      simp only [List.length_take] at this; omega
     have g2 : c[j] = .int .u8 x.toNat := by
      rw [List.getElem?_take] at g1
      split at g1
      ·rw [List.getElem?_eq_getElem hj] at g1; exact Option.some.inj g1
      ·cases g1
     obtain ⟨v', g3, g4⟩ := hcs j hj
     rw [g2] at g4
     rw [add_none, Nat.zero_add, cell_set e4, g3, g4.int_inv]
    refine ⟨_, _, m, Lib.run_unsafeString_row w pt it ty ty' hu (by simp [Program.cellsOf]; simpa [sizeOf?] using congrArg (·.getD 0) h5) pl.blk arr.size (by simp [World.shape?, e4]) l (by rintro rfl; simp at hn; omega) (by omega) (by omega) hcell, ?_, .flat _ rfl⟩
    have hne : l.length ≠ 0 := by omega
    refine Stp.drop hR b pl hb (by rw [hg]; rfl) ?_ (fun k hk => ?_) ?_ ?_ ?_ fun lp hlp => ?_
    ·simp [World.freeze, hne]
    ·simp only [World.freeze, if_neg hne, Array.getElem?_modify]
     rw [if_neg (fun e => hk e.symm)]
    ·simp [World.freeze, hne]
    ·simp [World.freeze, hne]
    ·simp [World.freeze, hne]
    ·rw [e4] at hlp; cases hlp
   ·cases h
  ·cases h
 ·cases h

theorem abuiltinX_run {P : Program} {m : Mp} {H H1 : AH} {w : World} (hR : Rel m H w) {b : Builtin} {ts : Array TypeId} {ty : TypeId} {cs : Array Bool} {args : List Value} {args' : Array Value} {v : Value} (h : abuiltinX P b ts.toList args H = some (v, H1)) (ha : VRL m args args'.toList) :
  ∃ v' w1 m1, (builtin b ts ty cs args').run P w = .ok (.value v') w1 ∧ Stp m H w m1 H1 w1 ∧ VR m1 v v' := by
 unfold abuiltinX at h
 cases b
 all_goals (first | (simp only at h; cases h; done) | simp only at h)
 case cap =>
  split at h
  ·rename_i t ts' r hts
   split at h
   ·rename_i e hu
    simp only [Option.some.injEq, Prod.mk.injEq] at h
    obtain ⟨rfl, rfl⟩ := h
    obtain ⟨x', r', e1, hx, hr⟩ := ha.cases
    rw [hx.flat1_eq rfl] at e1
    have t0 : ts[0]? = some t := by rw [← Array.getElem?_toList, hts]; rfl
    have a0 : args'[0]? = some (.slice none 0 0) := by rw [← Array.getElem?_toList, e1]; rfl
    exact ⟨.int .i64 0, w, m, by simp [builtin, Builtin.cap_, t0, a0, run_underlying' hu, goInt], .refl hR, .flat _ rfl⟩
   ·cases h
  ·cases h
 case unsafeSliceData =>
  split at h
  ·simp only [Option.some.injEq, Prod.mk.injEq] at h
   obtain ⟨rfl, rfl⟩ := h
   have e := ha.flat_eq rfl
   have e' : args' = #[.slice none 0 0] := by apply Array.ext'; simpa using e
   subst e'
   exact ⟨.pointer none, w, m, by simp only [builtin, Sem.run_bind, Lib.run_unsafeSliceData_nil w ts ty 0 0, Result.andThen_ok, Sem.run_pure], .refl hR, .flat _ rfl⟩
  ·rename_i b n
   simp only [Option.some.injEq, Prod.mk.injEq] at h
   obtain ⟨rfl, rfl⟩ := h
   obtain ⟨x', r', e1, hx, hr⟩ := ha.cases
   have e3 := hr.nil_cases
   subst e3
   obtain ⟨a', c', rfl, -, hn, hd⟩ := hx.slice_inv
   have e' : args' = #[.slice (some a') (n + 1) c'] := by apply Array.ext'; simpa using e1
   subst e'
   refine ⟨.pointer (some a'), w, m, ?_, .refl hR, ?_⟩
   ·simp only [builtin, Sem.run_bind, Lib.run_unsafeSliceData_row w ts ty a' (n + 1) c' (by omega), Result.andThen_ok, Sem.run_pure]
   ·rcases hd with hd | ⟨pl, d1, d2, -⟩
    ·omega
    ·rw [d2]; exact .ptr b 0 pl d1
  ·cases h
 case unsafeString =>
  have hts : ts.size = 2 := by
   have hl : ts.toList.length = ts.size := Array.length_toList
   unfold aunsafeString at h
   split at h
   ·rename_i e; rw [e] at hl; simpa using hl.symm
   ·rename_i e; rw [e] at hl; simpa using hl.symm
   ·cases h
  obtain ⟨v', w1, m1, g1, g2, g3⟩ := aunsafeString_run (P := P) (ty := ty) hR hts h ha
  exact ⟨v', w1, m1, by simp [builtin, g1], g2, g3⟩

theorem liesAt_self {P : Program} {e : TypeId} (hc : P.cellsOf e ≠ 0) (count : Nat) (hn : 1 ≤ count) : liesAt P P.depth e count 0 e 1 = true := by
 have hd : P.depth = (2 * (P.types.size + Made.depth) + 1) + 1 := rfl
 rw [hd]
 simp only [liesAt, Bool.or_eq_true]
 left
 rw [hd]
 simp [rowAt, hc, hn, sameLayout]
theorem info_of_size {P : Program} {t : TypeId} {n : Nat} (h : sizeOf? P t = some n) : ∃ j, P.info? t = some j ∧ j.size = n := by
 obtain ⟨j, a, b⟩ := Option.map_eq_some_iff.1 h
 exact ⟨j, a, b⟩

theorem aunsafe_run {P : Program} {m : Mp} {H H1 : AH} {w : World} (hR : Rel m H w) {src dst : TypeId} {x x' v : Value} (h : aunsafe P src dst x H = some (v, H1)) (hx : VR m x x') :
  ∃ v', (convert src dst x').run P w = .ok v' w ∧ VR m v v' ∧ H1 = H := by
 unfold aunsafe at h
 split at h
 ·rename_i t b hs hd
  split at h
  ·rename_i c cs sz ty n hg hsz
   simp only [Option.some.injEq, Prod.mk.injEq] at h
   obtain ⟨rfl, rfl⟩ := h
   have hx' := hx
   obtain ⟨pl, hb, -, e⟩ := hx.ptr_inv
   obtain ⟨h0, arr, lo, hi, e4, hle, hcs⟩ := own_obj hR hb hg
   rw [h0] at e
   subst e
   refine ⟨_, ?_, hx', rfl⟩
   obtain ⟨j, hj, hjs⟩ := info_of_size hsz
   simp only [Nat.add_zero]
   exact Lib.run_to_unsafe w ⟨pl.blk, 0, none⟩ hs hd hj (by omega) (e := ty) (cells := arr.size) (by simp [World.shape?, e4]) (by simp only [List.length_cons] at hle; simp only; omega)
  ·cases h
 ·rename_i u b hs hd
  split at h
  ·rename_i c sz ty n hg hsz
   split at h
   ·rename_i hc
    simp only [Option.some.injEq, Prod.mk.injEq] at h
    obtain ⟨rfl, rfl⟩ := h
    obtain ⟨rfl, hlen⟩ := hc
    have hx' := hx
    obtain ⟨pl, hb, -, e⟩ := hx.ptr_inv
    obtain ⟨h0, arr, lo, hi, e4, hle, hcs⟩ := own_obj hR hb hg
    rw [h0] at e
    subst e
    refine ⟨_, ?_, hx', rfl⟩
    obtain ⟨j, hj, hjs⟩ := info_of_size hsz
    have hco : P.cellsOf ty = n + 1 := by simp [Program.cellsOf, hj, hjs]
    simp only [Nat.add_zero]
    exact Lib.run_from_unsafe w ⟨pl.blk, 0, none⟩ hs hd hj (e := ty) (cells := arr.size) (by simp [World.shape?, e4]) (liesAt_self (by omega) _ (by rw [hco]; exact Nat.div_pos (by omega) (by omega)))
   ·cases h
  ·cases h
 ·cases h

theorem atrunc_stp {m : Mp} {H : AH} {w : World} (hR : Rel m H w) (args : List Value) : Stp m H w m (atrunc args H) w := by
 unfold atrunc
 split
 ·rename_i b len n r
  split
  ·rename_i c sz ty hg
   split
   ·rename_i hlt
    cases hb : m b with
    | none =>
     refine ⟨⟨hR.dom, hR.blk, fun k pl hk => ?_, fun k k' p p' hk hk' hne ho hd => ?_, fun k arr hk => ⟨(hR.fro k arr hk).1, fun ⟨b', pl, a, c', d⟩ => (hR.fro k arr hk).2 ⟨b', pl, a, ?_, d⟩⟩⟩, Nat.le_refl _, fun _ _ => rfl, Nat.le_refl _, fun _ _ _ => rfl, fun k ⟨b', pl, a, c', d⟩ => .inl ⟨b', pl, a, ?_, d⟩, fun k ⟨b', pl, a, c', d⟩ => .inl ⟨b', pl, a, ?_, d⟩, rfl, rfl, rfl, fun k l hl => ⟨l, hl, rfl⟩, fun _ _ h => h, fun _ _ h => .inl h⟩
     ·rw [AH.get_set, if_neg (by rintro rfl; rw [hb] at hk; cases hk)]; exact hR.obj k pl hk
     ·rw [AH.get_set, if_neg (by rintro rfl; rw [hb] at hk; cases hk)] at ho
      rw [AH.get_set, if_neg (by rintro rfl; rw [hb] at hk'; cases hk')] at hd
      exact hR.apart k k' p p' hk hk' hne ho hd
     ·rw [AH.get_set, if_neg (by rintro rfl; rw [hb] at a; cases a)] at c'; exact c'
     ·rw [AH.get_set, if_neg (by rintro rfl; rw [hb] at a; cases a)] at c'; exact c'
     ·rw [AH.get_set, if_neg (by rintro rfl; rw [hb] at a; cases a)] at c'; exact c'
    | some pl =>
     have ho := hR.obj b pl hb
     rw [hg] at ho
     obtain ⟨h1, h2, h3⟩ := ho
     obtain ⟨h4, h5, arr, lo, hi, h6, h7, h8⟩ := h3 rfl
     refine Stp.put hR b pl _ hb (by rw [hg]; rfl) (.inr trivial) rfl (fun _ _ => rfl) rfl rfl rfl ⟨fun i hi' => ?_, h2, fun _ => ⟨h4, by simp; omega, arr, lo, hi, h6, h7, h8⟩⟩ fun l hl => ⟨l, hl, rfl⟩
     have hi2 : i < c.length := by simp at hi'; omega
     obtain ⟨v', a, b'⟩ := h1 i hi2
     exact ⟨v', a, by simpa using b'⟩
   ·exact .refl hR
  ·exact .refl hR
 ·exact .refl hR

theorem aappendZ_run {P : Program} {m : Mp} {H H1 : AH} {w : World} (hR : Rel m H w) (hz0 : ∀ t z, zero? P t = some z → z.cells.toList.all flat1 = true) {ts : Array TypeId} {ty : TypeId} {args : List Value} {args' : Array Value} {v : Value} (h : aappendZ P ts.toList args H = some (v, H1)) (ha : VRL m args args'.toList) :
  ∃ v' w1 m1, (Builtin.append_ ts ty args').run P w = .ok v' w1 ∧ Stp m H w m1 H1 w1 ∧ VR m1 v v' := by
 unfold aappendZ at h
 split at h
 ·rename_i t u tr n ar hts
  split at h
  ·rename_i e k hd hud
   split at h
   ·rename_i size by_ z hs hb hz
    split at h
    ·rename_i hc
     obtain ⟨c1, c2, c3, c4, c5⟩ := hc
     simp only [Option.some.injEq, Prod.mk.injEq] at h
     obtain ⟨rfl, rfl⟩ := h
     obtain ⟨s', r', he1, hs', hr'⟩ := ha.cases
     obtain ⟨x', r'', he2, hx', -⟩ := hr'.cases
     subst he2
     rw [hs'.flat1_eq rfl, hx'.int_inv] at he1
     have a0 : args'[0]? = some (.slice none 0 0) := by rw [← Array.getElem?_toList, he1]; rfl
     have a1 : args'[1]? = some (.int .i64 n) := by rw [← Array.getElem?_toList, he1]; rfl
     have t0 : ts[0]? = some t := by rw [← Array.getElem?_toList, hts]; rfl
     have t1 : ts[1]? = some u := by rw [← Array.getElem?_toList, hts]; rfl
     obtain ⟨cap, hcap, hch⟩ := choose_cap (P := P) n.toNat 0 e w c3
     have hR1 := (Stp.drawn hR).rel
     obtain ⟨i, hi1, hi2⟩ := bytes_of hb w
     obtain ⟨j, hj1, hj2⟩ := bytes_of hb { w with drawn := w.drawn + 1 }
     have hnc : Builtin.nextslicecap n.toNat 0 = n.toNat := by unfold Builtin.nextslicecap; rw [if_pos (by omega)]
     have hi63 : (IntKind.i64.max : Int) = 9223372036854775807 := rfl
     have hwr : IntKind.i64.wrap n = n := wrap_small (by omega) (by omega)
     have hmul : ¬ n * (i.bytes : Int) > 2 ^ 48 := by
      rw [hi2]
      have : n * (by_ : Int) = ((n.toNat * by_ : Nat) : Int) := by rw [Int.natCast_mul]; congr 1; omega
      omega
     have hz1 : z.cells.size ≠ 0 := by omega
     have hzc : (Builtin.zeroCells z.cells n.toNat).toList = repeatCells z.cells.toList n.toNat := zeros_toList z.cells hz1 n.toNat
     have hvr : VRL m (repeatCells z.cells.toList n.toNat) (Builtin.zeroCells z.cells n.toNat).toList := by
      rw [hzc]; exact .refl_flat (repeat_flat _ (hz0 _ _ hz) _)
     obtain ⟨w1, m1, g1, g2, g3⟩ := grown_block (P := P) hR1 (c := []) (old' := #[]) (.nil m) hvr (Builtin.zeroCells z.cells (cap - n.toNat)) e size n.toNat cap (by simp [repeat_len, c5]) (by rw [zeroCells_eq, c5]) hcap
     refine ⟨_, w1, m1, ?_, (Stp.drawn hR).trans (by simpa using g2), g3⟩
     have hn0 : ¬ n.toNat ≤ 0 := by omega
     have hns : ¬ n.toNat * size = 0 := by
      intro q; rcases Nat.mul_eq_zero.1 q with q | q <;> omega
     simp only [Builtin.append_, t0, a0, a1, t1, Sem.run_bind, run_underlying' hd, Result.andThen_ok, run_sizeOf' hs]
     rw [run_underlying' hud]
     simp only [Result.andThen_ok, Sem.run_pure, if_true, asInt, asIntOf, Sem.run_bind, hwr, if_neg (show ¬ n < 0 by omega), hi1, if_neg hmul, Nat.zero_add, hn0, if_false]
     have hneed : ¬ ((n.toNat : Nat) : Int) > IntKind.i64.max := by omega
     have hro : ¬ Builtin.nextslicecap n.toNat 0 * i.bytes > 2 ^ 48 := by rw [hnc, hi2]; omega
     simp only [Array.empty_append] at g1
     simp only [hneed, false_and, if_false, hi1, hro, Sem.run_pure, Result.andThen_ok, hch, hj1, run_askRoom, Builtin.firstCells, hns, run_zeroValue' hz, Sem.run_bind, Array.empty_append, Bool.not_true, Bool.false_eq_true, g1]
    ·cases h
   ·cases h
  ·cases h
 ·cases h

theorem pureRun_bind {α β : Type} {P : Program} (s : Sem α) (f : α → Sem β) : pureRun P (s >>= f) = (pureRun P s).bind fun a => pureRun P (f a) := by
 show pureRun P (Sem.bind s f) = _
 induction s with
 | pure a => rfl
 | program k ih => simp only [Sem.bind, pureRun]; exact ih P
 | mark m k ih => simp only [Sem.bind, pureRun]; exact ih
 | _ => rfl
def Keys (l l' : List MapEntry) : Prop := l.map (·.key) = l'.map (·.key)
def At (l' : List MapEntry) (i : Nat) (r r' : Option (Nat × Value)) : Prop :=
 match r with
 | none => r' = none
 | some (j, _) => i ≤ j ∧ ∃ e, l'[j - i]? = some e ∧ r' = some (j, e.val)
theorem At.succ {e : MapEntry} {l' : List MapEntry} {i : Nat} {r r' : Option (Nat × Value)} (h : At l' (i + 1) r r') : At (e :: l') i r r' := by
 cases r with
 | none => exact h
 | some p =>
  obtain ⟨j, v⟩ := p
  obtain ⟨h1, e', h2, h3⟩ := h
  refine ⟨by omega, e', ?_, h3⟩
  rw [show j - i = (j - (i + 1)) + 1 by omega, List.getElem?_cons_succ]; exact h2
theorem findNow_keys {kind : TypeDesc} {k : Value} : ∀ (l l' : List MapEntry) (i : Nat), Keys l l' →
  (Instr.findNow kind k l i = none → Instr.findNow kind k l' i = none) ∧ ∀ r, Instr.findNow kind k l i = some r → ∃ r', Instr.findNow kind k l' i = some r' ∧ At l' i r r' := by
 intro l
 induction l with
 | nil =>
  intro l' i h
  cases l' with
  | nil => exact ⟨fun h => h, fun r h => ⟨none, rfl, by simp only [Instr.findNow, Option.some.injEq] at h; subst h; rfl⟩⟩
  | cons e r => simp [Keys] at h
 | cons e l ih =>
  intro l' i h
  cases l' with
  | nil => simp [Keys] at h
  | cons e' l' =>
   simp only [Keys, List.map_cons, List.cons.injEq] at h
   obtain ⟨hk, hl⟩ := h
   obtain ⟨i1, i2⟩ := ih l' (i + 1) hl
   simp only [Instr.findNow, ← hk]
   cases hs : Instr.sameNow kind k e.key with
   | none => simp
   | some b =>
    cases b with
    | true => exact ⟨fun h => (by cases h), fun r h => ⟨_, rfl, by simp only [Option.some.injEq] at h; subst h; exact ⟨Nat.le_refl _, e', by simp, rfl⟩⟩⟩
    | false => exact ⟨i1, fun r h => by obtain ⟨r', h1, h2⟩ := i2 r h; exact ⟨r', h1, h2.succ⟩⟩
theorem findAsking_keys {P : Program} {kt : TypeId} {k : Value} : ∀ (l l' : List MapEntry) (i : Nat), Keys l l' →
  ∀ r, pureRun P (Instr.findAsking kt k l i) = some r → ∃ r', pureRun P (Instr.findAsking kt k l' i) = some r' ∧ At l' i r r' := by
 intro l
 induction l with
 | nil =>
  intro l' i h r hr
  cases l' with
  | nil => exact ⟨none, rfl, by simp only [Instr.findAsking] at hr; have := (Option.some.inj hr).symm; subst this; rfl⟩
  | cons e r => simp [Keys] at h
 | cons e l ih =>
  intro l' i h r hr
  cases l' with
  | nil => simp [Keys] at h
  | cons e' l' =>
   simp only [Keys, List.map_cons, List.cons.injEq] at h
   obtain ⟨hk, hl⟩ := h
   simp only [Instr.findAsking, ← hk] at hr ⊢
   rw [pureRun_bind] at hr ⊢
   obtain ⟨b, hb, hr⟩ := Option.bind_eq_some_iff.1 hr
   rw [hb, Option.bind_some]
   cases b with
   | true =>
    have := (Option.some.inj (show some (some (i, e.val)) = some r from hr)).symm
    subst this
    exact ⟨some (i, e'.val), rfl, Nat.le_refl _, e', by simp, rfl⟩
   | false =>
    obtain ⟨r', h1, h2⟩ := ih l' (i + 1) hl r hr
    exact ⟨r', h1, h2.succ⟩
theorem findKey_keys {P : Program} {kt : TypeId} {k : Value} {l l' : List MapEntry} (h : Keys l l') {r : Option (Nat × Value)} (hr : pureRun P (Instr.findKey kt k l) = some r) :
  ∃ r', pureRun P (Instr.findKey kt k l') = some r' ∧ At l' 0 r r' := by
 unfold Instr.findKey at hr ⊢
 rw [pureRun_bind] at hr ⊢
 obtain ⟨kind, hk, hr⟩ := Option.bind_eq_some_iff.1 hr
 rw [hk, Option.bind_some]
 obtain ⟨i1, i2⟩ := findNow_keys (kind := kind) (k := k) l l' 0 h
 cases hf : Instr.findNow kind k l 0 with
 | none =>
  rw [hf] at hr
  rw [i1 hf]
  exact findAsking_keys l l' 0 h r hr
 | some q =>
  rw [hf] at hr
  obtain ⟨r', h1, h2⟩ := i2 q hf
  rw [h1]
  have := Option.some.inj (show some q = some r from hr)
  subst this
  exact ⟨r', rfl, h2⟩
theorem keys_of {m : Mp} {es : List (Value × Value)} {es' : List MapEntry} (hf : (es.all fun e => flat e.1) = true) (h : VRL m (es.map (·.1)) (es'.map (·.key))) : Keys (entriesOf es) es' := by
 unfold Keys entriesOf
 rw [List.map_map]
 have hl := h.1
 simp only [List.length_map] at hl
 apply List.ext_getElem
 ·simpa using hl
 ·intro i h1 h2
  have a := h.2 i (by simpa using h1) h2
  rw [List.all_eq_true] at hf
  have b := a.flat_eq (by simpa using hf _ (List.getElem_mem (by simpa using h1)))
  simpa using b.symm
theorem zero_vr {P : Program} {m : Mp} {t : TypeId} {z : Value} (h : zero? P t = some z) : VR m z z := by
 have hz := (zero_zeroI h).1
 cases z with
 | agg cs => exact .agg cs cs rfl fun i h h' => .flat _ (by rw [List.all_eq_true] at hz; exact hz _ (by simp [Value.cells]))
 | _ => exact .flat _ (by simpa [Value.cells] using hz)
theorem amakeMap_run {P : Program} {m : Mp} {H H1 : AH} {w : World} (hR : Rel m H w) {t : TypeId} {r r' : Option Value} {v : Value} (h : amakeMap P t r H = some (v, H1)) (hr : optVR m r r') :
  ∃ v' w1 m1, (Instr.makeMap t r').run P w = .ok v' w1 ∧ Stp m H w m1 H1 w1 ∧ VR m1 v v' := by
 have key : Stp m H w (upd m H.next ⟨w.heap.size, 0, 0, 0⟩) (H.push (.map [])) { w with heap := w.heap.push (.map #[] 0) } :=
  Stp.alloc hR _ (.map #[] 0) _ rfl rfl rfl rfl rfl ⟨#[], 0, by simp, .nil _, .nil _, rfl, fun i e h => by simp at h⟩
 unfold amakeMap at h
 split at h
 ·simp only [Option.some.injEq, Prod.mk.injEq] at h
  obtain ⟨rfl, rfl⟩ := h
  rw [hr.2 rfl]
  exact ⟨.map (some w.heap.size), _, _, by simp [Instr.makeMap], key, .map H.next _ (upd_self _ _ _)⟩
 ·rename_i v0
  split at h
  ·rename_i hu
   simp only [Option.some.injEq, Prod.mk.injEq] at h
   obtain ⟨rfl, rfl⟩ := h
   obtain ⟨v1, e, hv⟩ := hr.1 _ rfl
   rw [e, hv.int_inv]
   exact ⟨.map (some w.heap.size), _, _, by simp [Instr.makeMap, run_underlying' hu, asInt, asIntOf], key, .map H.next _ (upd_self _ _ _)⟩
  ·cases h
theorem amapOf_run {m : Mp} {H : AH} {w : World} (hR : Rel m H w) {x x' : Value} {es : List (Value × Value)} (h : amapOf x H = some es) (hx : VR m x x') :
  ∃ es' : Array MapEntry, ((x' = .map none ∧ es' = #[]) ∨ ∃ k c, x' = .map (some k) ∧ w.heap[k]? = some (.map es' c)) ∧
   VRL m (es.map (·.1)) (es'.toList.map (·.key)) ∧ VRL m (es.map (·.2)) (es'.toList.map (·.val)) := by
 unfold amapOf at h
 split at h
 ·cases h
  exact ⟨#[], .inl ⟨hx.flat1_eq rfl, rfl⟩, .nil _, .nil _⟩
 ·rename_i r
  obtain ⟨pl, hb, rfl⟩ := hx.map_inv
  split at h
  ·rename_i es0 hg
   cases h
   have ho := hR.obj r pl hb
   rw [hg] at ho
   obtain ⟨es', clock, h1, h2, h3, -⟩ := ho
   exact ⟨es', .inr ⟨_, clock, rfl, h1⟩, h2, h3⟩
  ·cases h
 ·cases h
theorem lookup_at {P : Program} {w : World} {t kt vt : TypeId} {x' k' : Value} {ok : Bool} {es' : Array MapEntry} (hu : P.underlying t = some (.map kt vt))
  (hx : (x' = .map none ∧ es' = #[]) ∨ ∃ k c, x' = .map (some k) ∧ w.heap[k]? = some (.map es' c)) {a : Unit} (hc : pureRun P (Instr.checkKey es'.isEmpty 10000 kt k') = some a)
  {r' : Option (Nat × Value)} (hr : pureRun P (Instr.findKey kt k' es'.toList) = some r') {v : Value} (hv : (∃ i, r' = some (i, v)) ∨ r' = none ∧ ∀ w, (zeroValue vt).run P w = .ok v w) :
  (Instr.lookup t x' k' ok).run P w = .ok (if ok then .tuple #[v, .bool r'.isSome] else v) w := by
 unfold Instr.lookup
 have hc' := pureRun_run hc w
 have hr' := pureRun_run hr w
 rcases hx with ⟨rfl, rfl⟩ | ⟨k, c, rfl, hk⟩
 ·simp only [Sem.run_bind, run_underlying' hu, Result.andThen_ok, Sem.run_pure, hc', hr']
  rcases hv with ⟨i, rfl⟩ | ⟨rfl, hz⟩
  ·simp only [Sem.run_pure, Result.andThen_ok]; rfl
  ·simp only [Sem.run_bind, hz, Sem.run_pure, Result.andThen_ok]; rfl
 ·simp only [Sem.run_bind, run_underlying' hu, Result.andThen_ok, Sem.run_pure, getObj, Sem.run, hk, hc', hr']
  rcases hv with ⟨i, rfl⟩ | ⟨rfl, hz⟩
  ·simp only [Sem.run_pure, Result.andThen_ok]; rfl
  ·simp only [Sem.run_bind, hz, Sem.run_pure, Result.andThen_ok]; rfl
theorem alookup_run {P : Program} {m : Mp} {H : AH} {w : World} (hR : Rel m H w) {t : TypeId} {ok : Bool} {x x' k k' v : Value} (h : alookup P t x k ok H = some v) (hx : VR m x x') (hk : VR m k k') :
  ∃ v', (Instr.lookup t x' k' ok).run P w = .ok v' w ∧ VR m v v' := by
 unfold alookup at h
 split at h
 ·rename_i kt vt hu
  split at h
  ·rename_i es hes
   obtain ⟨es', hrun, hks, hvs⟩ := amapOf_run hR hes hx
   split at h
   ·rename_i hfl
    obtain ⟨hf1, hf2⟩ := hfl
    have hke := hk.flat_eq hf1
    subst hke
    have hemp : es'.isEmpty = es.isEmpty := by
     have := hks.1
     simp only [List.length_map, Array.length_toList] at this
     rw [Bool.eq_iff_iff, Array.isEmpty_iff_size_eq_zero, List.isEmpty_iff_length_eq_zero, this]
    split at h
    ·rename_i i v0 hc hf
     obtain ⟨e, he, rfl⟩ := Option.map_eq_some_iff.1 h
     obtain ⟨r', hr', ha⟩ := findKey_keys (keys_of hf2 hks) hf
     obtain ⟨-, e', he', rfl⟩ := ha
     rw [Nat.sub_zero] at he'
     have hv : VR m e.2 e'.val := by
      have hi : i < es.length := (List.getElem?_eq_some_iff.1 he).1
      have hi' : i < es'.toList.length := (List.getElem?_eq_some_iff.1 he').1
      have := hvs.2 i (by simpa using hi) (by simpa using hi')
      rw [List.getElem_map, List.getElem_map, (List.getElem?_eq_some_iff.1 he).2, (List.getElem?_eq_some_iff.1 he').2] at this
      exact this
     rw [← hemp] at hc
     refine ⟨_, lookup_at hu hrun hc hr' (.inl ⟨i, rfl⟩), ?_⟩
     cases ok
     ·exact hv
     ·exact VR.of_vrl_tuple (.cons hv (.cons (.flat _ rfl) (.nil _)))
    ·rename_i hc hf
     obtain ⟨z, hz, rfl⟩ := Option.map_eq_some_iff.1 h
     obtain ⟨r', hr', ha⟩ := findKey_keys (keys_of hf2 hks) hf
     have ha : r' = none := ha
     subst ha
     have hv : VR m z z := zero_vr hz
     rw [← hemp] at hc
     refine ⟨_, lookup_at hu hrun hc hr' (.inr ⟨rfl, fun w => run_zeroValue' hz w⟩), ?_⟩
     cases ok
     ·exact hv
     ·exact VR.of_vrl_tuple (.cons hv (.cons (.flat _ rfl) (.nil _)))
    ·cases h
   ·cases h
  ·cases h
 ·cases h
def Births (es' : Array MapEntry) : Prop := ∀ (i : Nat) (e : MapEntry), es'[i]? = some e → e.born = i
theorem Births.modify {es' : Array MapEntry} (h : Births es') (i : Nat) (f : MapEntry → MapEntry) (hf : ∀ e, (f e).born = e.born) : Births (es'.modify i f) := by
 intro j e he
 rw [Array.getElem?_modify] at he
 split at he
 ·obtain ⟨e0, h0, rfl⟩ := Option.map_eq_some_iff.1 he
  rw [hf]; exact h j e0 h0
 ·exact h j e he
theorem Births.push {es' : Array MapEntry} (h : Births es') {e : MapEntry} (he : e.born = es'.size) : Births (es'.push e) := by
 intro j x hx
 rw [Array.getElem?_push] at hx
 split at hx
 ·cases hx; omega
 ·exact h j x hx
theorem map_put {m : Mp} {H : AH} {w : World} (hR : Rel m H w) {r : Nat} {pl : Pl} (hb : m r = some pl) {es : List (Value × Value)} (hg : H.get r = .map es) {es' : Array MapEntry} {clock : Nat} (h1 : w.heap[pl.blk]? = some (.map es' clock))
  (es1 : List (Value × Value)) (es2 : Array MapEntry) (a : VRL m (es1.map (·.1)) (es2.toList.map (·.key))) (b : VRL m (es1.map (·.2)) (es2.toList.map (·.val))) (c : Births es2) :
  Stp m H w m (H.set r (.map es1)) { w with heap := w.heap.setIfInBounds pl.blk (.map es2 es2.size) } :=
 Stp.put hR r pl (.map es1) hb (by rw [hg]; rfl) (.inr trivial) (by simp) (fun q hq => by simp only; rw [Array.getElem?_setIfInBounds_ne (fun e => hq e.symm)]) rfl rfl rfl ⟨es2, _, by simp [hR.blk r pl hb], a, b, rfl, c⟩
  fun l hl => by rw [h1] at hl; cases hl
theorem vrl_modify {m : Mp} {es : List (Value × Value)} {es' : Array MapEntry} {g : Value × Value → Value} {f : MapEntry → Value} (h : VRL m (es.map g) (es'.toList.map f)) (i : Nat) (y : Value × Value) (q : MapEntry → MapEntry) (hq : ∀ (hi : i < es'.size), VR m (g y) (f (q es'[i]))) :
  VRL m ((es.set i y).map g) ((es'.modify i q).toList.map f) := by
 refine ⟨?_, fun j a b => ?_⟩
 ·have := h.1; simp only [List.length_map, Array.length_toList] at this; simp [this]
 ·simp only [List.getElem_map, List.getElem_set, Array.getElem_toList, Array.getElem_modify]
  by_cases e : i = j
  ·subst e; simp only [if_pos]; exact hq _
  ·rw [if_neg e, if_neg e]
   have := h.2 j (by simpa using a) (by simpa using b)
   simpa using this
theorem key_same {es : List (Value × Value)} {es' : List MapEntry} (h : Keys (entriesOf es) es') {i : Nat} {e : Value × Value} {e' : MapEntry} (he : es[i]? = some e) (he' : es'[i]? = some e') : e'.key = e.1 := by
 unfold Keys entriesOf at h
 rw [List.map_map] at h
 have h2 := congrArg (·[i]?) h
 simp only [List.getElem?_map, he, he', Option.map_some, Function.comp] at h2
 exact (Option.some.inj h2).symm
theorem val_same {m : Mp} {es : List (Value × Value)} {es' : List MapEntry} (h : VRL m (es.map (·.2)) (es'.map (·.val))) {i : Nat} {e : Value × Value} {e' : MapEntry} (he : es[i]? = some e) (he' : es'[i]? = some e') : VR m e.2 e'.val := by
 have hi : i < es.length := (List.getElem?_eq_some_iff.1 he).1
 have hi' : i < es'.length := (List.getElem?_eq_some_iff.1 he').1
 have := h.2 i (by simpa using hi) (by simpa using hi')
 rw [List.getElem_map, List.getElem_map, (List.getElem?_eq_some_iff.1 he).2, (List.getElem?_eq_some_iff.1 he').2] at this
 exact this
theorem amapUpdate_run {P : Program} {m : Mp} {H H1 : AH} {w : World} (hR : Rel m H w) {t : TypeId} {x x' k k' v v' : Value} (h : amapUpdate P t x k v H = some H1) (hx : VR m x x') (hk : VR m k k') (hv : VR m v v') :
  ∃ w1, (Instr.mapUpdate t x' k' v').run P w = .ok () w1 ∧ Stp m H w m H1 w1 := by
 unfold amapUpdate at h
 split at h
 ·rename_i kt vt r hu
  obtain ⟨pl, hb, rfl⟩ := hx.map_inv
  split at h
  ·rename_i es hg
   have ho := hR.obj r pl hb
   rw [hg] at ho
   obtain ⟨es', clock, h1, hks, hvs, rfl, hbo⟩ := ho
   replace hbo : Births es' := hbo
   split at h
   ·rename_i hfl
    obtain ⟨hf1, hf2⟩ := hfl
    have hke := hk.flat_eq hf1
    subst hke
    split at h
    ·rename_i i v0 hc hf
     obtain ⟨r', hr', ha⟩ := findKey_keys (keys_of hf2 hks) hf
     obtain ⟨-, e', he', rfl⟩ := ha
     rw [Nat.sub_zero] at he'
     split at h
     ·rename_i e he
      split at h
      ·rename_i hsb
       simp only [Option.some.injEq] at h
       subst h
       have hkk := key_same (keys_of hf2 hks) he he'
       have he2 : es'[i]? = some e' := by rw [← Array.getElem?_toList]; exact he'
       have st := map_put hR hb hg h1 (es.set i (k', v)) (es'.modify i fun q => { q with key := k', val := v' }) (vrl_modify hks i _ _ fun _ => hk) (vrl_modify hvs i _ _ fun _ => hv) (hbo.modify i _ fun _ => rfl)
       rw [Array.size_modify] at st
       refine ⟨_, ?_, st⟩
       unfold Instr.mapUpdate
       simp only [Sem.run_bind, run_underlying' hu, Result.andThen_ok, getObj, Sem.run, h1, pureRun_run hc, pureRun_run hr', he2, Option.map_some, Option.getD_some, Instr.keyThatStays, hkk, hsb, if_pos, Sem.run_pure, setObj]
      ·cases h
     ·cases h
    ·rename_i hc hf
     simp only [Option.some.injEq] at h
     subst h
     obtain ⟨r', hr', ha⟩ := findKey_keys (keys_of hf2 hks) hf
     have ha : r' = none := ha
     subst ha
     have st := map_put hR hb hg h1 (es ++ [(k', v)]) (es'.push { key := k', val := v', born := es'.size }) (by simp only [List.map_append, Array.toList_push]; exact hks.append (.cons hk (.nil _))) (by simp only [List.map_append, Array.toList_push]; exact hvs.append (.cons hv (.nil _))) (hbo.push rfl)
     rw [Array.size_push] at st
     refine ⟨_, ?_, st⟩
     unfold Instr.mapUpdate
     simp only [Sem.run_bind, run_underlying' hu, Result.andThen_ok, getObj, Sem.run, h1, pureRun_run hc, pureRun_run hr', Sem.run_pure, setObj]
    ·cases h
   ·cases h
  ·cases h
 ·cases h
theorem amapEntry_run {P : Program} {m : Mp} {H H1 : AH} {w : World} (hR : Rel m H w) {t : TypeId} {x x' k k' v : Value} (h : amapEntry P t x k H = some (v, H1)) (hx : VR m x x') (hk : VR m k k') :
  ∃ v' w1, (Instr.mapEntry t x' k').run P w = .ok v' w1 ∧ Stp m H w m H1 w1 ∧ VR m v v' := by
 unfold amapEntry at h
 split at h
 ·rename_i kt vt r hu
  obtain ⟨pl, hb, rfl⟩ := hx.map_inv
  split at h
  ·rename_i es hg
   have ho := hR.obj r pl hb
   rw [hg] at ho
   obtain ⟨es', clock, h1, hks, hvs, rfl, hbo⟩ := ho
   replace hbo : Births es' := hbo
   split at h
   ·rename_i hfl
    obtain ⟨hf1, hf2⟩ := hfl
    have hke := hk.flat_eq hf1
    subst hke
    split at h
    ·rename_i i v0 hc hf
     obtain ⟨r', hr', ha⟩ := findKey_keys (keys_of hf2 hks) hf
     obtain ⟨-, e', he', rfl⟩ := ha
     rw [Nat.sub_zero] at he'
     split at h
     ·rename_i e he
      split at h
      ·rename_i hsb
       simp only [Option.some.injEq, Prod.mk.injEq] at h
       obtain ⟨rfl, rfl⟩ := h
       have hkk := key_same (keys_of hf2 hks) he he'
       have hvv := val_same hvs he he'
       have he2 : es'[i]? = some e' := by rw [← Array.getElem?_toList]; exact he'
       have st := map_put hR hb hg h1 (es.set i (k', e.2)) (es'.modify i fun q => { q with key := k' }) (vrl_modify hks i _ _ fun _ => hk) (vrl_modify hvs i _ _ fun hi => by
        have : es'[i] = e' := by rw [Array.getElem?_eq_getElem hi] at he2; exact Option.some.inj he2
        rw [this]; exact hvv) (hbo.modify i _ fun _ => rfl)
       rw [Array.size_modify] at st
       refine ⟨.tuple #[e'.val, .int .i64 (i : Nat)], _, ?_, st, VR.of_vrl_tuple (.cons hvv (.cons (.flat _ rfl) (.nil _)))⟩
       unfold Instr.mapEntry
       simp only [Sem.run_bind, run_underlying' hu, Result.andThen_ok, getObj, Sem.run, h1, pureRun_run hc, pureRun_run hr', he2, Option.map_some, Option.getD_some, Instr.keyThatStays, hkk, hsb, if_pos, Sem.run_pure, setObj, hbo i e' he2, goInt]
      ·cases h
     ·cases h
    ·rename_i hc hf
     obtain ⟨z, hz, he⟩ := Option.map_eq_some_iff.1 h
     simp only [Prod.mk.injEq] at he
     obtain ⟨rfl, rfl⟩ := he
     obtain ⟨r', hr', ha⟩ := findKey_keys (keys_of hf2 hks) hf
     have ha : r' = none := ha
     subst ha
     have hl : es.length = es'.size := by have := hks.1; simpa using this
     have st := map_put hR hb hg h1 (es ++ [(k', z)]) (es'.push { key := k', val := z, born := es'.size }) (by simp only [List.map_append, Array.toList_push]; exact hks.append (.cons hk (.nil _))) (by simp only [List.map_append, Array.toList_push]; exact hvs.append (.cons (zero_vr hz) (.nil _))) (hbo.push rfl)
     rw [Array.size_push] at st
     refine ⟨.tuple #[z, .int .i64 es'.size], _, ?_, st, by rw [hl]; exact VR.of_vrl_tuple (.cons (zero_vr hz) (.cons (.flat _ rfl) (.nil _)))⟩
     unfold Instr.mapEntry
     simp only [Sem.run_bind, run_underlying' hu, Result.andThen_ok, getObj, Sem.run, h1, pureRun_run hc, pureRun_run hr', Sem.run_pure, setObj, run_zeroValue' hz, goInt]
    ·cases h
   ·cases h
  ·cases h
 ·cases h
theorem aentryStore_run {P : Program} {m : Mp} {H H1 : AH} {w : World} (hR : Rel m H w) {t : TypeId} {x x' k k' v v' : Value} (h : aentryStore x k v H = some H1) (hx : VR m x x') (hk : VR m k k') (hv : VR m v v') :
  ∃ w1, (Instr.entryStore t x' k' v').run P w = .ok () w1 ∧ Stp m H w m H1 w1 := by
 unfold aentryStore at h
 split at h
 ·rename_i r kk n
  obtain ⟨pl, hb, rfl⟩ := hx.map_inv
  rw [hk.int_inv]
  split at h
  ·rename_i es hg
   have ho := hR.obj r pl hb
   rw [hg] at ho
   obtain ⟨es', clock, h1, hks, hvs, rfl, hbo⟩ := ho
   replace hbo : Births es' := hbo
   split at h
   ·rename_i hn
    split at h
    ·rename_i e he
     simp only [Option.some.injEq] at h
     subst h
     have hl : es.length = es'.size := by have := hks.1; simpa using this
     have hi : n.toNat < es'.size := by rw [← hl]; exact (List.getElem?_eq_some_iff.1 he).1
     have hfind : es'.findIdx? (fun e => (e.born : Int) == n) = some n.toNat := by
      rw [Array.findIdx?_eq_some_iff_getElem]
      refine ⟨hi, ?_, fun j hj => ?_⟩
      ·rw [hbo n.toNat _ (Array.getElem?_eq_getElem hi)]; simp; omega
      ·rw [hbo j _ (Array.getElem?_eq_getElem (by omega))]; simp; omega
     have st := map_put hR hb hg h1 (es.set n.toNat (e.1, v)) (es'.modify n.toNat fun q => { q with val := v' }) (vrl_modify hks n.toNat _ _ fun _ => by
       have := hks.2 n.toNat (by simpa [hl] using hi) (by simpa using hi)
       rw [List.getElem_map, List.getElem_map, (List.getElem?_eq_some_iff.1 he).2, Array.getElem_toList] at this
       exact this) (vrl_modify hvs n.toNat _ _ fun _ => hv) (hbo.modify _ _ fun _ => rfl)
     rw [Array.size_modify] at st
     refine ⟨_, ?_, st⟩
     unfold Instr.entryStore
     simp only [Sem.run_bind, Result.andThen_ok, getObj, Sem.run, h1, asInt, asIntOf, Sem.run_pure, hfind, setObj]
    ·cases h
   ·cases h
  ·cases h
 ·cases h
end Go.AM
