/- AM's operations that write, and calls: each stands to the model's. -/

import Derived.Test.YtgpligmjbecbjaaGreatDoorAmOps
set_option linter.unusedVariables false
set_option linter.unusedSimpArgs false
set_option linter.unusedSectionVars false
namespace Go.AM
open Go

theorem Stp.congr {m : Mp} {H : AH} {w : World} {m1 : Mp} {H1 H1' : AH} {w1 : World} (h : Stp m H w m1 H1 w1) (hg : ∀ k, H1'.get k = H1.get k) (hn : H1'.next = H1.next) : Stp m H w m1 H1' w1 :=
 ⟨⟨fun b pl hb => by rw [hn]; exact h.rel.dom b pl hb, h.rel.blk, fun b pl hb => by rw [hg]; exact h.rel.obj b pl hb, fun b b' p p' a c d e f => h.rel.apart b b' p p' a c d (by rw [← hg]; exact e) (by rw [← hg]; exact f),
  fun k arr hk => ⟨(h.rel.fro k arr hk).1, fun ⟨b, pl, a, c, d⟩ => (h.rel.fro k arr hk).2 ⟨b, pl, a, by rw [← hg]; exact c, d⟩⟩⟩,
  by rw [hn]; exact h.next, h.old, h.size, h.frame, fun k ⟨b, pl, a, c, d⟩ => h.grow k ⟨b, pl, a, by rw [← hg]; exact c, d⟩, fun k ⟨b, pl, a, c, d⟩ => h.seen k ⟨b, pl, a, by rw [← hg]; exact c, d⟩, h.os, h.tape, h.output, h.loops, h.fle, h.fgrow⟩

theorem Stp.rename {m : Mp} {H : AH} {w : World} (hR : Rel m H w) (b : Nat) (pl : Pl) (hb : m b = some pl) (hown : isOwn (H.get b) = true) : Stp m H w (upd m H.next pl) ((H.set b .dead).push (H.get b)) w := by
 have hbn : b < H.next := hR.dom b pl hb
 have hget : ∀ k, ((H.set b .dead).push (H.get b)).get k = if k = H.next then H.get b else if k = b then .dead else H.get k := fun k => by
  rw [AH.get_push, AH.next_set, AH.get_set]; by_cases h1 : k = H.next
  ·rw [if_pos h1.symm, if_pos h1]
  ·rw [if_neg (fun e => h1 e.symm), if_neg h1]
   by_cases h2 : k = b
   ·rw [if_pos h2.symm, if_pos h2]
   ·rw [if_neg (fun e => h2 e.symm), if_neg h2]
 have hfro : ∀ k arr, m.fro k = some arr → (∃ ty fr, w.heap[k]? = some (.cells arr ty fr)) ∧ ¬ Owned (upd m H.next pl) ((H.set b .dead).push (H.get b)) k := fun k arr hk => by
  obtain ⟨h1, hno⟩ := hR.fro k arr hk; refine ⟨h1, ?_⟩
  rintro ⟨b', p, hb', ho, he⟩
  rw [hget] at ho; by_cases e : b' = H.next
  ·subst e; rw [upd_self] at hb'; cases hb'
   exact hno ⟨b, pl, hb, hown, he⟩
  ·rw [upd_other e] at hb'
   rw [if_neg e] at ho; split at ho
   ·simp [isOwn] at ho
   ·exact hno ⟨b', p, hb', ho, he⟩
 refine ⟨⟨?_, ?_, ?_, ?_, hfro⟩, by simp, fun k hk => upd_other (Nat.ne_of_lt hk), Nat.le_refl _, fun _ _ _ => rfl, ?_, ?_, rfl, rfl, rfl, fun k l hl => ⟨l, hl, rfl⟩, fun _ _ h => h, fun _ _ h => .inl h⟩
 ·intro k p hk
  by_cases e : k = H.next
  ·simp [e]
  ·rw [upd_other e] at hk
   have := hR.dom k p hk; simp; omega
 ·intro k p hk
  by_cases e : k = H.next
  ·subst e; rw [upd_self] at hk; cases hk; exact hR.blk b pl hb
  ·rw [upd_other e] at hk; exact hR.blk k p hk
 ·intro k p hk
  rw [hget]; by_cases e : k = H.next
  ·subst e; rw [upd_self] at hk; cases hk
   rw [if_pos rfl]; exact (hR.obj b pl hb).mono (hR.upd_le pl) rfl
  ·rw [upd_other e] at hk
   rw [if_neg e]; split
   ·trivial
   ·exact (hR.obj k p hk).mono (hR.upd_le pl) rfl
 ·intro k k' p p' hk hk' hne ho hd
  rw [hget] at ho hd; by_cases e : k = H.next
  ·subst e; rw [upd_self] at hk; cases hk
   have e' : k' ≠ H.next := fun e' => hne e'.symm
   rw [upd_other e'] at hk'; rw [if_neg e'] at hd; split at hd
   ·exact absurd rfl hd
   ·rename_i h2
    exact hR.apart b k' pl p' hb hk' (Ne.symm h2) hown hd
  ·rw [upd_other e] at hk
   rw [if_neg e] at ho; split at ho
   ·simp [isOwn] at ho
   ·rename_i h2
    by_cases e' : k' = H.next
    ·subst e'; rw [upd_self] at hk'; cases hk'
     exact hR.apart k b p pl hk hb h2 ho (by intro h; rw [h] at hown; simp [isOwn] at hown)
    ·rw [upd_other e'] at hk'
     rw [if_neg e'] at hd; split at hd
     ·exact absurd rfl hd
     ·exact hR.apart k k' p p' hk hk' hne ho hd
 ·rintro k ⟨b', p, hb', ho, rfl⟩
  rw [hget] at ho; by_cases e : b' = H.next
  ·subst e; rw [upd_self] at hb'; cases hb'
   exact .inl ⟨b, pl, hb, hown, rfl⟩
  ·rw [upd_other e] at hb'
   rw [if_neg e] at ho; split at ho
   ·simp [isOwn] at ho
   ·exact .inl ⟨b', p, hb', ho, rfl⟩
 ·rintro k ⟨b', p, hb', ho, rfl⟩
  rw [hget] at ho; by_cases e : b' = H.next
  ·subst e; rw [upd_self] at hb'; cases hb'
   exact .inl ⟨b, pl, hb, (by intro h; rw [h] at hown; simp [isOwn] at hown), rfl⟩
  ·rw [upd_other e] at hb'
   rw [if_neg e] at ho; split at ho
   ·exact absurd rfl ho
   ·exact .inl ⟨b', p, hb', ho, rfl⟩

theorem afirst_run {P : Program} {m : Mp} {H : AH} {w : World} (hR : Rel m H w) {size n : Nat} {x x' : Value} {new : List Value} (h : afirst size n x H = some new) (hx : VR m x x') (hn : ∀ k, alenOf x = some k → n ≤ k) :
  ∃ new' : Array Value, (Builtin.firstCells size n x').run P w = .ok new' w ∧ VRL m new new'.toList := by
 unfold afirst at h
 split at h
 ·simp only [Option.some.injEq] at h; subst h
  rw [hx.flat1_eq rfl]; exact ⟨#[], rfl, .nil m⟩
 ·rename_i b off len sz
  split at h
  ·rename_i c own sz' ty hg
   split at h
   ·rename_i hle
    simp only [Option.some.injEq] at h; subst h; obtain ⟨a', c', rfl, -, hlc, hd⟩ := hx.slice_inv; have hnl := hn len rfl; rcases hd with hd | ⟨pl, d1, d2, -⟩
    ·have : n = 0 := by omega
     subst this; refine ⟨#[], ?_, by simpa using VRL.nil m⟩; simp [Builtin.firstCells, loadCells, loadCellsFrom]
    ·subst d2
     have ho := hR.obj b pl d1; rw [hg] at ho; obtain ⟨h1, -, -⟩ := ho; obtain ⟨vs, e1, e2, e3⟩ := cells_list h1 off (n * size) hle; refine ⟨vs.toArray, ?_, by simpa using e2⟩; simp only [Builtin.firstCells]; have := run_loadCells' (P := P) vs e3; rw [e1] at this; exact this
   ·cases h
  ·cases h
 ·rename_i s
  split at h
  ·simp only [Option.some.injEq] at h; subst h
   rw [hx.string_inv]; refine ⟨(s.extract 0 n).data.map fun b => .int .u8 b.toNat, by simp [Builtin.firstCells], ?_⟩; simp only [Array.toList_map]; exact .refl_flat (by rw [List.all_eq_true]; intro y hy; obtain ⟨q, -, rfl⟩ := List.mem_map.1 hy; rfl)
  ·cases h
 ·rename_i k s cs y
  split at h
  ·rename_i hle
   simp only [Option.some.injEq] at h; subst h; obtain ⟨a', c', rfl, hlc, hd⟩ := hx.lst_inv; by_cases hz : n * size = 0
   ·rw [hz]
    refine ⟨#[], ?_, by simpa using VRL.nil m⟩; simp [Builtin.firstCells, loadCells, loadCellsFrom, hz]
   ·rcases hd with hd | ⟨arr, d1, d2, d3, d4⟩
    ·omega
    ·obtain ⟨ab, ao, as⟩ := a'
     simp only at d1 d2 d3 d4; subst d2; obtain ⟨vs, e1, e2, e3⟩ := cells_list (pl := ⟨ab, ao, 0, 0⟩) (hR.deep d1 d3 d4) 0 (n * size) (by simpa using hle); refine ⟨vs.toArray, ?_, by simpa using e2⟩; simp only [Builtin.firstCells]; have := run_loadCells' (P := P) vs e3; rw [e1] at this; exact this
  ·cases h
 ·cases h

theorem alen_lenOf {P : Program} {m : Mp} {x x' : Value} {n : Nat} (h : alenOf x = some n) (hx : VR m x x') (w : World) : (Builtin.lenOf x').run P w = .ok n w := by
 unfold alenOf at h
 split at h
 ·rename_i a k c
  simp only [Option.some.injEq] at h; subst h; cases a with
  | none => rw [hx.flat1_eq rfl]; rfl
  | some a =>
   obtain ⟨b, o, s⟩ := a; obtain ⟨a', c', rfl, -⟩ := hx.slice_inv; rfl
 ·simp only [Option.some.injEq] at h; subst h
  obtain ⟨a', c', rfl, -⟩ := hx.lst_inv; rfl
 ·simp only [Option.some.injEq] at h; subst h
  rw [hx.string_inv]; rfl
 ·cases h

theorem choose_cap {P : Program} (need old : Nat) (elem : TypeId) (w : World) (hn : need ≤ 2 ^ 62) : ∃ cap, need ≤ cap ∧ (choose (.appendCap need old elem)).run P w = .ok cap { w with drawn := w.drawn + 1 } :=
 ⟨_, Nat.le_add_right _ _, by simp [Question.forced, Question.cut]; rfl⟩

theorem growBy_le (n : Nat) : ∀ (r c : Nat), c ≤ 2 * n → Builtin.growBy n r c ≤ max (2 * n) (n + (n + 768) / 4) := by
 intro r
 induction r with
 | zero => intro c h; simp only [Builtin.growBy]; omega
 | succ r ih =>
  intro c h; simp only [Builtin.growBy]; split
  ·omega
  ·rename_i hc
   by_cases h2 : c + (c + 768) / 4 ≥ n
   ·cases r with
    | zero => simp only [Builtin.growBy]; omega
    | succ r => simp only [Builtin.growBy]; rw [if_pos (by omega)]; omega
   ·exact ih _ (by omega)
theorem nextcap_le {need old : Nat} (h : old < need) : Builtin.nextslicecap need old ≤ 2 * need := by
 unfold Builtin.nextslicecap
 split
 ·omega
 ·split
  ·omega
  ·have := growBy_le need 4 old (by omega)
   omega

theorem Stp.drawn {m : Mp} {H : AH} {w : World} (hR : Rel m H w) : Stp m H w m H { w with drawn := w.drawn + 1 } := .heap hR rfl rfl rfl rfl

theorem zeroCells_eq (z : Array Value) (n : Nat) : (Builtin.zeroCells z n).size = n * z.size := by simp [Builtin.zeroCells]

theorem grown_block {P : Program} {m : Mp} {H : AH} {w : World} (hR : Rel m H w) {c new : List Value} {old' new' : Array Value} (h1 : VRL m c old'.toList) (h2 : VRL m new new'.toList) (rest : Array Value) (elem : TypeId) (size need cap : Nat)
  (hlen : c.length + new.length = need * size) (hrest : rest.size = (cap - need) * size) (hcap : need ≤ cap) :
  ∃ w1 m1, (newRow elem (old' ++ new' ++ rest)).run P w = .ok ⟨w.heap.size, 0, none⟩ w1 ∧ Stp m H w m1 (H.push (.cells (c ++ new) true size elem)) w1 ∧ VR m1 (.slice (some ⟨H.next, 0, none⟩) need size) (.slice (some ⟨w.heap.size, 0, none⟩) need cap) := by
 have e1 : old'.size = c.length := by simpa using h1.1.symm
 have e2 : new'.size = new.length := by simpa using h2.1.symm
 have hsz : (old' ++ new' ++ rest).size = cap * size := by
  simp only [Array.size_append, e1, e2, hrest, hlen]; rw [← Nat.add_mul]; congr 1; omega
 let w1 : World := { w with heap := w.heap.push (.cells (old' ++ new' ++ rest) elem) }
 have hcell : w1.heap[w.heap.size]? = some (.cells (old' ++ new' ++ rest) elem (0, 0)) := by simp [w1]
 refine ⟨w1, upd m H.next ⟨w.heap.size, 0, cap * size, size⟩, by simp [newRow, w1], ?_, ?_⟩
 ·refine Stp.alloc hR _ (.cells (old' ++ new' ++ rest) elem (0, 0)) _ rfl rfl rfl rfl rfl ⟨fun i hi => ?_, rfl, fun _ => ⟨rfl, ?_, _, 0, 0, hcell, hsz, fun i _ => by omega⟩⟩
  ·have hv := (h1.append h2).2 i hi (by simp at hi ⊢; omega)
   refine ⟨(old'.toList ++ new'.toList)[i]'(by simp at hi ⊢; omega), ?_, hv.mono (hR.upd_le _)⟩; rw [cell_set hcell, ← Array.getElem?_toList]; simp only [Nat.zero_add, Array.toList_append]; rw [List.getElem?_append_left (by simp at hi ⊢; omega), List.getElem?_eq_getElem]
  ·simp only [List.length_append]
   rw [hlen]; exact Nat.mul_le_mul_right _ hcap
 ·have := VR.slice (m := upd m H.next ⟨w.heap.size, 0, cap * size, size⟩) H.next 0 need size ⟨w.heap.size, 0, none⟩ cap hcap ⟨_, upd_self _ _ _, .inr ⟨rfl, fun _ => ⟨rfl, by simp⟩⟩⟩
  exact this

theorem afirst_len {size n : Nat} {x : Value} {H : AH} {new : List Value} (h : afirst size n x H = some new) (hl : alenOf x = some n) : new.length = n * size := by
 unfold afirst at h
 split at h
 ·simp only [Option.some.injEq] at h; subst h
  simp only [alenOf, Option.some.injEq] at hl; subst hl; simp
 ·split at h
  ·split at h
   ·simp only [Option.some.injEq] at h; subst h; simp; omega
   ·cases h
  ·cases h
 ·split at h
  ·rename_i h1
   subst h1; simp only [Option.some.injEq] at h; subst h; simp only [alenOf, Option.some.injEq] at hl; subst hl; simp
  ·cases h
 ·split at h
  ·simp only [Option.some.injEq] at h; subst h; simp; omega
  ·cases h
 ·cases h

theorem append_in {P : Program} {ts : Array TypeId} {ty : TypeId} {args : Array Value} {t u e : TypeId} {ud : TypeDesc} {base : Option Addr} {sLen sCap size n : Nat} {x : Value} {new : Array Value} {w w1 : World} (t0 : ts[0]? = some t) (t1 : ts[1]? = some u)
  (a0 : args[0]? = some (.slice base sLen sCap)) (a1 : args[1]? = some x) (hd : P.underlying t = some (.slice e)) (hud : P.underlying u = some ud) (hnot : (ud matches .int _) = false)
  (hs : sizeOf? P e = some size) (hl : (Builtin.lenOf x).run P w = .ok n w) (hn : sLen + n ≤ sCap) (hf : (Builtin.firstCells size n x).run P w = .ok new w)
  (hst : (match base with | some a => storeCells (a.add (sLen * size)) new.toList | none => pure () : Sem Unit).run P w = .ok () w1) : (Builtin.append_ ts ty args).run P w = .ok (.slice base (sLen + n) sCap) w1 := by
 simp only [Builtin.append_, t0, a0, a1, t1, Sem.run_bind, run_underlying' hd, Result.andThen_ok, run_sizeOf' hs]
 rw [run_underlying' hud]
 cases ud
 all_goals (first | (cases hnot; done) | skip)
 all_goals
  simp only [Result.andThen_ok, Sem.run_pure, Bool.false_eq_true, if_false, hl, hn, if_true, Bool.not_false, Sem.run_bind, hf]; cases base with
  | none => simp only [Sem.run_pure, Result.ok.injEq] at hst; rw [hst.2]; rfl
  | some a => simp only at hst; simp only [hst, Sem.run_bind, Result.andThen_ok, Sem.run_pure]

theorem append_out {P : Program} {ts : Array TypeId} {ty : TypeId} {args : Array Value} {t u e : TypeId} {ud : TypeDesc} {base : Option Addr} {sLen sCap size n cap by_ : Nat} {x z : Value} {old new : Array Value} {w w' w1 : World} {a : Addr} (t0 : ts[0]? = some t) (t1 : ts[1]? = some u)
  (a0 : args[0]? = some (.slice base sLen sCap)) (a1 : args[1]? = some x) (hd : P.underlying t = some (.slice e)) (hud : P.underlying u = some ud) (hnot : (ud matches .int _) = false)
  (hs : sizeOf? P e = some size) (hb : bytesOf? P e = some by_) (hl : (Builtin.lenOf x).run P w = .ok n w) (hn : ¬ sLen + n ≤ sCap) (hsm : sLen + n ≤ 2 ^ 62) (hroom : Builtin.nextslicecap (sLen + n) sCap * by_ ≤ 2 ^ 48)
  (hch : (choose (.appendCap (sLen + n) sCap e)).run P w = .ok cap w') (hfo : (Builtin.firstCells size sLen (.slice base sLen sCap)).run P w' = .ok old w') (hf : (Builtin.firstCells size n x).run P w' = .ok new w')
  (hz : zero? P e = some z) (hnew : (newRow e (old ++ new ++ Builtin.zeroCells z.cells (cap - (sLen + n)))).run P w' = .ok a w1) : (Builtin.append_ ts ty args).run P w = .ok (.slice (some a) (sLen + n) cap) w1 := by
 obtain ⟨i, hi1, hi2⟩ := bytes_of hb w
 obtain ⟨j, hj1, hj2⟩ := bytes_of hb w'
 have hi63 : ¬ ((sLen + n : Nat) : Int) > IntKind.i64.max := by
  have : (IntKind.i64.max : Int) = 9223372036854775807 := rfl; omega
 have hro : ¬ Builtin.nextslicecap (sLen + n) sCap * i.bytes > 2 ^ 48 := by rw [hi2]; omega
 simp only [Builtin.append_, t0, a0, a1, t1, Sem.run_bind, run_underlying' hd, Result.andThen_ok, run_sizeOf' hs]
 rw [run_underlying' hud]
 cases ud
 all_goals (first | (cases hnot; done) | skip)
 all_goals
  simp only [Result.andThen_ok, Sem.run_pure, Bool.false_eq_true, if_false, hl, hn, Bool.not_false, if_true, Sem.run_bind, hi1, hi63, false_and, hro, hch, hj1, run_askRoom, hfo, hf, run_zeroValue' hz, hnew]

theorem aappend_run {P : Program} {m : Mp} {H H1 : AH} {w : World} (hR : Rel m H w) {ts : Array TypeId} {ty : TypeId} {args : List Value} {args' : Array Value} {v : Value} (h : aappend P ts.toList args H = some (v, H1)) (ha : VRL m args args'.toList) :
  ∃ v' w1 m1, (Builtin.append_ ts ty args').run P w = .ok v' w1 ∧ Stp m H w m1 H1 w1 ∧ VR m1 v v' := by
 unfold aappend at h
 split at h
 ·rename_i t u tr s x ar hts
  split at h
  ·rename_i e ud hd hud
   split at h
   ·rename_i size by_ z n hs hb hz hlen hnot
    split at h
    ·cases h
    ·rename_i new hnew
     split at h
     ·rename_i hc
      obtain ⟨c1, c2, c3⟩ := hc; obtain ⟨s', r', he1, hs', hr'⟩ := ha.cases; obtain ⟨x', r'', he2, hx', -⟩ := hr'.cases; subst he2; have a0 : args'[0]? = some s' := by rw [← Array.getElem?_toList, he1]; rfl
      have a1 : args'[1]? = some x' := by rw [← Array.getElem?_toList, he1]; rfl
      have t0 : ts[0]? = some t := by rw [← Array.getElem?_toList, hts]; rfl
      have t1 : ts[1]? = some u := by rw [← Array.getElem?_toList, hts]; rfl
      have hl := fun w => alen_lenOf (P := P) hlen hx' w
      obtain ⟨i, hi1, hi2⟩ := bytes_of hb w; have hbt : ∀ w, ∃ i, (typeInfo e).run P w = .ok i w ∧ i.bytes = by_ := fun w => bytes_of hb w
      have hzr : ∀ w, (zeroValue e).run P w = .ok z w := fun w => run_zeroValue' hz w
      have hnl : new.length = n * size := afirst_len hnew hlen; have hi63 : (IntKind.i64.max : Int) = 9223372036854775807 := rfl; split at h
      ·-- nil
       rw [hs'.flat1_eq rfl] at a0; split at h
       ·rename_i hn0
        simp only [Option.some.injEq, Prod.mk.injEq] at h; obtain ⟨rfl, rfl⟩ := h; subst hn0; obtain ⟨new', f1, f2⟩ := afirst_run (P := P) hR hnew hx' (fun k hk => by rw [hlen] at hk; cases hk; exact Nat.le_refl _); refine ⟨.slice none 0 0, w, m, ?_, .refl hR, .flat _ rfl⟩; exact append_in t0 t1 a0 a1 hd hud hnot hs (hl w) (by omega) f1 rfl
       ·rename_i hn0
        split at h
        ·rename_i hbd
         simp only [Option.some.injEq, Prod.mk.injEq] at h; obtain ⟨rfl, rfl⟩ := h; obtain ⟨cap, hcap, hch⟩ := choose_cap (P := P) n 0 e w hbd.2; have hR1 := (Stp.drawn hR).rel; obtain ⟨new', f1, f2⟩ := afirst_run (P := P) hR1 hnew hx' (fun k hk => by rw [hlen] at hk; cases hk; exact Nat.le_refl _); obtain ⟨w1, m1, g1, g2, g3⟩ := grown_block (P := P) hR1 (c := []) (old' := #[]) (.nil m) f2 (Builtin.zeroCells z.cells (cap - n)) e size n cap (by simp [hnl]) (by rw [zeroCells_eq, c3]) hcap; refine ⟨_, w1, m1, ?_, (Stp.drawn hR).trans (by simpa using g2), g3⟩
         have hnc : Builtin.nextslicecap n 0 = n := by unfold Builtin.nextslicecap; rw [if_pos (by omega)]
         have := append_out (P := P) (ty := ty) (w := w) t0 t1 a0 a1 hd hud hnot hs hb (hl w) (by omega) (by omega) (by rw [Nat.zero_add, hnc]; omega) (by rw [Nat.zero_add]; exact hch) (old := #[]) rfl f1 hz (by rw [Nat.zero_add]; exact g1); rw [Nat.zero_add] at this; exact this
        ·cases h
      ·rename_i b len sz'
       split at h
       ·rename_i c sz0 ty' hg
        split at h
        ·rename_i hcc
         obtain ⟨rfl, rfl, rfl, hcl⟩ := hcc; obtain ⟨a', c', rfl, -, hlc, hd'⟩ := hs'.slice_inv; split at h
         ·rename_i hn0
          simp only [Option.some.injEq, Prod.mk.injEq] at h; obtain ⟨rfl, rfl⟩ := h; subst hn0; obtain ⟨new', f1, f2⟩ := afirst_run (P := P) hR hnew hx' (fun k hk => by rw [hlen] at hk; cases hk; exact Nat.le_refl _); have hn' : new'.toList = [] := by
           have := f2.1; rw [hnl] at this; simpa using this.symm
          refine ⟨.slice (some a') len c', w, m, ?_, .refl hR, hs'⟩; refine append_in t0 t1 a0 a1 hd hud hnot hs (hl w) (by omega) f1 ?_; simp [hn', storeCells]
         ·rename_i hn0
          split at h
          ·rename_i hbd
           simp only [Option.some.injEq, Prod.mk.injEq] at h; obtain ⟨rfl, rfl⟩ := h; by_cases hin : len + n ≤ c'
           ·-- in place
            rcases hd' with hd' | ⟨pl, d1, d2, d3⟩
            ·omega
            ·subst d2
             have ho := hR.obj b pl d1; rw [hg] at ho; obtain ⟨o1, o2, o3⟩ := ho; obtain ⟨p0, p1, arr, lo, hi, p2, p3, p4⟩ := o3 rfl; obtain ⟨q1, q2⟩ := d3 c2; have hmul : (len + n) * sz' ≤ c' * sz' := Nat.mul_le_mul_right _ hin; rw [Nat.add_mul] at hmul; obtain ⟨new', f1, f2⟩ := afirst_run (P := P) hR hnew hx' (fun k hk => by rw [hlen] at hk; cases hk; exact Nat.le_refl _); have hnl' : new'.toList.length = n * sz' := by rw [← f2.1]; exact hnl
             obtain ⟨w1, r1, r2, r3, r4, r5⟩ := run_storeCells' (P := P) (o := len * sz') new'.toList 0 arr w p2 (by omega) (f2.one_all c1) (fun k a b => p4 k (by omega)); have hbl : pl.blk < w.heap.size := hR.blk b pl d1; have hnewb : w1.heap[pl.blk]? = some (.cells (spliceA arr (len * sz') new'.toList) ty' (lo, hi)) := by rw [r2]; simp [hbl]
             have hput : Stp m H w m (H.set b (.cells (c ++ new) true sz' ty')) w1 := by
              refine Stp.put hR b pl _ d1 (by rw [hg]; rfl) (.inr trivial) (by rw [r2]; simp) (fun k hk => by rw [r2, Array.getElem?_setIfInBounds_ne (by omega)]) r3 r4 r5 ⟨fun i hi' => ?_, o2, fun _ => ⟨p0, ?_, _, lo, hi, hnewb, by rw [spliceA_size]; exact p3, p4⟩⟩ ?_
              ·rw [List.length_append] at hi'
               rw [cell_set hnewb, p0, Nat.zero_add, spliceA_get _ _ _ _ (by omega)]; by_cases hlt : i < c.length
               ·rw [dif_neg (by omega)]
                obtain ⟨v', a1', a2'⟩ := o1 i hlt; rw [cell_set p2, p0, Nat.zero_add] at a1'; exact ⟨v', a1', by rw [List.getElem_append_left hlt]; exact a2'⟩
               ·rw [dif_pos (by omega)]
                refine ⟨_, rfl, ?_⟩; rw [List.getElem_append_right (by omega)]; have := f2.2 (i - c.length) (by omega) (by omega); simpa [hcl] using this
              ·rw [List.length_append]; omega
              ·intro l hl'; rw [p2] at hl'; cases hl'
             have hR2 := hput.rel; have hren := Stp.rename hR2 b pl d1 (by rw [AH.get_set, if_pos rfl]; rfl); refine ⟨.slice (some ⟨pl.blk, pl.off + 0, none⟩) (len + n) c', w1, _, ?_, (hput.trans hren).congr (fun k => ?_) (by simp), ?_⟩
             ·refine append_in t0 t1 a0 a1 hd hud hnot hs (hl w) hin f1 ?_
              simp only [add_none, p0, Nat.zero_add]; exact r1
             ·simp only [AH.get_push, AH.next_set, AH.get_set]
              by_cases h1 : H.next = k
              ·simp [h1]
              ·by_cases h2 : b = k
               ·simp [h1, h2]
               ·simp [h1, h2]
             ·exact .slice _ _ _ _ _ _ hin ⟨pl, upd_self _ _ _, .inr ⟨by simp, fun _ => ⟨q1, by omega⟩⟩⟩
           ·-- a new block
            have hR0 := (Stp.kill hR b); obtain ⟨cap, hcap, hch⟩ := choose_cap (P := P) (len + n) c' ty' w hbd.2; have hR1 := (Stp.drawn hR).rel; obtain ⟨new', f1, f2⟩ := afirst_run (P := P) hR1 hnew hx' (fun k hk => by rw [hlen] at hk; cases hk; exact Nat.le_refl _); have hold : ∃ old' : Array Value, (Builtin.firstCells sz' len (.slice (some a') len c')).run P { w with drawn := w.drawn + 1 } = .ok old' { w with drawn := w.drawn + 1 } ∧ VRL m c old'.toList := by
             obtain ⟨o', u1, u2⟩ := afirst_run (P := P) (x := .slice (some ⟨b, 0, none⟩) len sz') hR1 (size := sz') (n := len) (new := c) (by
              unfold afirst; simp only [hg]; rw [if_pos (by omega)]; rw [List.drop_zero, List.take_of_length_le (by omega)]) hs' (fun k hk => by simp only [alenOf, Option.some.injEq] at hk; omega)
             exact ⟨o', u1, u2⟩
            obtain ⟨old', u1, u2⟩ := hold; have hk1 := Stp.kill hR1 b; obtain ⟨w1, m1, g1, g2, g3⟩ := grown_block (P := P) hk1.rel (c := c) u2 f2 (Builtin.zeroCells z.cells (cap - (len + n))) ty' sz' (len + n) cap (by rw [hcl, hnl, Nat.add_mul]) (by rw [zeroCells_eq, c3]) hcap; have htye : True := trivial; refine ⟨_, w1, m1, ?_, ((Stp.drawn hR).trans hk1).trans g2, g3⟩; have hnc := nextcap_le (need := len + n) (old := c') (by omega); have hnb : Builtin.nextslicecap (len + n) c' * by_ ≤ 2 ^ 48 := by
             have h1 : Builtin.nextslicecap (len + n) c' * by_ ≤ (2 * (len + n)) * by_ := Nat.mul_le_mul_right _ hnc; have h2 : (2 * (len + n)) * by_ = 2 * ((len + n) * by_) := by rw [Nat.mul_assoc]
             omega
            exact append_out (w := w) t0 t1 a0 a1 hd hud hnot hs hb (hl w) hin hbd.2 hnb hch u1 f1 hz g1
          ·cases h
        ·cases h
       ·cases h
      ·cases h
     ·cases h
   ·cases h
  ·cases h
 ·cases h

end Go.AM
