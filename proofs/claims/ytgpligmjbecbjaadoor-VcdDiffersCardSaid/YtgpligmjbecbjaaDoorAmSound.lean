/- AM's operations, all of them. -/

import Derived.Test.YtgpligmjbecbjaaDoorAmExt
set_option linter.unusedVariables false
set_option linter.unusedSimpArgs false
set_option linter.unusedSectionVars false
namespace Go.AM
open Go

def NxRel (P : Program) (m : Mp) (H : AH) (w : World) (s : Sem Next) : ANx → Prop
 | .val v H1 => ∃ v' w1 m1, s.run P w = .ok (.value v') w1 ∧ Stp m H w m1 H1 w1 ∧ VR m1 v v'
 | .skip H1 => ∃ w1 m1, s.run P w = .ok .skip w1 ∧ Stp m H w m1 H1 w1
 | .call f args => ∃ args' : Array Value, s.run P w = (callFunc f args').run P w ∧ VRL m args args'.toList
 | .yld l args => ∃ (pl : Pl) (args' : Array Value), m l = some pl ∧ s.run P w = (Instr.yield pl.blk args').run P w ∧ VRL m args args'.toList

theorem afirst_len' {size n : Nat} {x : Value} {H : AH} {new : List Value} (h : afirst size n x H = some new) (hl : ∀ k, alenOf x = some k → n ≤ k) : new.length = n * size := by
 unfold afirst at h
 split at h
 ·simp only [Option.some.injEq] at h; subst h
  have := hl 0 rfl
  have : n = 0 := by omega
  subst this; simp
 ·split at h
  ·split at h
   ·simp only [Option.some.injEq] at h; subst h; simp; omega
   ·cases h
  ·cases h
 ·rename_i s
  split at h
  ·rename_i h1
   subst h1
   simp only [Option.some.injEq] at h; subst h
   have := hl s.size rfl
   have e : s.data.size = s.size := rfl
   simp [ByteArray.data_extract]; omega
  ·cases h
 ·split at h
  ·simp only [Option.some.injEq] at h; subst h; simp; omega
  ·cases h
 ·cases h

theorem bytes_flat : ∀ (vs : List Value) (l : List UInt8), vs.mapM byteOf? = some l → vs.all flat1 = true := by
 intro vs
 induction vs with
 | nil => intro l _; rfl
 | cons v r ih =>
  intro l h
  simp only [List.mapM_cons, Option.bind_eq_bind, Option.bind_eq_some_iff, Option.pure_def, Option.some.injEq] at h
  obtain ⟨b, hb, bs, hbs, -⟩ := h
  simp only [List.all_cons, ih _ hbs, Bool.and_true]
  unfold byteOf? at hb
  split at hb
  ·rfl
  ·cases hb

theorem bytesToString_run {P : Program} {w : World} {a : Addr} {len c : Nat} {vs : List Value} {l : List UInt8} (hload : (loadCells a len).run P w = .ok vs.toArray w) (h : vs.mapM byteOf? = some l) :
  (Conv.bytesToString (.slice (some a) len c)).run P w = .ok (.string ⟨l.toArray⟩) w := by
 have key : ∀ (vs : List Value) (l : List UInt8) (acc : ByteArray), vs.mapM byteOf? = some l →
   (forIn vs acc (fun c (r : ByteArray) => (match c with | .int .u8 n => pure (ForInStep.yield (r.push (UInt8.ofNat n.toNat))) | _ => do (stuck "bytesToString: byte expected" : Sem PUnit); pure (ForInStep.yield r) : Sem (ForInStep ByteArray)))).run P w = .ok ⟨acc.data ++ l.toArray⟩ w := by
  intro vs
  induction vs with
  | nil => intro l acc h; simp at h; subst h; simp
  | cons v r ih =>
   intro l acc h
   simp only [List.mapM_cons, Option.bind_eq_bind, Option.bind_eq_some_iff, Option.pure_def, Option.some.injEq] at h
   obtain ⟨b, hb, bs, hbs, rfl⟩ := h
   unfold byteOf? at hb
   split at hb
   ·rename_i n
    split at hb
    rotate_left
    ·cases hb
    simp only [Option.some.injEq] at hb; subst hb
    simp only [List.forIn_cons, Sem.run_bind, Sem.run_pure, Result.andThen_ok]
    rw [ih _ _ hbs]
    simp [ByteArray.push]
   ·cases hb
 simp only [Conv.bytesToString, Sem.run_bind, hload, Result.andThen_ok, List.forIn_toArray]
 refine (congrArg (fun q : Result ByteArray => q.andThen fun a w' => Sem.run P (pure (Value.string a)) w') (key vs l ByteArray.empty h)).trans ?_
 simp
theorem alen_map_run {P : Program} {m : Mp} {H : AH} {w : World} (hR : Rel m H w) {ts : Array TypeId} {ty : TypeId} {args : List Value} {args' : Array Value} {v : Value} (h : alen P ts.toList args H = some v) (ha : VRL m args args'.toList) :
  ∃ v', (Builtin.len_ ts ty args').run P w = .ok v' w ∧ VR m v v' := by
 by_cases hm : ∃ k e t r, ts.toList = t :: r ∧ P.underlying t = some (.map k e)
 ·obtain ⟨k, e, t, r, hts, hu⟩ := hm
  unfold alen at h
  rw [hts] at h
  cases args with
  | nil => simp at h
  | cons x ar =>
   obtain ⟨x', r', he1, hx, hr⟩ := ha.cases
   have a0 : args'[0]? = some x' := by rw [← Array.getElem?_toList, he1]; rfl
   have t0 : ts[0]? = some t := by rw [← Array.getElem?_toList, hts]; rfl
   simp only [hu] at h
   split at h
   ·rename_i q; cases q
   ·rename_i q; cases q
   ·rename_i q; cases q
   ·rename_i q; cases q
   ·rename_i q; cases q
   ·simp only [Option.some.injEq] at h; subst h
    rw [hx.flat1_eq rfl] at a0
    exact ⟨_, by simp [Builtin.len_, t0, a0, run_underlying' hu, goInt], .flat _ rfl⟩
   ·rename_i b q
    split at h
    ·rename_i es hg
     simp only [Option.some.injEq] at h; subst h
     obtain ⟨pl, hb, rfl⟩ := hx.map_inv
     have ho := hR.obj b pl hb
     rw [hg] at ho
     obtain ⟨es', clock, h1, h2, h3⟩ := ho
     have hl : es.length = es'.size := by have := h2.1; simpa using this
     refine ⟨.int .i64 es'.size, ?_, by rw [hl]; exact .flat _ rfl⟩
     simp [Builtin.len_, t0, a0, run_underlying' hu, goInt, getObj, Sem.run, h1]
    ·cases h
   ·cases h
 ·have := alen_run (P := P) (args' := args'.toList) h ha (fun k e t r h1 h2 => hm ⟨k, e, t, r, h1, h2⟩)
  obtain ⟨v', h1, h2⟩ := this
  refine ⟨v', ?_, h2⟩
  have := h1 w
  simpa [Builtin.len_] using this

theorem acopy_run {P : Program} {m : Mp} {H H1 : AH} {w : World} (hR : Rel m H w) {ts : Array TypeId} {ty : TypeId} {args : List Value} {args' : Array Value} {v : Value} (h : acopy P ts.toList args H = some (v, H1)) (ha : VRL m args args'.toList) :
  ∃ v' w1 m1, (Builtin.copy_ ts ty args').run P w = .ok v' w1 ∧ Stp m H w m1 H1 w1 ∧ VR m1 v v' := by
 unfold acopy at h
 split at h
 ·rename_i t tr d x ar hts
  split at h
  ·rename_i e hd
   split at h
   ·rename_i size n hs hlen
    obtain ⟨d', r', he1, hd', hr'⟩ := ha.cases
    obtain ⟨x', r'', he2, hx', -⟩ := hr'.cases
    subst he2
    have a0 : args'[0]? = some d' := by rw [← Array.getElem?_toList, he1]; rfl
    have a1 : args'[1]? = some x' := by rw [← Array.getElem?_toList, he1]; rfl
    have t0 : ts[0]? = some t := by rw [← Array.getElem?_toList, hts]; rfl
    have hl := fun w => alen_lenOf (P := P) hlen hx' w
    split at h
    ·split at h
     ·rename_i new hnew
      simp only [Option.some.injEq, Prod.mk.injEq] at h
      obtain ⟨rfl, rfl⟩ := h
      rw [hd'.flat1_eq rfl] at a0
      obtain ⟨new', f1, f2⟩ := afirst_run (P := P) hR hnew hx' (fun k hk => Nat.le_trans (Nat.min_le_right _ _) (Nat.zero_le _))
      refine ⟨.int .i64 0, w, m, ?_, .refl hR, .flat _ rfl⟩
      have e0 : n.min 0 = 0 := Nat.min_eq_right (Nat.zero_le _)
      simp only [Nat.min_zero] at f1
      simp only [Builtin.copy_, t0, a0, a1, Sem.run_bind, run_underlying' hd, Result.andThen_ok, hl, run_sizeOf' hs, e0, f1, Sem.run_pure, goInt]
      rfl
     ·cases h
    ·rename_i b off dl sz
     split at h
     ·rename_i new c sz' ty' hnew hg
      split at h
      ·rename_i hc
       simp only [Option.some.injEq, Prod.mk.injEq] at h
       obtain ⟨rfl, rfl⟩ := h
       obtain ⟨a', c', rfl, -, hlc, hdd⟩ := hd'.slice_inv
       obtain ⟨new', f1, f2⟩ := afirst_run (P := P) hR hnew hx' (fun k hk => by rw [hlen] at hk; cases hk; exact Nat.min_le_left _ _)
       have hnl := afirst_len' hnew
       rcases hdd with hdd | ⟨pl, d1, d2, d3⟩
       ·have hz : dl = 0 := by omega
        subst hz
        have hn0 : new = [] := by
         have := hnl (fun k hk => by rw [hlen] at hk; cases hk; exact Nat.min_le_left _ _)
         simpa using this
        subst hn0
        have hn' : new'.toList = [] := f2.nil_cases
        refine ⟨.int .i64 0, w, m, ?_, (Stp.refl hR).congr (fun k => ?_) rfl, by simp; exact .flat _ rfl⟩
        ·simp only [Nat.min_zero] at f1
         have e0 : n.min 0 = 0 := Nat.min_eq_right (Nat.zero_le _)
         simp only [Builtin.copy_, t0, a0, a1, Sem.run_bind, run_underlying' hd, Result.andThen_ok, hl, run_sizeOf' hs, e0, f1, hn', storeCells, Sem.run_pure, goInt]
         rfl
        ·rw [AH.get_set]
         split
         ·rename_i e; subst e; rw [hg]; simp [splice]
         ·rfl
       ·subst d2
        obtain ⟨w1, r1, r2⟩ := own_store (P := P) hR d1 hg f2 hc.1 hc.2
        refine ⟨_, w1, m, ?_, r2, .flat _ rfl⟩
        simp only [Builtin.copy_, t0, a0, a1, Sem.run_bind, run_underlying' hd, Result.andThen_ok, hl, run_sizeOf' hs]
        have e1 : n.min dl = min n dl := rfl
        rw [e1, f1]
        simp only [Result.andThen_ok, Sem.run_bind, r1, Sem.run_pure, goInt]
      ·cases h
     ·cases h
    ·cases h
   ·cases h
  ·cases h
 ·cases h

theorem aconvert_run {P : Program} {m : Mp} {H H1 : AH} {w : World} (hR : Rel m H w) {src dst : TypeId} {x x' v : Value} (h : aconvert P src dst x H = some (v, H1)) (hx : VR m x x') :
  ∃ v' w1 m1, (convert src dst x').run P w = .ok v' w1 ∧ Stp m H w m1 H1 w1 ∧ VR m1 v v' := by
 unfold aconvert at h
 split at h
 ·rename_i e s hs hd
  split at h
  ·rename_i he hsz
   split at h
   ·rename_i hle
    simp only [Option.some.injEq, Prod.mk.injEq] at h
    obtain ⟨rfl, rfl⟩ := h
    rw [hx.string_inv]
    obtain ⟨cap, hcap, hch⟩ := choose_cap (P := P) s.size 0 e w (by omega)
    have hR1 := (Stp.drawn hR).rel
    let arr : Array Value := (s.data.map fun b => Value.int .u8 b.toNat) ++ Array.replicate (cap - s.size) (.int .u8 0)
    have hsz : arr.size = cap := by simp only [arr, Array.size_append, Array.size_map, Array.size_replicate]; have : s.data.size = s.size := rfl; omega
    let w0 : World := { w with drawn := w.drawn + 1, heap := w.heap.push (.cells arr e) }
    have hw0 : w0.heap[w.heap.size]? = some (.cells arr e (0, 0)) := by simp [w0]
    let w1 : World := w0.freeze { block := w.heap.size, off := arr.size } 1
    have hw1 : w1.heap = w.heap.push (.cells arr e (arr.size, arr.size + 1)) := by
     simp only [w1, World.freeze]
     apply Array.ext_getElem?
     intro i
     simp only [w0]
     by_cases hi : i = w.heap.size
     ·subst hi
      rw [if_neg (by decide)]
      rw [Array.getElem?_modify, if_pos rfl]; simp
     ·simp [Array.getElem?_modify, Array.getElem?_push, hi, Ne.symm hi]
    refine ⟨.slice (some ⟨w.heap.size, 0, none⟩) s.size cap, w1, upd m H.next ⟨w.heap.size, 0, cap, 1⟩, ?_, (Stp.drawn hR).trans ?_, ?_⟩
    ·simp only [convert, Sem.run_bind, run_underlying' hs, run_underlying' hd, Result.andThen_ok, run_underlying' he, Conv.stringToBytes, hch, newRow, run_newObj, Sem.run_pure, markStringish, run_shape, World.shape?]
     simp [w1, w0, arr]
    ·have hcell : w1.heap[w.heap.size]? = some (.cells arr e (arr.size, arr.size + 1)) := by rw [hw1]; simp
     refine Stp.alloc hR1 _ (.cells arr e (arr.size, arr.size + 1)) _ rfl hw1 rfl rfl rfl ⟨fun i hi => ?_, rfl, fun _ => ⟨rfl, ?_, arr, _, _, hcell, hsz, fun i (hi : i < cap) => by omega⟩⟩
     ·rw [cell_set hcell]
      simp only [List.length_map, Array.length_toList] at hi
      refine ⟨.int .u8 (s.data[i]'hi).toNat, ?_, ?_⟩
      ·simp only [Nat.zero_add, arr]
       rw [Array.getElem?_append_left (by simpa using hi), Array.getElem?_map, Array.getElem?_eq_getElem hi]
       rfl
      ·simp only [List.getElem_map, Array.getElem_toList]
       exact .flat _ rfl
     ·simp only [List.length_map, Array.length_toList]; exact hcap
    ·exact .slice _ _ _ _ _ _ hcap ⟨_, upd_self _ _ _, .inr ⟨rfl, fun _ => ⟨rfl, by simp⟩⟩⟩
   ·cases h
  ·cases h
 ·rename_i e b off len sz hs hd
  split at h
  ·rename_i c own sz' ty' he hg
   split at h
   ·rename_i hle
    obtain ⟨l, hl, h⟩ := Option.map_eq_some_iff.1 h
    simp only [Prod.mk.injEq] at h
    obtain ⟨rfl, rfl⟩ := h
    obtain ⟨a', c', rfl, -, hlc, hdd⟩ := hx.slice_inv
    have hload : ∃ vs : List Value, (loadCells a' len).run P w = .ok vs.toArray w ∧ VRL m ((c.drop off).take len) vs := by
     rcases hdd with hdd | ⟨pl, d1, d2, d3⟩
     ·have : len = 0 := by omega
      subst this
      exact ⟨[], by simp [loadCells, loadCellsFrom], by simpa using VRL.nil m⟩
     ·subst d2
      have ho := hR.obj b pl d1
      rw [hg] at ho
      obtain ⟨vs, e1, e2, e3⟩ := cells_list ho.1 off len hle
      have := run_loadCells' (P := P) vs e3
      rw [e1] at this
      exact ⟨vs, this, e2⟩
    obtain ⟨vs, e1, e2⟩ := hload
    have hflat : vs = (c.drop off).take len := e2.flat_eq (bytes_flat _ l hl)
    refine ⟨.string ⟨l.toArray⟩, w, m, ?_, .refl hR, .flat _ rfl⟩
    simp only [convert, Sem.run_bind, run_underlying' hs, run_underlying' hd, Result.andThen_ok, run_underlying' he]
    exact bytesToString_run e1 (by rw [hflat]; exact hl)
   ·cases h
  ·cases h
 ·rename_i e len s' cs y hs hd
  split at h
  ·rename_i he
   split at h
   ·rename_i hle
    obtain ⟨l, hl, h⟩ := Option.map_eq_some_iff.1 h
    simp only [Prod.mk.injEq] at h
    obtain ⟨rfl, rfl⟩ := h
    obtain ⟨a', c', rfl, hlc, hdd⟩ := hx.lst_inv
    have hload : ∃ vs : List Value, (loadCells a' len).run P w = .ok vs.toArray w ∧ VRL m (cs.toList.take len) vs := by
     by_cases hz : len = 0
     ·subst hz
      exact ⟨[], by simp [loadCells, loadCellsFrom], by simpa using VRL.nil m⟩
     ·have hcs : cs.toList.length = cs.size := Array.length_toList
      rcases hdd with hdd | ⟨arr, d1, d2, d3, d4⟩
      ·exact absurd (Nat.le_zero.1 (hdd ▸ hle)) hz
      ·obtain ⟨ab, ao, as⟩ := a'
       simp only at d1 d2 d3 d4
       subst d2
       obtain ⟨vs, e1, e2, e3⟩ := cells_list (pl := ⟨ab, ao, 0, 0⟩) (hR.deep d1 d3 d4) 0 len (by simpa using hle)
       have := run_loadCells' (P := P) vs e3
       rw [e1] at this
       exact ⟨vs, this, by simpa using e2⟩
    obtain ⟨vs, e1, e2⟩ := hload
    have hflat : vs = cs.toList.take len := e2.flat_eq (bytes_flat _ l hl)
    refine ⟨.string ⟨l.toArray⟩, w, m, ?_, .refl hR, .flat _ rfl⟩
    simp only [convert, Sem.run_bind, run_underlying' hs, run_underlying' hd, Result.andThen_ok, run_underlying' he]
    exact bytesToString_run e1 (by rw [hflat]; exact hl)
   ·cases h
  ·cases h
 ·rename_i h1 h2 h3
  split at h
  ·rename_i hf
   obtain ⟨u, hu, h⟩ := Option.map_eq_some_iff.1 h
   simp only [Prod.mk.injEq] at h
   obtain ⟨rfl, rfl⟩ := h
   rw [hx.flat_eq hf]
   exact ⟨u, w, m, (pureV_run hu).2 w, .refl hR, .flat _ (pureV_run hu).1⟩
  ·obtain ⟨v', g1, g2, g3⟩ := aunsafe_run (P := P) hR h hx
   subst g3
   exact ⟨v', w, m, g1, .refl hR, g2⟩

theorem op_sound {P : Program} (hP : POk P) {m : Mp} {H : AH} {w : World} (hR : Rel m H w) {o : Oper} {ρ ρ' : Operand → Value} {r : ANx} (hρ : ∀ x ∈ o.op.operands, VR m (ρ x) (ρ' x)) (h : aop P o.op o.type ρ H = some r) : NxRel P m H w (execOp ρ' o) r := by
 cases hk : okind P o.op with
 | quiet =>
  obtain ⟨v, rfl, v', h1, h2⟩ := quiet_sound hP hk hρ h
  exact ⟨v', w, m, h1 w, .refl hR, h2⟩
 | alloc =>
  obtain ⟨v, c, sz, ty, rfl, h1⟩ := alloc_sound hP hk hρ h
  exact h1.stp hR
 | load =>
  cases ho : o.op
  all_goals (rw [ho] at hk h; (try (simp only [okind] at hk; cases hk; done)))
  all_goals (try (simp only [okind] at hk; split at hk <;> cases hk; done))
  ·rename_i t x
   unfold execOp; rw [ho] at hρ; simp only [ho]
   simp only [aop] at h
   obtain ⟨u, hu, rfl⟩ := aval_some h
   obtain ⟨v', h1, h2⟩ := aload_run (P := P) hR (hρ x (by simp [Op.operands])) hu
   exact ⟨v', w, m, by simp [h1], .refl hR, h2⟩
  ·rename_i c
   obtain ⟨callee, args, argTypes⟩ := c
   cases callee with
   | value f => simp only [okind] at hk; cases hk
   | invoke f mm => simp only [okind] at hk; cases hk
   | builtin b =>
    cases b
    all_goals (simp only [okind] at hk)
    all_goals (first | (cases hk; done) | (split at hk <;> cases hk))
 | effect =>
  cases ho : o.op
  all_goals (rw [ho] at hk h; (try (simp only [okind] at hk; cases hk; done)))
  all_goals (try (simp only [aop] at h; cases h; done))
  all_goals (unfold execOp; rw [ho] at hρ; simp only [ho])
  case store t a v =>
   simp only [aop] at h
   obtain ⟨H1, hu, rfl⟩ := Option.map_eq_some_iff.1 h
   obtain ⟨w1, h1, h2⟩ := astore_run (P := P) hR (hρ a (by simp [Op.operands])) (hρ v (by simp [Op.operands])) hu
   exact ⟨w1, m, by simp [h1], h2⟩
  case convert s d x =>
   simp only [aop] at h
   obtain ⟨u, H1, hu, rfl⟩ := avalH_some h
   obtain ⟨v', w1, m1, h1, h2, h3⟩ := aconvert_run (P := P) hR hu (hρ x (by simp [Op.operands]))
   exact ⟨v', w1, m1, by simp [h1], h2, h3⟩
  case range t x =>
   simp only [aop] at h
   obtain ⟨u, H1, hu, rfl⟩ := avalH_some h
   obtain ⟨v', w1, m1, h1, h2, h3⟩ := arange_run (P := P) hR hu (hρ x (by simp [Op.operands]))
   exact ⟨v', w1, m1, by simp [h1], h2, h3⟩
  case next x isS =>
   simp only [aop] at h
   obtain ⟨u, H1, hu, rfl⟩ := avalH_some h
   obtain ⟨v', w1, m1, h1, h2, h3⟩ := anext_run (P := P) (ty := o.type) hR hu (hρ x (by simp [Op.operands]))
   exact ⟨v', w1, m1, by simp [h1], h2, h3⟩
  case makeMap t r =>
   simp only [aop] at h
   obtain ⟨u, H1, hu, rfl⟩ := avalH_some h
   obtain ⟨v', w1, m1, h1, h2, h3⟩ := amakeMap_run (P := P) (r' := r.map ρ') hR hu (optVR.of_map fun y hy => hρ y (by subst hy; simp [Op.operands]))
   exact ⟨v', w1, m1, by simp [h1], h2, h3⟩
  case lookup t x k ok =>
   simp only [aop] at h
   obtain ⟨u, hu, rfl⟩ := aval_some h
   obtain ⟨v', h1, h3⟩ := alookup_run (P := P) hR hu (hρ x (by simp [Op.operands])) (hρ k (by simp [Op.operands]))
   exact ⟨v', w, m, by simp [h1], .refl hR, h3⟩
  case mapEntry t x k =>
   simp only [aop] at h
   obtain ⟨u, H1, hu, rfl⟩ := avalH_some h
   obtain ⟨v', w1, h1, h2, h3⟩ := amapEntry_run (P := P) hR hu (hρ x (by simp [Op.operands])) (hρ k (by simp [Op.operands]))
   exact ⟨v', w1, m, by simp [h1], h2, h3⟩
  case entryStore t x k v =>
   simp only [aop] at h
   obtain ⟨H1, hu, rfl⟩ := Option.map_eq_some_iff.1 h
   obtain ⟨w1, h1, h2⟩ := aentryStore_run (P := P) (t := t) hR hu (hρ x (by simp [Op.operands])) (hρ k (by simp [Op.operands])) (hρ v (by simp [Op.operands]))
   exact ⟨w1, m, by simp [h1], h2⟩
  case mapUpdate t x k v =>
   simp only [aop] at h
   obtain ⟨H1, hu, rfl⟩ := Option.map_eq_some_iff.1 h
   obtain ⟨w1, h1, h2⟩ := amapUpdate_run (P := P) hR hu (hρ x (by simp [Op.operands])) (hρ k (by simp [Op.operands])) (hρ v (by simp [Op.operands]))
   exact ⟨w1, m, by simp [h1], h2⟩
  case insert t x k v =>
   simp only [aop] at h
   obtain ⟨H1, hu, rfl⟩ := Option.map_eq_some_iff.1 h
   obtain ⟨w1, h1, h2⟩ := amapUpdate_run (P := P) hR hu (hρ x (by simp [Op.operands])) (hρ k (by simp [Op.operands])) (hρ v (by simp [Op.operands]))
   exact ⟨w1, m, by simp [h1], h2⟩
  case call c =>
   obtain ⟨callee, args, argTypes⟩ := c
   have hargs : VRL m (args.toList.map ρ) (args.map ρ').toList := by
    rw [Array.toList_map]
    exact VRL.of_map _ fun x hx => hρ x (by cases callee <;> simp [Op.operands, Call.operands] <;> simp_all)
   simp only [aop] at h
   cases callee with
   | invoke f mm => cases h
   | value f =>
    have hf := hρ f (by simp [Op.operands, Call.operands])
    simp only at h
    unfold acallV at h
    split at h
    ·rename_i k first captured e
     simp only [Option.some.injEq] at h; subst h
     rw [e] at hf
     obtain ⟨x', y', e', h1, h2⟩ := hf.func_inv
     refine ⟨x' ++ args.map ρ' ++ y', ?_, ?_⟩
     ·simp only [resolve, Sem.run_bind, e', Deferred.ofValue, Sem.run_pure, Result.andThen_ok, invoke]
     ·simp only [Array.toList_append]
      exact (h1.append hargs).append h2
    ·rename_i l first captured e
     simp only [Option.some.injEq] at h; subst h
     rw [e] at hf
     obtain ⟨pl, hm, rfl, rfl, e'⟩ := hf.yld_inv
     refine ⟨pl, args.map ρ', hm, ?_, by simpa using hargs⟩
     simp only [resolve, Sem.run_bind, e', Deferred.ofValue, Sem.run_pure, Result.andThen_ok, invoke, Array.empty_append]
    ·cases h
   | builtin b =>
    simp only at h
    unfold abuiltin at h
    cases b
    all_goals (first | (cases h; done) | skip)
    all_goals (simp only at h)
    case append =>
     obtain ⟨u, H1, hu, rfl⟩ := avalH_some h
     split at hu
     ·rename_i r hz
      simp only [Option.some.injEq] at hu
      subst hu
      obtain ⟨v', w1, m1, h1, h2, h3⟩ := aappendZ_run (P := P) (ty := o.type) hR hP.zeros hz hargs
      exact ⟨v', w1, m1, by simp [resolve, invoke, builtin, h1], h2, h3⟩
     ·have hst := atrunc_stp hR (args.toList.map ρ)
      obtain ⟨v', w1, m1, h1, h2, h3⟩ := aappend_run (P := P) (ty := o.type) hst.rel hu hargs
      exact ⟨v', w1, m1, by simp [resolve, invoke, builtin, h1], hst.trans h2, h3⟩
    case copy =>
     obtain ⟨u, H1, hu, rfl⟩ := avalH_some h
     obtain ⟨v', w1, m1, h1, h2, h3⟩ := acopy_run (P := P) (ty := o.type) hR hu hargs
     exact ⟨v', w1, m1, by simp [resolve, invoke, builtin, h1], h2, h3⟩
    case len =>
     obtain ⟨u, hu, rfl⟩ := aval_some h
     obtain ⟨v', h1, h2⟩ := alen_map_run (P := P) (ty := o.type) hR hu hargs
     exact ⟨v', w, m, by simp [resolve, invoke, builtin, h1], .refl hR, h2⟩
    case min => simp only [okind] at hk; cases hk
    case max => simp only [okind] at hk; cases hk
    case cap =>
     obtain ⟨u, H1, hu, rfl⟩ := avalH_some h
     obtain ⟨v', w1, m1, h1, h2, h3⟩ := abuiltinX_run (P := P) (ty := o.type) (cs := args.map fun x => x matches .const _) hR hu hargs
     refine ⟨v', w1, m1, ?_, h2, h3⟩
     simp only [resolve, invoke, Sem.run_bind, Sem.run_pure, Result.andThen_ok]
     exact h1
    case unsafeSliceData =>
     obtain ⟨u, H1, hu, rfl⟩ := avalH_some h
     obtain ⟨v', w1, m1, h1, h2, h3⟩ := abuiltinX_run (P := P) (ty := o.type) (cs := args.map fun x => x matches .const _) hR hu hargs
     refine ⟨v', w1, m1, ?_, h2, h3⟩
     simp only [resolve, invoke, Sem.run_bind, Sem.run_pure, Result.andThen_ok]
     exact h1
    case unsafeString =>
     obtain ⟨u, H1, hu, rfl⟩ := avalH_some h
     obtain ⟨v', w1, m1, h1, h2, h3⟩ := abuiltinX_run (P := P) (ty := o.type) (cs := args.map fun x => x matches .const _) hR hu hargs
     refine ⟨v', w1, m1, ?_, h2, h3⟩
     simp only [resolve, invoke, Sem.run_bind, Sem.run_pure, Result.andThen_ok]
     exact h1
    all_goals (obtain ⟨u, H1, hu, rfl⟩ := avalH_some h; simp only [abuiltinX] at hu; cases hu; done)

end Go.AM
