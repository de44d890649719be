/- AM's operations: the quiet ones; those that lay a block; those that write. -/

import Derived.Test.YtgpligmjbecbjaaDoorAmQuiet
import Derived.Laws.BitsLemmas
set_option linter.unusedVariables false
set_option linter.unusedSimpArgs false
set_option linter.unusedSectionVars false
namespace Go.AM
open Go

structure POk (P : Program) : Prop where
 zeros : ∀ t z, zero? P t = some z → z.cells.toList.all flat1 = true
 orders : P.follows .mixedOrders = true
 names : ∀ (f : FuncId) (fn : Func), P.funcs[f]? = some fn → (fn.name == "runtime.NumGoroutine") = false

theorem VRL.of_map {m : Mp} {ρ ρ' : Operand → Value} (l : List Operand) (h : ∀ x ∈ l, VR m (ρ x) (ρ' x)) : VRL m (l.map ρ) (l.map ρ') := .map_same l _ _ h

theorem optVR.of_map {m : Mp} {ρ ρ' : Operand → Value} {x : Option Operand} (h : ∀ y, x = some y → VR m (ρ y) (ρ' y)) : optVR m (x.map ρ) (x.map ρ') := by
 cases x with
 | none => exact ⟨fun v hv => by simp at hv, fun _ => rfl⟩
 | some y => exact ⟨fun v hv => by simp at hv; subst hv; exact ⟨_, rfl, h y rfl⟩, fun hv => by simp at hv⟩

theorem parts_vr {m : Mp} {ρ ρ' : Operand → Value} (parts : Array (Nat × Operand)) (h : ∀ x ∈ (parts.toList.map (·.2)), VR m (ρ x) (ρ' x)) :
  (parts.toList.map fun p => (p.1, ρ p.2)).map (·.1) = (parts.toList.map fun p => (p.1, ρ' p.2)).map (·.1) ∧
  VRL m ((parts.toList.map fun p => (p.1, ρ p.2)).map (·.2)) ((parts.toList.map fun p => (p.1, ρ' p.2)).map (·.2)) := by
 refine ⟨by simp, ?_⟩
 simp only [List.map_map]
 refine .map_same _ _ _ fun p hp => h p.2 ?_
 exact List.mem_map.2 ⟨p, hp, rfl⟩
theorem parts_arr {ρ' : Operand → Value} (parts : Array (Nat × Operand)) : (parts.map fun (i, x) => (i, ρ' x)) = (parts.toList.map fun p => (p.1, ρ' p.2)).toArray := by
 apply Array.ext'
 simp

theorem aval_some {v : Option Value} {H : AH} {r : ANx} (h : aval v H = some r) : ∃ u, v = some u ∧ r = .val u H := by
 obtain ⟨u, hu, rfl⟩ := Option.map_eq_some_iff.1 h
 exact ⟨u, hu, rfl⟩
theorem avalH_some {v : Option (Value × AH)} {r : ANx} (h : avalH v = some r) : ∃ u H, v = some (u, H) ∧ r = .val u H := by
 obtain ⟨⟨u, H⟩, hu, rfl⟩ := Option.map_eq_some_iff.1 h
 exact ⟨u, H, hu, rfl⟩

theorem eql_is {P : Program} {m : Mp} {t : TypeId} {x x' y y' : Value} {r : Bool} (h : aeqNil P t x y = some r) (hx : VR m x x') (hy : VR m y y') :
  Go.binOp .eql t x' y' = (do pure (.bool (← Op.equal t x' y'))) := by
 unfold aeqNil at h
 split at h
 all_goals (first | (cases h; done) | skip)
 all_goals (cases hx <;> cases hy <;> first | rfl | (simp_all [flat1]; done))
theorem neq_is {P : Program} {m : Mp} {t : TypeId} {x x' y y' : Value} {r : Bool} (h : aeqNil P t x y = some r) (hx : VR m x x') (hy : VR m y y') :
  Go.binOp .neq t x' y' = (do pure (.bool (!(← Op.equal t x' y')))) := by
 unfold aeqNil at h
 split at h
 all_goals (first | (cases h; done) | skip)
 all_goals (cases hx <;> cases hy <;> first | rfl | (simp_all [flat1]; done))

theorem q_of_builtin {P : Program} {m : Mp} {s : Sem Next} {v v' : Value} (h : ∀ w, s.run P w = .ok (.value v') w) (hv : VR m v v') : QRel P m s v := ⟨v', h, hv⟩

theorem alen_run {P : Program} {m : Mp} {H : AH} {ts : List TypeId} {args args' : List Value} {v : Value} (h : alen P ts args H = some v) (ha : VRL m args args')
  (hno : ∀ k e t r, ts = t :: r → P.underlying t ≠ some (.map k e)) : ∃ v', (∀ w, (Builtin.len_ ts.toArray 0 args'.toArray).run P w = .ok v' w) ∧ VR m v v' := by
 unfold alen at h
 split at h
 ·rename_i t ts' x r
  obtain ⟨x', r', rfl, hx, hr⟩ := ha.cases
  refine ⟨v, fun w => ?_, ?_⟩
  ·simp only [Builtin.len_]
   split at h
   ·rename_i s hu; simp only [Option.some.injEq] at h; subst h; rw [hx.string_inv]; simp [run_underlying' hu, goInt]
   ·rename_i e a n c hu
    simp only [Option.some.injEq] at h; subst h
    cases a with
    | none => rw [hx.flat1_eq rfl]; simp [run_underlying' hu, goInt]
    | some a =>
     obtain ⟨b, o, s⟩ := a
     obtain ⟨a', c', rfl, -⟩ := hx.slice_inv
     simp [run_underlying' hu, goInt]
   ·rename_i e fn a b hu
    split at h
    ·rename_i n hfn
     simp only [Option.some.injEq] at h; subst h
     unfold fnLen at hfn
     split at hfn
     ·simp only [Option.some.injEq] at hfn; subst hfn
      obtain ⟨a', c', rfl, -⟩ := hx.lst_inv
      simp [run_underlying' hu, goInt]
     ·cases hfn
    ·cases h
   ·rename_i n e hu; simp only [Option.some.injEq] at h; subst h; simp [run_underlying' hu, goInt]
   ·rename_i arr hu
    split at h
    ·rename_i n e hu'
     simp only [Option.some.injEq] at h; subst h
     simp [run_underlying' hu, run_underlying' hu', goInt]
    ·cases h
   ·rename_i k e hu; exact absurd hu (hno _ _ _ _ rfl)
   ·rename_i k e r hu; exact absurd hu (hno _ _ _ _ rfl)
   ·cases h
  ·have : flat1 v = true := by
    split at h
    all_goals (first | (cases h; done) | (simp only [Option.some.injEq] at h; subst h; rfl) | skip)
    ·split at h
     ·simp only [Option.some.injEq] at h; subst h; rfl
     ·cases h
    ·split at h
     ·simp only [Option.some.injEq] at h; subst h; rfl
     ·cases h
    ·rename_i k e r hu; exact absurd hu (hno _ _ _ _ rfl)
   exact .flat _ this
 ·cases h

theorem quiet_sound {P : Program} (hP : POk P) {m : Mp} {H : AH} {o : Oper} {ρ ρ' : Operand → Value} {r : ANx} (hk : okind P o.op = .quiet) (hρ : ∀ x ∈ o.op.operands, VR m (ρ x) (ρ' x)) (h : aop P o.op o.type ρ H = some r) :
  ∃ v, r = .val v H ∧ QRel P m (execOp ρ' o) v := by
 cases ho : o.op
 all_goals (rw [ho] at hk h; (try (simp only [okind] at hk; cases hk; done)))
 all_goals (unfold execOp; rw [ho] at hρ; simp only [ho])
 case move x =>
  simp only [aop, Option.some.injEq] at h
  subst h
  exact ⟨_, rfl, _, fun w => rfl, hρ x (by simp [Op.operands])⟩
 case assign x =>
  simp only [aop, Option.some.injEq] at h
  subst h
  exact ⟨_, rfl, _, fun w => rfl, hρ x (by simp [Op.operands])⟩
 case pick c a b =>
  simp only [aop] at h
  have hc := hρ c (by simp [Op.operands])
  split at h
  ·rename_i e
   simp only [Option.some.injEq] at h
   subst h
   rw [e] at hc
   rw [hc.bool_inv]
   exact ⟨_, rfl, _, fun w => rfl, hρ a (by simp [Op.operands])⟩
  ·rename_i e
   simp only [Option.some.injEq] at h
   subst h
   rw [e] at hc
   rw [hc.bool_inv]
   exact ⟨_, rfl, _, fun w => rfl, hρ b (by simp [Op.operands])⟩
  ·cases h
 case build t parts =>
  simp only [aop] at h
  obtain ⟨u, hu, rfl⟩ := aval_some h
  obtain ⟨e1, e2⟩ := parts_vr parts (fun x hx => hρ x (by simpa [Op.operands] using hx))
  obtain ⟨v', h1, h2⟩ := abuild_run hu e1 e2 (hP.zeros t)
  refine ⟨_, rfl, q_of (s := Instr.build t (parts.map fun (i, x) => (i, ρ' x))) (fun w => ?_) h2⟩
  rw [parts_arr]; exact h1 w
 case nilCheck x =>
  simp only [aop] at h
  have hx := hρ x (by simp [Op.operands])
  split at h
  ·rename_i a e
   simp only [Option.some.injEq] at h
   subst h
   rw [e] at hx
   obtain ⟨b, off, s⟩ := a
   obtain ⟨pl, hb, rfl, e'⟩ := hx.ptr_inv
   rw [e']
   exact ⟨_, rfl, _, fun w => rfl, .ptr _ _ pl hb⟩
  ·rename_i f first cap e
   simp only [Option.some.injEq] at h
   subst h
   rw [e] at hx
   obtain ⟨x', y', e', h1, h2⟩ := hx.func_inv
   rw [e']
   exact ⟨_, rfl, _, fun w => rfl, .of_vrl_func h1 h2⟩
  ·rename_i s cs y e
   simp only [Option.some.injEq] at h
   subst h
   rw [e] at hx
   have hx' := hx
   obtain ⟨k, off, arr, e', h1, h2, h3⟩ := hx'.dptr_inv
   rw [e'] at hx ⊢
   exact ⟨_, rfl, _, fun w => rfl, hx⟩
  ·cases h
 case binOp op t x y yt =>
  simp only [aop] at h
  obtain ⟨u, hu, rfl⟩ := aval_some h
  have hx := hρ x (by simp [Op.operands])
  have hy := hρ y (by simp [Op.operands])
  unfold abinOp at hu
  split at hu
  ·rename_i hf
   simp only [Bool.and_eq_true] at hf
   rw [hx.flat_eq hf.1, hy.flat_eq hf.2]
   exact ⟨_, rfl, q_pure hu⟩
  ·split at hu
   ·obtain ⟨q, hq, rfl⟩ := Option.map_eq_some_iff.1 hu
    obtain ⟨g1, g2⟩ := aeqNil_run hq hx hy .eql x y
    refine ⟨_, rfl, q_of (v' := .bool q) (fun w => ?_) (.flat _ rfl)⟩
    rw [run_bind_ok (g1 w)]
    have hb : Go.binOp .eql t (ρ' x) (ρ' y) = (do pure (.bool (← Op.equal t (ρ' x) (ρ' y)))) := eql_is hq hx hy
    rw [hb]; simp [g2 w]
   ·obtain ⟨q, hq, rfl⟩ := Option.map_eq_some_iff.1 hu
    obtain ⟨g1, g2⟩ := aeqNil_run hq hx hy .neq x y
    refine ⟨_, rfl, q_of (v' := .bool !q) (fun w => ?_) (.flat _ rfl)⟩
    rw [run_bind_ok (g1 w)]
    have hb : Go.binOp .neq t (ρ' x) (ρ' y) = (do pure (.bool (!(← Op.equal t (ρ' x) (ρ' y))))) := neq_is hq hx hy
    rw [hb]; simp [g2 w]
   ·cases hu
 case unOp op t x =>
  simp only [aop] at h
  split at h
  ·rename_i hf
   obtain ⟨u, hu, rfl⟩ := aval_some h
   rw [(hρ x (by simp [Op.operands])).flat1_eq hf]
   exact ⟨_, rfl, q_pure hu⟩
  ·cases h
 case convert s d x =>
  simp only [aop] at h
  obtain ⟨u, H1, hu, rfl⟩ := avalH_some h
  unfold aconvert at hu
  simp only [okind] at hk
  split at hk
  ·cases hk
  ·cases hk
  ·cases hk
  ·cases hk
  ·rename_i h1 h2 h3 h4
   split at hu
   ·rename_i e s' hs hd hx
    exact absurd hd (h3 _)
   ·rename_i e b off len z hs hd hx
    exact absurd hs (h1 _)
   ·rename_i e len s' cs z hs hd hx
    exact absurd hs (h1 _)
   ·split at hu
    ·rename_i hf
     obtain ⟨q, hq, e⟩ := Option.map_eq_some_iff.1 hu
     simp only [Prod.mk.injEq] at e
     obtain ⟨rfl, rfl⟩ := e
     rw [(hρ x (by simp [Op.operands])).flat_eq hf]
     exact ⟨_, rfl, q_pure hq⟩
    ·unfold aunsafe at hu
     split at hu
     ·rename_i hd _; exact absurd hd h4
     ·rename_i hs _ _; exact absurd hs h2
     ·cases hu
 case makeInterface t x =>
  simp only [aop] at h
  split at h
  ·cases h
  ·cases h
  ·rename_i d hd hne
   simp only [Option.some.injEq] at h
   subst h
   refine ⟨_, rfl, q_of (fun w => ?_) (.iface t _ _ (hρ x (by simp [Op.operands])))⟩
   simp only [Instr.makeInterface, Sem.run_bind, run_underlying' hne, Result.andThen_ok]
   cases d <;> first | rfl | exact absurd rfl (hd _)
 case makeFunc fn first cap =>
  cases fn with
  | func f =>
   simp only [aop, Option.some.injEq] at h
   subst h
   refine ⟨_, rfl, q_of (fun w => rfl) ?_⟩
   exact .of_vrl_func (by simpa using VRL.of_map first.toList fun x hx => hρ x (by simp [Op.operands]; exact .inl (by simpa using hx)))
    (by simpa using VRL.of_map cap.toList fun x hx => hρ x (by simp [Op.operands]; exact .inr (by simpa using hx)))
  | _ => simp only [aop] at h; cases h
 case slice t x lo hi mx =>
  simp only [aop] at h
  obtain ⟨u, hu, rfl⟩ := aval_some h
  obtain ⟨v', h1, h2⟩ := aslice_run hu (hρ x (by simp [Op.operands])) (optVR.of_map (ρ' := ρ') fun y hy => hρ y (by subst hy; simp [Op.operands])) (optVR.of_map (ρ' := ρ') fun y hy => hρ y (by subst hy; simp [Op.operands])) (optVR.of_map (ρ' := ρ') fun y hy => hρ y (by subst hy; simp [Op.operands]))
  exact ⟨_, rfl, q_of h1 h2⟩
 case fieldAddr s x f =>
  simp only [aop] at h
  obtain ⟨u, hu, rfl⟩ := aval_some h
  obtain ⟨v', h1, h2⟩ := afieldAddr_run hu (hρ x (by simp [Op.operands]))
  exact ⟨_, rfl, q_of h1 h2⟩
 case field t x f =>
  simp only [aop] at h
  obtain ⟨u, hu, rfl⟩ := aval_some h
  obtain ⟨v', h1, h2⟩ := afield_run hu (hρ x (by simp [Op.operands]))
  exact ⟨_, rfl, q_of h1 h2⟩
 case indexAddr t x i =>
  simp only [aop] at h
  obtain ⟨u, hu, rfl⟩ := aval_some h
  obtain ⟨v', h1, h2⟩ := aindexAddr_run hu (hρ x (by simp [Op.operands])) (hρ i (by simp [Op.operands]))
  exact ⟨_, rfl, q_of h1 h2⟩
 case index t x i =>
  simp only [aop] at h
  obtain ⟨u, hu, rfl⟩ := aval_some h
  obtain ⟨v', h1, h2⟩ := aindex_run hu (hρ x (by simp [Op.operands])) (hρ i (by simp [Op.operands]))
  exact ⟨_, rfl, q_of h1 h2⟩
 case extract x i =>
  simp only [aop] at h
  have hx := hρ x (by simp [Op.operands])
  split at h
  ·rename_i vs e
   obtain ⟨u, hu, rfl⟩ := aval_some h
   rw [e] at hx
   obtain ⟨vs', e', hvs⟩ := hx.tuple_inv
   obtain ⟨v', h1, h2⟩ := hvs.getElem? (v := u) (i := i) (by simpa using hu)
   refine ⟨_, rfl, q_of (fun w => ?_) h2⟩
   rw [e']
   have : vs'[i]? = some v' := by simpa using h1
   simp [Instr.extract, this]
  ·cases h
 case call c =>
  simp only [aop] at h
  obtain ⟨callee, args, argTypes⟩ := c
  have hargs : VRL m (args.toList.map ρ) (args.toList.map ρ') := VRL.of_map _ fun x hx => hρ x (by cases callee <;> simp [Op.operands, Call.operands] <;> simp_all)
  cases callee with
  | value f => simp only [okind] at hk; cases hk
  | invoke f mm => simp only [okind] at hk; cases hk
  | builtin b =>
   simp only at h
   cases b
   all_goals (try (simp only [okind] at hk; cases hk; done))
   all_goals (unfold abuiltin at h; simp only at h)
   case len =>
    obtain ⟨u, hu, rfl⟩ := aval_some h
    simp only [okind] at hk
    obtain ⟨v', h1, h2⟩ := alen_run hu hargs (fun k e t r hts hu' => by
     have : argTypes[0]? = some t := by rw [← Array.getElem?_toList, hts]; rfl
     rw [this] at hk; simp only [Option.bind_some, hu'] at hk; cases hk)
    refine ⟨_, rfl, q_of_builtin (v' := v') ?_ h2⟩
    intro w
    have e : (List.map ρ' args.toList).toArray = args.map ρ' := by apply Array.ext'; simp
    have h1 := h1 w
    rw [e] at h1
    have h2 : (Builtin.len_ argTypes o.type (args.map ρ')).run P w = .ok v' w := by simpa [Builtin.len_] using h1
    simp only [resolve, Sem.run_bind, Sem.run_pure, Result.andThen_ok, invoke, builtin]
    rw [h2]; rfl
   case min =>
    split at h
    ·rename_i hf
     obtain ⟨u, hu, rfl⟩ := aval_some h
     have e := hargs.flat_eq hf
     obtain ⟨g1, g2⟩ := pureV_run hu
     refine ⟨_, rfl, _, fun w => ?_, .flat _ g1⟩
     have e' : (args.map ρ') = (args.toList.map ρ).toArray := by apply Array.ext'; simpa using e
     simp only [resolve, Sem.run_bind, Sem.run_pure, Result.andThen_ok, invoke, builtin, e']
     have := g2 w
     simp only [Builtin.min_] at this ⊢
     rw [this]; rfl
    ·cases h
   case max =>
    split at h
    ·rename_i hf
     obtain ⟨u, hu, rfl⟩ := aval_some h
     have e := hargs.flat_eq hf
     obtain ⟨g1, g2⟩ := pureV_run hu
     refine ⟨_, rfl, _, fun w => ?_, .flat _ g1⟩
     have e' : (args.map ρ') = (args.toList.map ρ).toArray := by apply Array.ext'; simpa using e
     simp only [resolve, Sem.run_bind, Sem.run_pure, Result.andThen_ok, invoke, builtin, e']
     have := g2 w
     simp only [Builtin.max_] at this ⊢
     rw [this]; rfl
    ·cases h

structure ARel (P : Program) (m : Mp) (H : AH) (s : Sem Next) (v : Value) (c : List Value) (sz : Nat) (ty : TypeId) : Prop where
 ex : ∃ (arr : Array Value) (lo hi : Nat) (mk : Nat → Value), c.length ≤ arr.size ∧ (∀ (i : Nat) (h : i < c.length), ∃ v', arr[i]? = some v' ∧ VR m c[i] v') ∧ (∀ i, i < arr.size → ¬ (lo ≤ i ∧ i < hi)) ∧
  (∀ w, ∃ w1, s.run P w = .ok (.value (mk w.heap.size)) w1 ∧ w1.heap = w.heap.push (.cells arr ty (lo, hi)) ∧ w1.os = w.os ∧ w1.tape = w.tape ∧ w1.output = w.output) ∧
  (∀ (m1 : Mp) (k : Nat), m1 H.next = some ⟨k, 0, arr.size, sz⟩ → VR m1 v (mk k))

theorem ARel.stp {P : Program} {m : Mp} {H : AH} {w : World} {s : Sem Next} {v : Value} {c : List Value} {sz : Nat} {ty : TypeId} (h : ARel P m H s v c sz ty) (hR : Rel m H w) :
  ∃ v' w1 m1, s.run P w = .ok (.value v') w1 ∧ Stp m H w m1 (H.push (.cells c true sz ty)) w1 ∧ VR m1 v v' := by
 obtain ⟨arr, lo, hi, mk, h1, h2, h3, h4, h5⟩ := h.ex
 obtain ⟨w1, r1, r2, r3, r4, r5⟩ := h4 w
 refine ⟨_, w1, upd m H.next ⟨w.heap.size, 0, arr.size, sz⟩, r1, ?_, h5 _ _ (upd_self _ _ _)⟩
 have hcell : w1.heap[w.heap.size]? = some (.cells arr ty (lo, hi)) := by rw [r2]; simp
 refine Stp.alloc hR _ (.cells arr ty (lo, hi)) _ rfl r2 r3 r4 r5 ⟨fun i hi' => ?_, rfl, fun _ => ⟨rfl, h1, arr, lo, hi, hcell, rfl, h3⟩⟩
 obtain ⟨v', a, b⟩ := h2 i hi'
 exact ⟨v', by rw [cell_set hcell]; simpa using a, b.mono (hR.upd_le _)⟩

theorem repeat_get (z : List Value) (hz : z ≠ []) : ∀ (n i : Nat), i < n * z.length → (repeatCells z n)[i]? = some (z[i % z.length]'(Nat.mod_lt _ (List.length_pos_iff.2 hz))) := by
 intro n
 induction n with
 | zero => intro i h; simp at h
 | succ n ih =>
  intro i h
  simp only [repeatCells]
  by_cases hi : i < z.length
  ·rw [List.getElem?_append_left hi, List.getElem?_eq_getElem hi]
   congr 1; congr 1; exact (Nat.mod_eq_of_lt hi).symm
  ·have h' : i - z.length < n * z.length := by rw [Nat.add_mul] at h; omega
   rw [List.getElem?_append_right (by omega), ih _ h']
   congr 1; congr 1
   exact (Nat.mod_eq_sub_mod (by omega)).symm
theorem repeat_len (z : List Value) (n : Nat) : (repeatCells z n).length = n * z.length := by
 induction n with
 | zero => simp [repeatCells]
 | succ n ih => simp [repeatCells, ih, Nat.add_mul]; omega
theorem repeat_flat (z : List Value) (h : z.all flat1 = true) (n : Nat) : (repeatCells z n).all flat1 = true := by
 induction n with
 | zero => rfl
 | succ n ih => simp only [repeatCells, List.all_append, h, ih, Bool.and_self]

theorem zeros_toList (z : Array Value) (hz : z.size ≠ 0) (n : Nat) : ((Array.range (n * z.size)).map fun i => z[i % z.size]!).toList = repeatCells z.toList n := by
 apply List.ext_getElem?
 intro i
 have hne : z.toList ≠ [] := by intro h; apply hz; rw [← Array.length_toList, h]; rfl
 by_cases hi : i < n * z.size
 ·rw [repeat_get _ hne _ _ (by simpa using hi)]
  have hm : i % z.size < z.size := Nat.mod_lt _ (by omega)
  simp [hi, hm]
 ·rw [List.getElem?_eq_none (by simp; omega), List.getElem?_eq_none (by rw [repeat_len]; simp; omega)]

theorem fillL_len {pl : Nat → Option (Nat × Nat)} : ∀ (parts : List (Nat × Value)) (c c1 : List Value), fillL pl c parts = some c1 → True → c1.length = c.length := by
 intro parts
 induction parts with
 | nil => intro c c1 h _; simp only [fillL, Option.some.injEq] at h; rw [h]
 | cons x r ih =>
  intro c c1 h _
  obtain ⟨i, v⟩ := x
  simp only [fillL] at h
  cases hp : pl i with
  | none => simp [hp] at h
  | some os =>
   obtain ⟨off, size⟩ := os
   simp only [hp] at h
   split at h
   ·cases h
   ·rename_i hn
    rw [ih _ _ h trivial, splice_length]
    simp; omega

theorem wrap_small {n : Int} (h : -9223372036854775808 ≤ n) (h' : n ≤ 9223372036854775807) : IntKind.i64.wrap n = n := by
 rw [IntKind.wrap_i64]; omega

theorem alloc_sound {P : Program} (hP : POk P) {m : Mp} {H : AH} {o : Oper} {ρ ρ' : Operand → Value} {r : ANx} (hk : okind P o.op = .alloc) (hρ : ∀ x ∈ o.op.operands, VR m (ρ x) (ρ' x)) (h : aop P o.op o.type ρ H = some r) :
  ∃ v c sz ty, r = .val v (H.push (.cells c true sz ty)) ∧ ARel P m H (execOp ρ' o) v c sz ty := by
 cases ho : o.op
 all_goals (rw [ho] at hk h; (try (simp only [okind] at hk; cases hk; done)))
 all_goals (try (simp only [okind] at hk; split at hk <;> cases hk; done))
 all_goals (unfold execOp; rw [ho] at hρ; simp only [ho])
 case alloc e =>
  simp only [aop] at h
  split at h
  ·rename_i z hz
   simp only [Option.some.injEq, newVar] at h
   subst h
   refine ⟨_, _, _, _, rfl, ⟨z.cells, 0, 0, fun k => .pointer (some ⟨k, 0, none⟩), by simp, fun i hi => ⟨z.cells[i]'(by simpa using hi), by simp at hi; simp [hi], .flat _ ?_⟩, fun i _ => by omega, fun w => ?_, fun m1 k hm => ?_⟩⟩
   ·have := List.all_eq_true.1 (hP.zeros e z hz) (z.cells.toList[i]) (List.getElem_mem _)
    simpa using this
   ·refine ⟨{ w with heap := w.heap.push (.cells z.cells e) }, ?_, rfl, rfl, rfl, rfl⟩
    simp [Instr.alloc, run_zeroValue' hz, Go.newVar, newRow]
   ·simpa using VR.ptr (m := m1) H.next 0 _ hm
  ·cases h
 case box e x =>
  simp only [aop, Option.some.injEq, newVar] at h
  subst h
  have hx := (hρ x (by simp [Op.operands])).cells
  refine ⟨_, _, _, _, rfl, ⟨(ρ' x).cells, 0, 0, fun k => .pointer (some ⟨k, 0, none⟩), by have := hx.1; simp at this ⊢; omega, fun i hi => ⟨(ρ' x).cells[i]'(by have := hx.1; simp at this hi; omega), by simp, ?_⟩, fun i _ => by omega, fun w => ?_, fun m1 k hm => ?_⟩⟩
  ·have := hx.2 i hi (by have := hx.1; simp at this hi ⊢; omega)
   simpa using this
  ·exact ⟨{ w with heap := w.heap.push (.cells (ρ' x).cells e) }, by simp [Instr.box, Go.newVar, newRow], rfl, rfl, rfl, rfl⟩
  ·simpa using VR.ptr (m := m1) H.next 0 _ hm
 case buildSlice t len parts =>
  simp only [aop] at h
  obtain ⟨u, H1, hu, rfl⟩ := avalH_some h
  unfold abuildSlice at hu
  split at hu
  ·rename_i e hd
   split at hu
   ·rename_i n z hs hz
    split at hu
    ·rename_i hc
     obtain ⟨c, hc1, hc2⟩ := Option.map_eq_some_iff.1 hu
     simp only [Prod.mk.injEq] at hc2
     obtain ⟨rfl, rfl⟩ := hc2
     obtain ⟨e1, e2⟩ := parts_vr parts (fun x hx => hρ x (by simpa [Op.operands] using hx))
     have hzf : z.cells.toList.all flat1 = true := hP.zeros e z hz
     have hzne : z.cells.size ≠ 0 := by omega
     have hzl := zeros_toList z.cells hzne len
     obtain ⟨c1', g1, g2⟩ := fill_run _ _ _ _ ((Array.range (len * z.cells.size)).map fun i => z.cells[i % z.cells.size]!) hc1 (by rw [hzl]; exact .refl_flat (repeat_flat _ hzf _)) e1 e2
     have hsz : c1'.size = c.length := by have := g2.1; simp at this; omega
     refine ⟨_, _, _, _, rfl, ⟨c1', 0, 0, fun k => .slice (some ⟨k, 0, none⟩) len len, by omega, fun i hi => ⟨c1'[i]'(by omega), by simp, ?_⟩, fun i _ => by omega, fun w => ?_, fun m1 k hm => ?_⟩⟩
     ·have := g2.2 i hi (by simp; omega)
      simpa using this
     ·refine ⟨{ w with heap := w.heap.push (.cells c1' e) }, ?_, rfl, rfl, rfl, rfl⟩
      simp only [Instr.buildSlice, Sem.run_bind, run_underlying' hd, Result.andThen_ok, run_sizeOf' hs]
      rw [if_neg (by omega)]
      by_cases h0 : len * n = 0
      ·rw [if_pos h0]
       have hl0 : len * z.cells.size = 0 := by rw [hc.2.2]; exact h0
       simp only [Sem.run_bind, Sem.run_pure, Result.andThen_ok]
       have e0 : ((Array.range (len * n)).map fun x => (#[] : Array Value)[x % (#[] : Array Value).size]!) = ((Array.range (len * z.cells.size)).map fun i => z.cells[i % z.cells.size]!) := by rw [h0, hl0]; simp
       rw [e0, parts_arr]
       simp only [g1, newRow, Sem.run_bind, run_newObj, Result.andThen_ok, Sem.run_pure]
      ·rw [if_neg h0]
       simp only [Sem.run_bind, run_zeroValue' hz, Result.andThen_ok, Sem.run_pure]
       have e0 : ((Array.range (len * n)).map fun x => z.cells[x % z.cells.size]!) = ((Array.range (len * z.cells.size)).map fun i => z.cells[i % z.cells.size]!) := by rw [hc.2.2]
       rw [parts_arr, e0]
       simp only [g1, newRow, Sem.run_bind, run_newObj, Result.andThen_ok, Sem.run_pure]
     ·refine .slice _ _ _ _ _ _ (Nat.le_refl _) ⟨_, hm, .inr ⟨by simp, fun _ => ⟨rfl, ?_⟩⟩⟩
      have hl := fillL_len _ _ _ hc1 trivial
      rw [repeat_len] at hl
      simp only [Nat.zero_add]
      simp at hl
      rw [hsz, hl, hc.2.2]
      exact Nat.le_refl _
    ·cases hu
   ·cases hu
  ·cases hu
 case makeSlice t l c =>
  simp only [aop] at h
  obtain ⟨u, H1, hu, rfl⟩ := avalH_some h
  have hl := hρ l (by simp [Op.operands])
  have hc := hρ c (by simp [Op.operands])
  unfold amakeSlice at hu
  split at hu
  ·rename_i e kl ln kc cn hd hle hce
   split at hu
   ·rename_i n by_ z hs hb hz
    split at hu
    ·rename_i hcond
     obtain ⟨q1, q2, q2', q3, q4, q5⟩ := hcond
     simp only [Option.some.injEq, Prod.mk.injEq] at hu
     obtain ⟨rfl, rfl⟩ := hu
     rw [hle] at hl; rw [hce] at hc
     rw [hl.int_inv, hc.int_inv]
     have hzf : z.cells.toList.all flat1 = true := hP.zeros e z hz
     have hzne : z.cells.size ≠ 0 := by omega
     have hzl := zeros_toList z.cells hzne cn.toNat
     have hsz : ((Array.range (cn.toNat * z.cells.size)).map fun i => z.cells[i % z.cells.size]!).size = cn.toNat * n := by simp [q5]
     refine ⟨_, _, _, _, rfl, ⟨(Array.range (cn.toNat * z.cells.size)).map fun i => z.cells[i % z.cells.size]!, 0, 0, fun k => .slice (some ⟨k, 0, none⟩) ln.toNat cn.toNat, ?_, fun i hi => ?_, fun i _ => by omega, fun w => ?_, fun m1 k hm => ?_⟩⟩
     ·rw [hsz, repeat_len]
      simp only [Array.length_toList, q5]
      exact Nat.mul_le_mul_right _ (by omega)
     ·have hne : z.cells.toList ≠ [] := by intro h0; apply hzne; rw [← Array.length_toList, h0]; rfl
      have hi2 : i < ln.toNat * z.cells.toList.length := by rw [repeat_len] at hi; exact hi
      have hi3 : i < cn.toNat * z.cells.toList.length := Nat.lt_of_lt_of_le hi2 (Nat.mul_le_mul_right _ (by omega))
      have g1 := repeat_get z.cells.toList hne ln.toNat i hi2
      have g2 := repeat_get z.cells.toList hne cn.toNat i hi3
      rw [← hzl, Array.getElem?_toList] at g2
      refine ⟨_, g2, ?_⟩
      rw [List.getElem?_eq_getElem hi] at g1
      rw [Option.some.inj g1]
      exact .flat _ (List.all_eq_true.1 hzf _ (List.getElem_mem _))
     ·refine ⟨{ w with heap := w.heap.push (.cells ((Array.range (cn.toNat * z.cells.size)).map fun i => z.cells[i % z.cells.size]!) e) }, ?_, rfl, rfl, rfl, rfl⟩
      obtain ⟨i, hi1, hi2⟩ := bytes_of hb w
      have w1 : IntKind.i64.wrap ln = ln := wrap_small (by omega) (by omega)
      have w2 : IntKind.i64.wrap cn = cn := wrap_small (by omega) (by omega)
      simp only [Instr.makeSlice, Sem.run_bind, run_underlying' hd, Result.andThen_ok, asInt, asIntOf, Sem.run_pure, hi1, hi2, w1, w2]
      rw [if_neg (by simp only [Bool.or_eq_true, decide_eq_true_eq]; omega)]
      simp only [Sem.run_bind, run_askRoom, Result.andThen_ok, run_sizeOf' hs, Sem.run_pure]
      by_cases h0 : cn.toNat * n = 0
      ·have h0' : cn.toNat * z.cells.size = 0 := by rw [q5]; exact h0
       have e0 : ((Array.range (cn.toNat * n)).map fun x => (#[] : Array Value)[x % (#[] : Array Value).size]!) = ((Array.range (cn.toNat * z.cells.size)).map fun i => z.cells[i % z.cells.size]!) := by rw [h0, h0']; simp
       rw [if_pos h0]
       simp only [Sem.run_bind, Sem.run_pure, Result.andThen_ok]
       rw [e0]
       simp [newRow]
      ·rw [if_neg h0]
       simp [run_zeroValue' hz, newRow, q5]
     ·refine .slice _ _ _ _ _ _ (by omega) ⟨_, hm, .inr ⟨by simp, fun _ => ⟨rfl, ?_⟩⟩⟩
      show 0 + cn.toNat * n ≤ _
      rw [hsz, Nat.zero_add]; exact Nat.le_refl _
    ·cases hu
   ·cases hu
  ·cases hu
 case call c =>
  obtain ⟨callee, args, argTypes⟩ := c
  cases callee with
  | value f => simp only [okind] at hk; cases hk
  | invoke f mm => simp only [okind] at hk; cases hk
  | builtin b =>
   cases b
   all_goals (simp only [okind] at hk)
   all_goals (first | (cases hk; done) | (split at hk <;> cases hk))

end Go.AM
