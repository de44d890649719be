/- AM's regions that draw their order, the proof: along whatever order is drawn the world keeps beside the text's walk. -/

import Derived.Test.YtgpligmjbecbjaaDoorAmDraw
set_option linter.unusedVariables false
set_option linter.unusedSimpArgs false
set_option linter.unusedSectionVars false
namespace Go.AM
open Go
variable {N : Nat} [EqV]

structure Trc (P : Program) (cf : Oracle) (ops : Array Oper) (rs : List Rec) (E : Nat → Env) (Hp : Nat → AH) (vl : Nat → Value) : Prop where
 step : ∀ (k : Nat) (o : Oper), ops[k]? = some o → (wantedA ops o (E k) = true ∧ doOp P cf o (E k) (Hp k) = some (vl k, Hp (k + 1)) ∧ ∀ x ∈ recOf P o k (E k) (Hp k) (vl k) (Hp (k + 1)), x ∈ rs) ∨
    (wantedA ops o (E k) = false ∧ vl k = undef ∧ Hp (k + 1) = Hp k)
 env : ∀ (k : Nat) (o : Oper), ops[k]? = some o → E (k + 1) = putA (E k) o.dst (vl k)
 drawn : drawOk P ops = true
 recs : recsOk ops rs = true

def ran (P : Program) (ops : Array Oper) (E : Nat → Env) (q : OKind) (k : Nat) : Prop := ∃ o, ops[k]? = some o ∧ wantedA ops o (E k) = true ∧ okind P o.op = q

section
variable {P : Program} {cf : Oracle} {ops : Array Oper} {rs : List Rec} {E : Nat → Env} {Hp : Nat → AH} {vl : Nat → Value}

theorem ran_lt {q : OKind} {k : Nat} (h : ran P ops E q k) : k < ops.size := by
 obtain ⟨o, ho, -⟩ := h
 exact (Array.getElem?_eq_some_iff.1 ho).1
theorem ran_ne {q q' : OKind} {k k' : Nat} (h : ran P ops E q k) (h' : ran P ops E q' k') (hq : q ≠ q') : k ≠ k' := by
 rintro rfl
 obtain ⟨o, h1, -, h2⟩ := h
 obtain ⟨o', h1', -, h2'⟩ := h'
 rw [h1] at h1'; cases h1'
 exact hq (h2.symm.trans h2')

theorem Trc.loops (t : Trc P cf ops rs E Hp vl) (hcf : Sound P cf) {j : Nat} (hL : LoopsOk P N (Hp j)) : ∀ k, j ≤ k → k ≤ ops.size → LoopsOk P N (Hp k) := by
 intro k
 induction k with
 | zero =>
  intro h _
  have : j = 0 := by omega
  subst this; exact hL
 | succ k ih =>
  intro hjk hk
  rcases Nat.eq_or_lt_of_le hjk with e | e
  ·subst e; exact hL
  have hlt : k < ops.size := hk
  have h1 := ih (by omega) (Nat.le_of_lt hk)
  rcases t.step k ops[k] (Array.getElem?_eq_getElem hlt) with ⟨-, h2, -⟩ | ⟨-, -, h2⟩
  ·exact doOp_loops hcf h1 h2
  ·rw [h2]; exact h1
theorem Trc.mono (t : Trc P cf ops rs E Hp vl) (hcf : Sound P cf) (hL : LoopsOk P N (Hp 0)) {i j : Nat} (hij : i ≤ j) (hj : j ≤ ops.size) : (Hp i).next ≤ (Hp j).next := by
 have h1 := t.loops hcf hL i (Nat.zero_le _) (by omega)
 exact (t.loops (N := (Hp i).next) hcf ⟨Nat.le_refl _, h1.code⟩ j hij hj).le

theorem Trc.op (t : Trc P cf ops rs E Hp vl) {k : Nat} {o : Oper} (ho : ops[k]? = some o) (hw : wantedA ops o (E k) = true) (hk : okind P o.op ≠ .effect) : aop P o.op o.type (evA (E k)) (Hp k) = some (.val (vl k) (Hp (k + 1))) ∧ ∀ x ∈ recOf P o k (E k) (Hp k) (vl k) (Hp (k + 1)), x ∈ rs := by
 rcases t.step k o ho with ⟨-, h1, h2⟩ | ⟨h1, -⟩
 ·refine ⟨?_, h2⟩
  unfold doOp at h1
  cases hr : aop P o.op o.type (evA (E k)) (Hp k) with
  | none => rw [hr] at h1; cases h1
  | some r =>
   have : ∃ v H, r = .val v H := by
    cases hq : okind P o.op with
    | effect => exact absurd hq hk
    | quiet => obtain ⟨v, e⟩ := aop_still (.inl hq) hr; exact ⟨v, _, e⟩
    | load => obtain ⟨v, e⟩ := aop_still (.inr hq) hr; exact ⟨v, _, e⟩
    | alloc => obtain ⟨v, c, sz, ty, e⟩ := aop_alloc hq hr; exact ⟨v, _, e⟩
   obtain ⟨v, H', rfl⟩ := this
   rw [hr] at h1
   cases h1; rfl
 ·rw [hw] at h1; cases h1
theorem Trc.still (t : Trc P cf ops rs E Hp vl) {k : Nat} (hk : k < ops.size) (h1 : ¬ ran P ops E .effect k) (h2 : ¬ ran P ops E .alloc k) : Hp (k + 1) = Hp k := by
 have ho : ops[k]? = some ops[k] := Array.getElem?_eq_getElem hk
 rcases t.step k _ ho with ⟨hw, -⟩ | ⟨-, -, h⟩
 ·have hne : okind P ops[k].op ≠ .effect := fun e => h1 ⟨_, ho, hw, e⟩
  have hq : okind P ops[k].op = .quiet ∨ okind P ops[k].op = .load := by
   cases hq : okind P ops[k].op with
   | effect => exact absurd hq hne
   | quiet => exact .inl rfl
   | load => exact .inr rfl
   | alloc => exact absurd ⟨_, ho, hw, hq⟩ h2
  obtain ⟨v, e⟩ := aop_still hq (t.op ho hw hne).1
  simp only [ANx.val.injEq] at e
  exact e.2
 ·exact h
theorem Trc.alloc (t : Trc P cf ops rs E Hp vl) {k : Nat} (h : ran P ops E .alloc k) : ∃ c sz ty, Hp (k + 1) = (Hp k).push (.cells c true sz ty) ∧ Rec.alloc k (Hp k).next c sz ty ∈ rs := by
 obtain ⟨o, ho, hw, hq⟩ := h
 obtain ⟨h1, h2⟩ := t.op ho hw (by rw [hq]; intro e; cases e)
 obtain ⟨v, c, sz, ty, e⟩ := aop_alloc hq h1
 simp only [ANx.val.injEq] at e
 refine ⟨c, sz, ty, e.2, h2 _ ?_⟩
 simp only [recOf, hq, e.2, AH.get_push, if_true]
 simp
theorem Trc.effect (t : Trc P cf ops rs E Hp vl) {k : Nat} (h : ran P ops E .effect k) : Rec.effect k (Hp k) (Hp (k + 1)) ∈ rs := by
 obtain ⟨o, ho, hw, hq⟩ := h
 rcases t.step k o ho with ⟨-, h1, h2⟩ | ⟨h1, -⟩
 ·exact h2 _ (by simp [recOf, hq])
 ·rw [hw] at h1; cases h1
theorem Trc.load (t : Trc P cf ops rs E Hp vl) {k : Nat} {o : Oper} (ho : ops[k]? = some o) (hw : wantedA ops o (E k) = true) (hq : okind P o.op = .load) :
  (∃ ty x s cs y, o.op = .load ty x ∧ evA (E k) x = .func (.method s) cs y ∧ part? P ty cs.toList 0 = some (vl k)) ∨
  ∃ ty x p, o.op = .load ty x ∧ evA (E k) x = .pointer (some p) ∧ (p.block < (Hp k).next ∧ isAgg? P ty = some (isAggV (vl k))) ∧ Rec.load k p.block p.off (vl k).cells.toList ∈ rs ∧ aload P ty (.pointer (some p)) (Hp k) = some (vl k) := by
 obtain ⟨h1, h2⟩ := t.op ho hw (by rw [hq]; intro e; cases e)
 have : ∃ ty x, o.op = .load ty x := by
  cases e : o.op
  all_goals (rw [e] at hq)
  all_goals (first | exact ⟨_, _, rfl⟩ | (simp only [okind] at hq; cases hq; done) | (simp only [okind] at hq; split at hq <;> cases hq; done) | skip)
  rename_i c
  obtain ⟨callee, args, argTypes⟩ := c
  cases callee with
  | value f => simp only [okind] at hq; cases hq
  | invoke f mm => simp only [okind] at hq; cases hq
  | builtin b =>
   cases b
   all_goals (simp only [okind] at hq)
   all_goals (first | (cases hq; done) | (split at hq <;> cases hq))
 obtain ⟨ty, x, e⟩ := this
 have hq' : okind P (Op.load ty x) = .load := rfl
 simp only [recOf, e, hq'] at h2
 rw [e] at h1
 simp only [aop] at h1
 obtain ⟨v, hv, e1⟩ := aval_some h1
 simp only [ANx.val.injEq] at e1
 rw [← e1.1] at hv
 have hbad : Rec.bad ∉ rs := fun hb => by
  have := List.all_eq_true.1 t.recs _ hb
  cases this
 split at h2
 ·rename_i p hp
  split at h2
  ·rename_i hlt
   exact .inr ⟨ty, x, p, e, hp, hlt, h2 _ (by simp), by rw [← hp]; exact hv⟩
  ·exact absurd (h2 _ (by simp)) hbad
 ·rename_i s cs y hp
  rw [hp] at hv
  exact .inl ⟨ty, x, s, cs, y, e, hp, hv⟩
 ·exact absurd (h2 _ (by simp)) hbad

theorem Trc.recLoad (t : Trc P cf ops rs E Hp vl) {i k b off : Nat} {vs : List Value} {Hb Ha : AH} (h1 : Rec.load i b off vs ∈ rs) (h2 : Rec.effect k Hb Ha ∈ rs) : anc ops ops.size i k = true ∨ anc ops ops.size k i = true ∨ (cellsAt Hb b off vs.length = some vs ∧ cellsAt Ha b off vs.length = some vs) := by
 have h := List.all_eq_true.1 t.recs _ h2
 have h' := List.all_eq_true.1 h _ h1
 have hs : ∀ H : AH, sameAt H b off vs = true → cellsAt H b off vs.length = some vs := fun H hh => by
  unfold sameAt at hh
  split at hh
  ·rename_i us hu; rw [hu, cellsEq_eq hh]
  ·cases hh
 simp only [Bool.or_eq_true, Bool.and_eq_true] at h'
 rcases h' with (h' | h') | ⟨h3, h4⟩
 ·exact .inl h'
 ·exact .inr (.inl h')
 ·exact .inr (.inr ⟨hs _ h3, hs _ h4⟩)
theorem Trc.recAlloc (t : Trc P cf ops rs E Hp vl) {i k b sz : Nat} {ty : TypeId} {vs : List Value} {Hb Ha : AH} (h1 : Rec.alloc i b vs sz ty ∈ rs) (h2 : Rec.effect k Hb Ha ∈ rs) : k < i ∨ anc ops ops.size i k = true ∨ Ha.get b = .cells vs true sz ty := by
 have h := List.all_eq_true.1 t.recs _ h2
 have h' := List.all_eq_true.1 h _ h1
 simp only [Bool.or_eq_true, decide_eq_true_eq] at h'
 rcases h' with (h' | h') | h'
 ·exact .inl h'
 ·exact .inr (.inl h')
 ·refine .inr (.inr ?_)
  unfold wholeAt at h'
  split at h'
  ·rename_i c own sz' ty' e
   simp only [Bool.and_eq_true, beq_iff_eq] at h'
   rw [e, cellsEq_eq h'.1.1.1, h'.1.1.2, h'.1.2, h'.2]
  ·cases h'

def DClosed (ops : Array Oper) (D : Nat → Bool) : Prop := ∀ (j : Nat) (o : Oper), ops[j]? = some o → D j = true → ∀ e ∈ o.after, Region.binds .any e = true → D e.on = true
structure Rdy (ops : Array Oper) (D : Nat → Bool) (k : Nat) (o : Oper) : Prop where
 op : ops[k]? = some o
 out : D k = false
 pre : ∀ e ∈ o.after, Region.binds .any e = true → D e.on = true
def Dput (D : Nat → Bool) (k : Nat) : Nat → Bool := fun j => D j || j == k

theorem DClosed.put {D : Nat → Bool} {k : Nat} {o : Oper} (h : DClosed ops D) (hr : Rdy ops D k o) : DClosed ops (Dput D k) := by
 intro j o' ho' hj e he hb
 simp only [Dput, Bool.or_eq_true, beq_iff_eq] at hj ⊢
 rcases hj with hj | rfl
 ·exact .inl (h j o' ho' hj e he hb)
 ·rw [hr.op] at ho'; cases ho'
  exact .inl (hr.pre e he hb)

theorem dst_lt {k : Nat} {o : Oper} (h : ops[k]? = some o) : ∃ h' : k < ops.size, ops[k] = o := Array.getElem?_eq_some_iff.1 h

theorem Trc.later (t : Trc P cf ops rs E Hp vl) {D : Nat → Bool} (hD : DClosed ops D) {k j : Nat} {o o' : Oper} (hr : Rdy ops D k o) (hj : ops[j]? = some o') (hDj : D j = true) (hkj : k ≤ j) :
  k < j ∧ (okind P o.op ≠ .effect ∨ okind P o'.op ≠ .effect) ∧ (∀ d, o'.dst = some d → d ∉ reads ops o ∧ o.dst ≠ some d) := by
 have hne : k ≠ j := by
  rintro rfl
  rw [hr.out] at hDj; cases hDj
 obtain ⟨h1, rfl⟩ := dst_lt hr.op
 obtain ⟨h2, rfl⟩ := dst_lt hj
 refine ⟨by omega, ?_⟩
 rcases drawOk_spec t.drawn h1 h2 (by omega) with h | ⟨a, b, c⟩
 ·have := anc_closed hD _ _ _ h hDj
  rw [hr.out] at this; cases this
 ·exact ⟨a, fun d hd => ⟨c d hd, fun e => (b d e).2 hd⟩⟩
theorem Trc.ahead (t : Trc P cf ops rs E Hp vl) {D : Nat → Bool} (hD : DClosed ops D) {k j : Nat} {o o' : Oper} (hr : Rdy ops D k o) (hj : ops[j]? = some o') (hjk : j < k)
  (h : (okind P o'.op = .effect ∧ okind P o.op = .effect) ∨ ∃ d, o'.dst = some d ∧ (d ∈ reads ops o ∨ o.dst = some d)) : D j = true := by
 obtain ⟨h1, e1⟩ := dst_lt hr.op
 obtain ⟨h2, e2⟩ := dst_lt hj
 rcases drawOk_spec t.drawn h2 h1 hjk with h3 | ⟨a, b, c⟩
 ·exact anc_ready hD hr.op hr.pre h3
 ·rw [e1, e2] at a; rw [e1, e2] at b
  rcases h with ⟨p, q⟩ | ⟨d, hd, p | p⟩
  ·rcases a with a | a
   ·exact absurd p a
   ·exact absurd q a
  ·exact absurd p (b d hd).1
  ·exact absurd p (b d hd).2

def Wr (ops : Array Oper) (t j : Nat) : Prop := ∃ o, ops[j]? = some o ∧ o.dst = some t

structure EnvI (ops : Array Oper) (E : Nat → Env) (Hp : Nat → AH) (D : Nat → Bool) (m : Mp) (q : Nat) (eD : Env) (tmps : Array Value) : Prop where
 len : eD.length = tmps.size
 val : ∀ t K, K ≤ ops.size → (∀ j, D j = true → Wr ops t j → j < K) → (∀ j, j < K → Wr ops t j → D j = true) → eD[t]? = (E K)[t]?
 rel : ∀ t K, K ≤ ops.size → (∀ j, D j = true → Wr ops t j → j < K) → VR (cut m (Hp (max K q)).next) (eD.getD t undef) (tmps.getD t undef)

theorem EnvI.slot {D : Nat → Bool} {m : Mp} {q : Nat} {eD : Env} {tmps : Array Value} (h : EnvI ops E Hp D m q eD tmps) (t : Trc P cf ops rs E Hp vl) (hD : DClosed ops D) {k : Nat} {o : Oper} (hr : Rdy ops D k o) {s : Nat} (hs : s ∈ reads ops o) :
  eD[s]? = (E k)[s]? ∧ VR (cut m (Hp (max k q)).next) ((E k).getD s undef) (tmps.getD s undef) := by
 have hk : k ≤ ops.size := Nat.le_of_lt (dst_lt hr.op).1
 have h1 : ∀ j, D j = true → Wr ops s j → j < k := fun j hj ⟨o', a, b⟩ => by
  rcases Nat.lt_or_ge j k with h | h
  ·exact h
  ·exact absurd hs ((t.later hD hr a hj h).2.2 s b).1
 have h2 := h.val s k hk h1 fun j hj ⟨o', a, b⟩ => t.ahead hD hr a hj (.inr ⟨s, b, .inl hs⟩)
 refine ⟨h2, ?_⟩
 have := h.rel s k hk h1
 rw [List.getD_eq_getElem?_getD, h2, ← List.getD_eq_getElem?_getD] at this
 exact this

theorem EnvI.operands {D : Nat → Bool} {m : Mp} {q : Nat} {eD : Env} {act : Act} (h : EnvI ops E Hp D m q eD act.tmps) (t : Trc P cf ops rs E Hp vl) (hD : DClosed ops D) {k : Nat} {o : Oper} (hr : Rdy ops D k o) (ho : operOk P o = true) (hG : GOk P (cut m (Hp (max k q)).next)) :
  ∀ x ∈ o.op.operands, VR (cut m (Hp (max k q)).next) (evA (E k) x) (act.eval x) := by
 intro x hx
 have hx' := List.all_eq_true.1 ho x (by simpa using hx)
 cases x with
 | tmp s =>
  refine (h.slot t hD hr ?_).2
  simp only [reads, List.mem_append, List.mem_filterMap]
  exact .inl ⟨.tmp s, by simpa using hx, rfl⟩
 | const v => exact .flat v hx'
 | global g =>
  simp only [evA, Act.eval]
  have hg := hG g (by simpa [operandOk] using hx')
  cases hc : EqV.glob g with
  | none =>
   have := VR.ptr (m := cut m (Hp (max k q)).next) g 0 _ hg.1
   simpa using this
  | some cs => exact hg.2 cs hc
 | func f => exact .of_vrl_func (by simpa using VRL.nil _) (by simpa using VRL.nil _)

theorem EnvI.wanted {D : Nat → Bool} {m : Mp} {q : Nat} {eD : Env} {tmps : Array Value} (h : EnvI ops E Hp D m q eD tmps) (t : Trc P cf ops rs E Hp vl) (hD : DClosed ops D) {k : Nat} {o : Oper} (hr : Rdy ops D k o) :
  Region.wanted o (yielded ops tmps) = wantedA ops o (E k) := by
 unfold wantedA Region.wanted
 cases hg : o.guard with
 | none => rfl
 | some g =>
  obtain ⟨j, want⟩ := g
  simp only
  have : yielded ops tmps j = yieldedA ops (E k) j := by
   unfold yielded yieldedA
   cases hd : (ops[j]?).bind (·.dst) with
   | none => rfl
   | some d =>
    simp only [Option.bind_some]
    have hs : d ∈ reads ops o := by simp [reads, hg, hd]
    obtain ⟨h1, h2⟩ := h.slot t hD hr hs
    cases hv : (E k)[d]? with
    | none =>
     have : tmps[d]? = none := by
      rw [← h1] at hv
      rw [List.getElem?_eq_none_iff] at hv
      rw [Array.getElem?_eq_none_iff, ← h.len]; exact hv
     rw [this]
    | some v =>
     have hlt : d < tmps.size := by
      rw [← h1] at hv
      have := (List.getElem?_eq_some_iff.1 hv).1
      rw [← h.len]; exact this
     rw [List.getD_eq_getElem?_getD, hv, Option.getD_some] at h2
     have e : tmps.getD d undef = tmps[d] := by simp [Array.getD, hlt]
     rw [e] at h2
     rw [Array.getElem?_eq_getElem hlt]
     generalize tmps[d] = v' at h2 ⊢
     cases h2 <;> try rfl
  rw [this]

theorem putA_get (a : Env) (d : Option Tmp) (v : Value) (s : Nat) (h : d ≠ some s) : (putA a d v)[s]? = a[s]? := by
 cases d with
 | none => rfl
 | some d => simp only [putA]; rw [List.getElem?_set_ne]; intro e; exact h (by rw [e])
theorem putA_len (a : Env) (d : Option Tmp) (v : Value) : (putA a d v).length = a.length := by
 cases d <;> simp [putA]

theorem Trc.len (t : Trc P cf ops rs E Hp vl) : ∀ k, k ≤ ops.size → (E k).length = (E 0).length := by
 intro k
 induction k with
 | zero => intro _; rfl
 | succ k ih => intro hk; rw [t.env k _ (Array.getElem?_eq_getElem hk), putA_len]; exact ih (Nat.le_of_lt hk)

theorem Trc.keep (t : Trc P cf ops rs E Hp vl) {s : Nat} {i : Nat} : ∀ k, i ≤ k → k ≤ ops.size → (∀ j, i ≤ j → j < k → ¬ Wr ops s j) → (E k)[s]? = (E i)[s]? := by
 intro k
 induction k with
 | zero =>
  intro h _ _
  have : i = 0 := by omega
  rw [this]
 | succ k ih =>
  intro hik hk hno
  rcases Nat.eq_or_lt_of_le hik with e | e
  ·rw [e]
  have ho : ops[k]? = some ops[k] := Array.getElem?_eq_getElem hk
  rw [t.env k _ ho, putA_get _ _ _ _ (fun h => hno k (by omega) (Nat.lt_succ_self _) ⟨_, ho, h⟩)]
  exact ih (by omega) (Nat.le_of_lt hk) fun j a b => hno j a (by omega)

theorem EnvI.put {D : Nat → Bool} {m m' : Mp} {q q' : Nat} {eD : Env} {act : Act} (h : EnvI ops E Hp D m q eD act.tmps) (t : Trc P cf ops rs E Hp vl) (hcf : Sound P cf) (hL : LoopsOk P N (Hp 0)) (hD : DClosed ops D) {k : Nat} {o : Oper} (hr : Rdy ops D k o)
  (hm : Mle m m') (hq : q ≤ q') (hq' : q' ≤ ops.size) (hl : eD.length = (E 0).length) {v' : Value} (hv : VR (cut m' (Hp (max (k + 1) q')).next) (vl k) v') : EnvI ops E Hp (Dput D k) m' q' (putA eD o.dst (vl k)) (act.put o.dst v').tmps := by
 have hk := (dst_lt hr.op).1
 have hmle : ∀ K, K ≤ ops.size → Mle (cut m (Hp (max K q)).next) (cut m' (Hp (max K q')).next) := fun K hK => (cut_mle hm _).trans (cut_mono m' (t.mono hcf hL (by omega) (by omega)))
 refine ⟨?_, ?_, ?_⟩
 ·rw [putA_len, h.len]
  cases o.dst <;> simp [Act.put]
 ·intro s K hK h1 h2
  by_cases hs : o.dst = some s
  ·have hkK : k < K := h1 k (by simp [Dput]) ⟨o, hr.op, hs⟩
   rw [t.keep (i := k + 1) K hkK hK, t.env k o hr.op]
   ·rw [hs]
    simp only [putA]
    rw [List.getElem?_set, List.getElem?_set, if_pos rfl, if_pos rfl, hl, t.len k (Nat.le_of_lt hk)]
   ·intro j hkj hjK ⟨o', a, b⟩
    have hj : D j = true := by
     have := h2 j hjK ⟨o', a, b⟩
     simp only [Dput, Bool.or_eq_true, beq_iff_eq] at this
     rcases this with h | h
     ·exact h
     ·omega
    exact absurd hs ((t.later hD hr a hj (by omega)).2.2 s b).2
  ·rw [putA_get _ _ _ _ hs]
   refine h.val s K hK (fun j hj hw => h1 j (by simp [Dput, hj]) hw) fun j hj hw => ?_
   have := h2 j hj hw
   simp only [Dput, Bool.or_eq_true, beq_iff_eq] at this
   rcases this with e | e
   ·exact e
   ·subst e
    obtain ⟨o', a, b⟩ := hw
    rw [hr.op] at a; cases a
    exact absurd b hs
 ·intro s K hK h1
  by_cases hs : o.dst = some s
  ·have hkK : k < K := h1 k (by simp [Dput]) ⟨o, hr.op, hs⟩
   have hv' := hv.mono (cut_mono m' (t.mono hcf hL (show max (k + 1) q' ≤ max K q' by omega) (by omega)))
   rw [hs]
   simp only [putA, Act.put]
   by_cases hlt : s < eD.length
   ·have hlt' : s < act.tmps.size := by rw [← h.len]; exact hlt
    have e1 : (eD.set s (vl k)).getD s undef = vl k := by rw [List.getD_eq_getElem?_getD, List.getElem?_set, if_pos rfl, if_pos hlt]; rfl
    have e2 : (act.tmps.setIfInBounds s v').getD s undef = v' := by simp [Array.getD, hlt']
    rw [e1, e2]; exact hv'
   ·have hlt' : ¬ s < act.tmps.size := by rw [← h.len]; exact hlt
    have e1 : (eD.set s (vl k)).getD s undef = undef := by rw [List.getD_eq_getElem?_getD, List.getElem?_set, if_pos rfl, if_neg hlt]; rfl
    have e2 : (act.tmps.setIfInBounds s v').getD s undef = undef := by simp [Array.getD, hlt']
    rw [e1, e2]; exact .undef
  ·have e1 : (putA eD o.dst (vl k)).getD s undef = eD.getD s undef := by rw [List.getD_eq_getElem?_getD, putA_get _ _ _ _ hs, List.getD_eq_getElem?_getD]
   have e2 : (act.put o.dst v').tmps.getD s undef = act.tmps.getD s undef := by
    cases hd : o.dst with
    | none => rfl
    | some d =>
     have : d ≠ s := fun e => hs (by rw [hd, e])
     simp only [Act.put, Array.getD_eq_getD_getElem?]
     rw [Array.getElem?_setIfInBounds_ne this]
   rw [e1, e2]
   exact (h.rel s K hK fun j hj hw => h1 j (by simp [Dput, hj]) hw).mono (hmle K hK)

theorem Trc.inj (t : Trc P cf ops rs E Hp vl) (hcf : Sound P cf) (hL : LoopsOk P N (Hp 0)) {k k' : Nat} (h : ran P ops E .alloc k) (h' : ran P ops E .alloc k') (hne : k ≠ k') : (Hp k).next ≠ (Hp k').next := by
 have key : ∀ i j, ran P ops E .alloc i → ran P ops E .alloc j → i < j → (Hp i).next < (Hp j).next := fun i j a b hij => by
  obtain ⟨c, sz, ty, e, -⟩ := t.alloc a
  have := t.mono hcf hL (i := i + 1) (j := j) hij (Nat.le_of_lt (ran_lt b))
  rw [e] at this
  exact this
 rcases Nat.lt_or_gt_of_ne hne with h1 | h1
 ·exact Nat.ne_of_lt (key _ _ h h' h1)
 ·exact Nat.ne_of_gt (key _ _ h' h h1)

structure Xtra (Hp : Nat → AH) (m' : Mp) (w w' : World) (p k : Nat) (pl : Pl) (c : List Value) (sz : Nat) (ty : TypeId) : Prop where
 push : Hp (k + 1) = (Hp k).push (.cells c true sz ty)
 map : m' (Hp k).next = some pl
 lt : pl.blk < w'.heap.size
 new : w.heap.size ≤ pl.blk
 unseen : ¬ Seen (cut m' (Hp p).next) (Hp p) pl.blk
 unfro : m'.fro pl.blk = none
 obj : ObjRel (cut m' (Hp (k + 1)).next) (.cells c true sz ty) pl w'

structure Core (P : Program) (ops : Array Oper) (E : Nat → Env) (Hp : Nat → AH) (m : Mp) (H : AH) (w : World) (D : Nat → Bool) (m' : Mp) (p : Nat) (w' : World) : Prop where
 stp : Stp m H w (cut m' (Hp p).next) (Hp p) w'
 dom : ∀ b pl, m' b = some pl → b < (Hp p).next ∨ ∃ k, p ≤ k ∧ D k = true ∧ ran P ops E .alloc k ∧ b = (Hp k).next
 no : ∀ k, ran P ops E .alloc k → D k = false → m' (Hp k).next = none
 extra : ∀ k, p ≤ k → D k = true → ran P ops E .alloc k → ∃ pl c sz ty, Xtra Hp m' w w' p k pl c sz ty
 apart : ∀ k k' pl pl', p ≤ k → p ≤ k' → D k = true → D k' = true → ran P ops E .alloc k → ran P ops E .alloc k' → k ≠ k' → m' (Hp k).next = some pl → m' (Hp k').next = some pl' → pl.blk ≠ pl'.blk

theorem cut_succ_some {m : Mp} {n : Nat} {pl : Pl} (h : m n = some pl) : cut m (n + 1) = upd (cut m n) n pl := by
 refine Mp.ext (funext fun b => ?_) rfl
 show (if b < n + 1 then m b else none) = if b = n then some pl else if b < n then m b else none
 by_cases e : b = n
 ·subst e; rw [if_pos rfl, if_pos (by omega)]; exact h
 ·rw [if_neg e]
  by_cases h1 : b < n
  ·rw [if_pos h1, if_pos (by omega)]
  ·rw [if_neg h1, if_neg (by omega)]
theorem cut_succ_none {m : Mp} {n : Nat} (h : m n = none) : cut m (n + 1) = cut m n := by
 refine Mp.ext (funext fun b => ?_) rfl
 show (if b < n + 1 then m b else none) = if b < n then m b else none
 by_cases e : b = n
 ·subst e; rw [if_neg (Nat.lt_irrefl _), if_pos (by omega)]; exact h
 ·by_cases h1 : b < n
  ·rw [if_pos h1, if_pos (by omega)]
  ·rw [if_neg h1, if_neg (by omega)]

theorem Core.next (t : Trc P cf ops rs E Hp vl) (hcf : Sound P cf) (hL : LoopsOk P N (Hp 0)) {m : Mp} {w w' : World} {D : Nat → Bool} {m' : Mp} {p : Nat} (hp : p < ops.size) (h : Core P ops E Hp m (Hp 0) w D m' p w') (hno : ¬ ran P ops E .effect p) : Core P ops E Hp m (Hp 0) w D m' (p + 1) w' := by
 have hlo : (Hp 0).next ≤ (Hp p).next := t.mono hcf hL (Nat.zero_le _) (Nat.le_of_lt hp)
 by_cases ha : ran P ops E .alloc p
 ·obtain ⟨c, sz, ty, e, -⟩ := t.alloc ha
  have hmono : (Hp p).next < (Hp (p + 1)).next := by rw [e]; exact Nat.lt_succ_self _
  have hdom' : ∀ b pl, m' b = some pl → b < (Hp (p + 1)).next ∨ ∃ k, p + 1 ≤ k ∧ D k = true ∧ ran P ops E .alloc k ∧ b = (Hp k).next := fun b pl hb => by
   rcases h.dom b pl hb with h1 | ⟨k, h1, h2, h3, rfl⟩
   ·exact .inl (Nat.lt_trans h1 hmono)
   ·rcases Nat.eq_or_lt_of_le h1 with e' | e'
    ·subst e'; exact .inl hmono
    ·exact .inr ⟨k, e', h2, h3, rfl⟩
  have happ : ∀ k k' pl pl', p + 1 ≤ k → p + 1 ≤ k' → D k = true → D k' = true → ran P ops E .alloc k → ran P ops E .alloc k' → k ≠ k' → m' (Hp k).next = some pl → m' (Hp k').next = some pl' → pl.blk ≠ pl'.blk := fun k k' pl pl' a b => h.apart k k' pl pl' (by omega) (by omega)
  cases hD : D p with
  | true =>
   obtain ⟨pl, c', sz', ty', x⟩ := h.extra p (Nat.le_refl _) hD ha
   have hpush := x.push
   have e1 : cut m' (Hp (p + 1)).next = upd (cut m' (Hp p).next) (Hp p).next pl := by
    rw [hpush]; exact cut_succ_some x.map
   have hfar : ∀ b' p', cut m' (Hp p).next b' = some p' → ((Hp p).push (.cells c' true sz' ty')).get b' ≠ .dead → p'.blk ≠ pl.blk := fun b' p' hb' hd he => by
    refine x.unseen ⟨b', p', hb', ?_, he⟩
    rwa [AH.get_push, if_neg (Nat.ne_of_gt (cut_some hb').1)] at hd
   have hs : Stp m (Hp 0) w (cut m' (Hp (p + 1)).next) (Hp (p + 1)) w' := by
    rw [e1]
    have hobj := x.obj
    rw [e1] at hobj
    rw [hpush]
    refine (h.stp.pushOnly (.cells c' true sz' ty')).see (b := (Hp p).next) (by simp) hlo (by simp [cut_apply]) ?_ x.lt x.new hfar x.unfro
    rw [AH.get_push, if_pos rfl]; exact hobj
   refine ⟨hs, hdom', h.no, fun k hk hDk hak => ?_, happ⟩
   obtain ⟨pl1, c1, sz1, ty1, x1⟩ := h.extra k (by omega) hDk hak
   refine ⟨pl1, c1, sz1, ty1, x1.push, x1.map, x1.lt, x1.new, ?_, x1.unfro, x1.obj⟩
   rintro ⟨b', p', hb', hd, he⟩
   rw [e1] at hb'
   by_cases eb : b' = (Hp p).next
   ·subst eb
    rw [upd_self] at hb'; cases hb'
    exact h.apart p k _ _ (Nat.le_refl _) (by omega) hD hDk ha hak (by omega) x.map x1.map he
   ·rw [upd_other eb] at hb'
    refine x1.unseen ⟨b', p', hb', ?_, he⟩
    rwa [hpush, AH.get_push, if_neg (fun e => eb e.symm)] at hd
  | false =>
   have e1 : cut m' (Hp (p + 1)).next = cut m' (Hp p).next := by
    rw [e]; exact cut_succ_none (h.no p ha hD)
   have hs : Stp m (Hp 0) w (cut m' (Hp (p + 1)).next) (Hp (p + 1)) w' := by
    rw [e1, e]; exact h.stp.pushOnly _
   refine ⟨hs, hdom', h.no, fun k hk hDk hak => ?_, happ⟩
   obtain ⟨pl1, c1, sz1, ty1, x1⟩ := h.extra k (by omega) hDk hak
   refine ⟨pl1, c1, sz1, ty1, x1.push, x1.map, x1.lt, x1.new, ?_, x1.unfro, x1.obj⟩
   rintro ⟨b', p', hb', hd, he⟩
   rw [e1] at hb'
   refine x1.unseen ⟨b', p', hb', ?_, he⟩
   rwa [e, AH.get_push, if_neg (Nat.ne_of_gt (cut_some hb').1)] at hd
 ·have e := t.still hp hno ha
  have hne : ∀ k, ran P ops E .alloc k → p ≤ k → p + 1 ≤ k := fun k hk hle => by
   rcases Nat.eq_or_lt_of_le hle with e | e
   ·subst e; exact absurd hk ha
   ·exact e
  refine ⟨by rw [e]; exact h.stp, fun b pl hb => ?_, h.no, fun k hk hDk hak => ?_, fun k k' pl pl' a b => h.apart k k' pl pl' (by omega) (by omega)⟩
  ·rw [e]
   rcases h.dom b pl hb with h1 | ⟨k, h1, h2, h3, h4⟩
   ·exact .inl h1
   ·exact .inr ⟨k, hne k h3 h1, h2, h3, h4⟩
  ·obtain ⟨pl1, c1, sz1, ty1, x1⟩ := h.extra k (by omega) hDk hak
   exact ⟨pl1, c1, sz1, ty1, x1.push, x1.map, x1.lt, x1.new, by rw [e]; exact x1.unseen, x1.unfro, x1.obj⟩

theorem Core.on (t : Trc P cf ops rs E Hp vl) (hcf : Sound P cf) (hL : LoopsOk P N (Hp 0)) {m : Mp} {w w' : World} {D : Nat → Bool} {m' : Mp} : ∀ (d p : Nat), p + d = ops.size → Core P ops E Hp m (Hp 0) w D m' p w' → (∀ k, p ≤ k → ran P ops E .effect k → D k = false) →
  ∃ q, p ≤ q ∧ q ≤ ops.size ∧ Core P ops E Hp m (Hp 0) w D m' q w' ∧ (∀ k, p ≤ k → k < q → ¬ ran P ops E .effect k) ∧ (q < ops.size → ran P ops E .effect q ∧ D q = false) := by
 intro d
 induction d with
 | zero => intro p hp h hn; exact ⟨p, Nat.le_refl _, by omega, h, fun k a b => by omega, fun hlt => by omega⟩
 | succ d ih =>
  intro p hp h hn
  by_cases he : ran P ops E .effect p
  ·exact ⟨p, Nat.le_refl _, by omega, h, fun k a b => by omega, fun _ => ⟨he, hn p (Nat.le_refl _) he⟩⟩
  ·obtain ⟨q, h1, h2, h3, h4, h5⟩ := ih (p + 1) (by omega) (h.next t hcf hL (by omega) he) fun k hk => hn k (by omega)
   refine ⟨q, by omega, h2, h3, fun k a b => ?_, h5⟩
   rcases Nat.eq_or_lt_of_le a with e | e
   ·subst e; exact he
   ·exact h4 k e b

structure Inv (P : Program) (ops : Array Oper) (E : Nat → Env) (Hp : Nat → AH) (m : Mp) (w : World) (ds : List Deferred) (D : Nat → Bool) (m' : Mp) (q : Nat) (eD : Env) (act : Act) (w' : World) : Prop where
 core : Core P ops E Hp m (Hp 0) w D m' q w'
 qle : q ≤ ops.size
 qlo : ∀ k, k < q → ran P ops E .effect k → D k = true
 qhi : q < ops.size → ran P ops E .effect q ∧ D q = false
 closed : DClosed ops D
 env : EnvI ops E Hp D m' q eD act.tmps
 elen : eD.length = (E 0).length
 defers : act.defers = ds

theorem Dput_or {D : Nat → Bool} {k j : Nat} (h : Dput D k j = true) : D j = true ∨ j = k := by
 simpa [Dput] using h
theorem Dput_false {D : Nat → Bool} {k j : Nat} (h : Dput D k j = false) : D j = false ∧ j ≠ k := by
 simpa [Dput] using h
theorem Dput_of {D : Nat → Bool} {k j : Nat} (h : D j = true) : Dput D k j = true := by simp [Dput, h]
theorem Dput_same {D : Nat → Bool} {k j : Nat} (h : D j = false) (hne : j ≠ k) : Dput D k j = false := by simp [Dput, h, hne]

theorem put_defers (act : Act) (d : Option Tmp) (v : Value) : (act.put d v).defers = act.defers := by cases d <;> rfl

theorem Inv.quiet (t : Trc P cf ops rs E Hp vl) (hcf : Sound P cf) (hL : LoopsOk P N (Hp 0)) {m : Mp} {w w' : World} {ds : List Deferred} {D : Nat → Bool} {m' : Mp} {q : Nat} {eD : Env} {act : Act} (h : Inv P ops E Hp m w ds D m' q eD act w') {k : Nat} {o : Oper} (hr : Rdy ops D k o)
  (h1 : ¬ ran P ops E .effect k) (h2 : ¬ ran P ops E .alloc k) {v' : Value} (hv : VR (cut m' (Hp (max (k + 1) q)).next) (vl k) v') : Inv P ops E Hp m w ds (Dput D k) m' q (putA eD o.dst (vl k)) (act.put o.dst v') w' where
 core := by
  have hc := h.core
  refine ⟨hc.stp, fun b pl hb => ?_, fun j hj hD => hc.no j hj (Dput_false hD).1, fun j hj hD ha => ?_, fun j j' pl pl' a b c d e f => ?_⟩
  ·rcases hc.dom b pl hb with h | ⟨j, a, b, c, d⟩
   ·exact .inl h
   ·exact .inr ⟨j, a, Dput_of b, c, d⟩
  ·rcases Dput_or hD with hD | rfl
   ·exact hc.extra j hj hD ha
   ·exact absurd ha h2
  ·rcases Dput_or c with c | rfl
   ·rcases Dput_or d with d | rfl
    ·exact hc.apart j j' pl pl' a b c d e f
    ·exact absurd f h2
   ·exact absurd e h2
 qle := h.qle
 qlo := fun j hj he => Dput_of (h.qlo j hj he)
 qhi := fun hlt => by
  obtain ⟨a, b⟩ := h.qhi hlt
  exact ⟨a, Dput_same b (by rintro rfl; exact h1 a)⟩
 closed := h.closed.put hr
 env := h.env.put t hcf hL h.closed hr (Mle.refl _) (Nat.le_refl _) h.qle h.elen hv
 elen := by rw [putA_len]; exact h.elen
 defers := by rw [put_defers]; exact h.defers

theorem Inv.glob {m : Mp} {w w' : World} {ds : List Deferred} {D : Nat → Bool} {m' : Mp} {q : Nat} {eD : Env} {act : Act} (h : Inv P ops E Hp m w ds D m' q eD act w') (hG : GOk P m) (hR : Rel m (Hp 0) w) : GOk P (cut m' (Hp q).next) := hG.mono (h.core.stp.le hR)

theorem Inv.meets (t : Trc P cf ops rs E Hp vl) (hcf : Sound P cf) (hL : LoopsOk P N (Hp 0)) {m : Mp} {w w' : World} {ds : List Deferred} {D : Nat → Bool} {m' : Mp} {q : Nat} {eD : Env} {act : Act} (h : Inv P ops E Hp m w ds D m' q eD act w') {k : Nat} {o : Oper} (hr : Rdy ops D k o) (hk : ran P ops E .load k)
  {b off : Nat} {vs : List Value} (hrec : Rec.load k b off vs ∈ rs) (hb : b < (Hp k).next) (h0 : cellsAt (Hp k) b off vs.length = some vs) : cellsAt (Hp q) b off vs.length = some vs := by
 have hkn := (dst_lt hr.op).1
 have hne : ∀ j, ran P ops E .effect j → j ≠ k := fun j hj => ran_ne hj hk (by intro e; cases e)
 rcases Nat.lt_or_ge q k with hlt | hge
 ·obtain ⟨he, hD⟩ := h.qhi (by omega)
  rcases t.recLoad hrec (t.effect he) with a | a | a
  ·have := anc_lt t.drawn _ _ _ a
   omega
  ·have := anc_ready h.closed hr.op hr.pre a
   rw [hD] at this; cases this
  ·exact a.1
 ·have key : ∀ d j, k + d = j → j ≤ q → cellsAt (Hp j) b off vs.length = some vs := by
   intro d
   induction d with
   | zero => intro j hj _; rw [← hj]; exact h0
   | succ d ih =>
    intro j hj hjq
    have hprev := ih (k + d) rfl (by omega)
    subst hj
    have hqn := h.qle
    have hlt : k + d < ops.size := by omega
    have hbj : b < (Hp (k + d)).next := Nat.lt_of_lt_of_le hb (t.mono hcf hL (by omega) (by omega))
    by_cases he : ran P ops E .effect (k + d)
    ·rcases t.recLoad hrec (t.effect he) with a | a | a
     ·have := anc_closed h.closed _ _ _ a (h.qlo _ (by omega) he)
      rw [hr.out] at this; cases this
     ·have := anc_lt t.drawn _ _ _ a
      omega
     ·exact a.2
    ·by_cases ha : ran P ops E .alloc (k + d)
     ·obtain ⟨c, sz, ty, e, -⟩ := t.alloc ha
      have : cellsAt (Hp (k + d + 1)) b off vs.length = cellsAt (Hp (k + d)) b off vs.length := by
       unfold cellsAt
       rw [e, AH.get_push, if_neg (Nat.ne_of_gt hbj)]
       simp only [AH.next_push]
       have h1 : b < (Hp (k + d)).next + 1 := by omega
       cases (Hp (k + d)).get b <;> simp only [h1, hbj, true_and]
      rw [Nat.add_assoc] at this
      rw [this]; exact hprev
     ·have := t.still hlt he ha
      rw [Nat.add_assoc] at this
      rw [this]; exact hprev
  exact key (q - k) q (by omega) (Nat.le_refl _)

theorem Inv.stands (t : Trc P cf ops rs E Hp vl) (hcf : Sound P cf) (hL : LoopsOk P N (Hp 0)) {m : Mp} {w w' : World} {ds : List Deferred} {D : Nat → Bool} {m' : Mp} {q : Nat} {eD : Env} {act : Act} (h : Inv P ops E Hp m w ds D m' q eD act w') {k : Nat} {o : Oper} (hr : Rdy ops D k o)
  {vs : List Value} {sz : Nat} {ty : TypeId} (hk : ran P ops E .alloc k) (hrec : Rec.alloc k (Hp k).next vs sz ty ∈ rs) (hp : Hp (k + 1) = (Hp k).push (.cells vs true sz ty)) (hkq : k < q) : (Hp q).get (Hp k).next = .cells vs true sz ty := by
 have key : ∀ d j, k + 1 + d = j → j ≤ q → (Hp j).get (Hp k).next = .cells vs true sz ty := by
  intro d
  induction d with
  | zero => intro j hj _; subst hj; rw [Nat.add_zero, hp, AH.get_push, if_pos rfl]
  | succ d ih =>
   intro j hj hjq
   have hprev := ih (k + 1 + d) rfl (by omega)
   subst hj
   have hqn := h.qle
   have hlt : k + 1 + d < ops.size := by omega
   have hbj : (Hp k).next < (Hp (k + 1 + d)).next := by
    have := t.mono hcf hL (i := k + 1) (j := k + 1 + d) (by omega) (by omega)
    rw [hp] at this
    exact this
   by_cases he : ran P ops E .effect (k + 1 + d)
   ·rcases t.recAlloc hrec (t.effect he) with a | a | a
    ·omega
    ·have := anc_closed h.closed _ _ _ a (h.qlo _ (by omega) he)
     rw [hr.out] at this; cases this
    ·exact a
   ·by_cases ha : ran P ops E .alloc (k + 1 + d)
    ·obtain ⟨c, sz, ty, e, -⟩ := t.alloc ha
     rw [show k + 1 + (d + 1) = k + 1 + d + 1 from rfl, e, AH.get_push, if_neg (Nat.ne_of_gt hbj)]
     exact hprev
    ·rw [show k + 1 + (d + 1) = k + 1 + d + 1 from rfl, t.still hlt he ha]
     exact hprev
 exact key (q - (k + 1)) q (by omega) (Nat.le_refl _)

theorem cut_upd_in {m : Mp} {n b : Nat} {pl : Pl} (h : b < n) : cut (upd m b pl) n = upd (cut m n) b pl := by
 refine Mp.ext (funext fun k => ?_) rfl
 show (if k < n then if k = b then some pl else m k else none) = if k = b then some pl else if k < n then m k else none
 by_cases e : k = b
 ·subst e; rw [if_pos h, if_pos rfl, if_pos rfl]
 ·rw [if_neg e, if_neg e]
theorem cut_upd_out {m : Mp} {n b : Nat} {pl : Pl} (h : ¬ b < n) : cut (upd m b pl) n = ⟨(cut m n).at_, m.fro⟩ := by
 refine Mp.ext (funext fun k => ?_) rfl
 show (if k < n then if k = b then some pl else m k else none) = if k < n then m k else none
 by_cases e : k = b
 ·subst e; rw [if_neg h, if_neg h]
 ·rw [if_neg e]

theorem Inv.load (t : Trc P cf ops rs E Hp vl) (hcf : Sound P cf) (hL : LoopsOk P N (Hp 0)) {m : Mp} {w w' : World} {ds : List Deferred} {D : Nat → Bool} {m' : Mp} {q : Nat} {eD : Env} {act : Act} (h : Inv P ops E Hp m w ds D m' q eD act w') {k : Nat} {o : Oper} (hr : Rdy ops D k o) (hw : wantedA ops o (E k) = true) (hq : okind P o.op = .load)
  (hρ : ∀ x ∈ o.op.operands, VR (cut m' (Hp (max k q)).next) (evA (E k) x) (act.eval x)) : ∃ v', (execOp act.eval o).run P w' = .ok (.value v') w' ∧ VR (cut m' (Hp (max (k + 1) q)).next) (vl k) v' := by
 have hk := (dst_lt hr.op).1
 rcases t.load hr.op hw hq with ⟨ty, x, s, cs, y, e, hx, hld⟩ | ⟨ty, x, p, e, hx, ⟨hb, hagg⟩, hrec, hld⟩
 ·have hx' := hρ x (by rw [e]; simp [Op.operands])
  rw [hx] at hx'
  obtain ⟨kb, off, arr, e2, d1, d2, d3⟩ := hx'.dptr_inv
  have hf : (cut m' (Hp q).next).fro kb = some arr := d1
  have key : ∃ v', (Instr.loadAt ty (act.eval x)).run P w' = .ok v' w' ∧ VR (cut m' (Hp (max k q)).next) (vl k) v' := by
   obtain ⟨⟨ty', fr, e3⟩, -⟩ := h.core.stp.rel.fro kb arr hf
   have hcell : ∀ (i : Nat) (h : i < cs.toList.length), ∃ v', w'.cell? ⟨kb, off + i, none⟩ = some v' ∧ VR (cut m' (Hp (max k q)).next) cs.toList[i] v' := by
    intro i hi
    have hi' : i < cs.size := by simpa using hi
    have ha : off + i < arr.size := by omega
    exact ⟨arr[off + i], by rw [cell_set e3]; simp [ha], by simpa using d3 i hi' ha⟩
   rw [e2]
   exact load_cells ⟨kb, off, 0, 0⟩ cs.toList 0 hld hcell
  obtain ⟨v', g1, g2⟩ := key
  refine ⟨v', ?_, g2.mono (cut_mono m' (t.mono hcf hL (by omega) (by have := h.qle; omega)))⟩
  unfold execOp
  rw [e]
  simp only [Sem.run_bind, g1, Result.andThen_ok, Sem.run_pure]
 have hx' := hρ x (by rw [e]; simp [Op.operands])
 rw [hx] at hx'
 have hld' := hld
 unfold aload at hld
 split at hld
 ·rename_i b off heq
  cases heq
  split at hld
  ·rename_i c own sz ty' hg
   have h0 : cellsAt (Hp k) b off (vl k).cells.toList.length = some (vl k).cells.toList ∧ ∀ H2, cellsAt H2 b off (vl k).cells.toList.length = some (vl k).cells.toList → aload P ty (.pointer (some ⟨b, off, none⟩)) H2 = some (vl k) := by
    unfold part? at hld
    rw [hagg] at hld
    cases hv : isAggV (vl k) with
    | true =>
     simp only [hv] at hld
     split at hld
     ·rename_i b' n hbb hn
      split at hld
      ·rename_i hle
       simp only [Option.some.injEq] at hld
       rw [← hld]
       have hlen : ((c.drop off).take n).length = n := by simp; omega
       simp only [Value.cells, hlen]
       refine ⟨by unfold cellsAt; rw [hg]; simp [hb, hle], fun H2 h2 => ?_⟩
       unfold cellsAt at h2
       split at h2
       ·rename_i c2 own2 sz2 ty2 hg2
        split at h2
        ·rename_i hle2
         simp only [Option.some.injEq] at h2
         simp only [aload, hg2, part?, hagg, hv, hn, hle2.2, if_true, h2]
        ·cases h2
       ·cases h2
      ·cases hld
     ·rename_i heq; cases heq
     ·cases hld
    | false =>
     simp only [hv] at hld
     have hcells : (vl k).cells.toList = [vl k] := by
      revert hv
      cases vl k <;> intro hv <;> first | rfl | (cases hv)
     rw [hcells]
     obtain ⟨hi, hci⟩ := List.getElem?_eq_some_iff.1 hld
     have hdrop : (c.drop off).take 1 = [vl k] := by
      rw [List.drop_eq_getElem_cons hi, hci]; rfl
     refine ⟨by unfold cellsAt; rw [hg]; simp only [List.length_singleton]; rw [if_pos ⟨hb, by omega⟩, hdrop], fun H2 h2 => ?_⟩
     unfold cellsAt at h2
     split at h2
     ·rename_i c2 own2 sz2 ty2 hg2
      split at h2
      ·rename_i hle2
       simp only [Option.some.injEq, List.length_singleton] at h2 hle2
       have hi2 : off < c2.length := by omega
       rw [List.drop_eq_getElem_cons hi2] at h2
       simp only [List.take_succ_cons, List.take_zero, List.cons.injEq, and_true] at h2
       simp only [aload, hg2, part?, hagg, hv, List.getElem?_eq_getElem hi2, h2]
      ·cases h2
     ·cases h2
   have h1 := h.meets t hcf hL hr ⟨o, hr.op, hw, hq⟩ hrec hb h0.1
   obtain ⟨pl, hpl, -, hxe⟩ := hx'.ptr_inv
   have hbq : b < (Hp q).next := by
    unfold cellsAt at h1
    split at h1
    ·split at h1
     ·rename_i hle; exact hle.1
     ·cases h1
    ·cases h1
   have hx2 : VR (cut m' (Hp q).next) (.pointer (some ⟨b, off, none⟩)) (act.eval x) := by
    rw [hxe]; exact .ptr b off pl (by rw [cut_in hbq]; exact (cut_some hpl).2)
   obtain ⟨v', g1, g2⟩ := aload_run h.core.stp.rel hx2 (h0.2 _ h1)
   refine ⟨v', ?_, g2.mono (cut_mono m' (t.mono hcf hL (by omega) (by have := h.qle; omega)))⟩
   unfold execOp
   rw [e]
   simp only [Sem.run_bind, g1, Result.andThen_ok, Sem.run_pure]
  ·cases hld
 ·rename_i heq; cases heq
 ·cases hld

theorem Inv.alloc (t : Trc P cf ops rs E Hp vl) (hP : POk P) (hcf : Sound P cf) (hL : LoopsOk P N (Hp 0)) {m : Mp} {w w' : World} {ds : List Deferred} {D : Nat → Bool} {m' : Mp} {q : Nat} {eD : Env} {act : Act} (h : Inv P ops E Hp m w ds D m' q eD act w') {k : Nat} {o : Oper} (hr : Rdy ops D k o) (hw : wantedA ops o (E k) = true) (hq : okind P o.op = .alloc)
  (hρ : ∀ x ∈ o.op.operands, VR (cut m' (Hp (max k q)).next) (evA (E k) x) (act.eval x)) : ∃ v' w1 m'', (execOp act.eval o).run P w' = .ok (.value v') w1 ∧ Inv P ops E Hp m w ds (Dput D k) m'' q (putA eD o.dst (vl k)) (act.put o.dst v') w1 := by
 have hk := (dst_lt hr.op).1
 have hran : ran P ops E .alloc k := ⟨o, hr.op, hw, hq⟩
 obtain ⟨v, c, sz, ty, e, ar⟩ := alloc_sound hP (m := cut m' (Hp (max k q)).next) (H := Hp k) hq hρ (t.op hr.op hw (by rw [hq]; intro e; cases e)).1
 simp only [ANx.val.injEq] at e
 obtain ⟨ev, hpush⟩ := e
 have hrec : Rec.alloc k (Hp k).next c sz ty ∈ rs := by
  obtain ⟨c', sz', ty', e', hrec⟩ := t.alloc hran
  have := congrArg (fun H => AH.get H (Hp k).next) (hpush.symm.trans e')
  simp only [AH.get_push, if_true, AObj.cells.injEq] at this
  obtain ⟨rfl, -, rfl, rfl⟩ := this
  exact hrec
 obtain ⟨arr, lo, hi, mk, h1, h2, h3, h4, h5⟩ := ar.ex
 obtain ⟨w1, r1, r2, r3, r4, r5⟩ := h4 w'
 have hc := h.core
 have hqn := h.qle
 have hcell : w1.heap[w'.heap.size]? = some (.cells arr ty (lo, hi)) := by rw [r2]; simp
 have hold : ∀ i, i < w'.heap.size → w1.heap[i]? = w'.heap[i]? := fun i hi => by rw [r2, Array.getElem?_push, if_neg (by omega)]
 have hsz : w1.heap.size = w'.heap.size + 1 := by rw [r2]; simp
 have hnone : m' (Hp k).next = none := hc.no k hran hr.out
 have hobj : ∀ m1 : Mp, Mle (cut m' (Hp (max k q)).next) m1 → ObjRel m1 (.cells c true sz ty) ⟨w'.heap.size, 0, arr.size, sz⟩ w1 := fun m1 hm1 => by
  refine ⟨fun i hi' => ?_, rfl, fun _ => ⟨rfl, h1, arr, lo, hi, hcell, rfl, h3⟩⟩
  obtain ⟨v', a, b⟩ := h2 i hi'
  exact ⟨v', by rw [cell_set hcell]; simpa using a, b.mono hm1⟩
 have hmle : Mle m' (upd m' (Hp k).next ⟨w'.heap.size, 0, arr.size, sz⟩) := ⟨fun b pl hb => by
  rw [upd_other (by rintro rfl; rw [hnone] at hb; cases hb)]; exact hb, fun _ _ h => h⟩
 have hunf : m'.fro w'.heap.size = none := by
  cases hf : m'.fro w'.heap.size with
  | none => rfl
  | some arr' => exact absurd (hc.stp.rel.fro_lt hf) (Nat.lt_irrefl _)
 have hnext : (Hp k).next < (Hp (k + 1)).next := by rw [hpush]; exact Nat.lt_succ_self _
 have hinj : ∀ j, ran P ops E .alloc j → j ≠ k → (Hp j).next ≠ (Hp k).next := fun j hj hne => t.inj hcf hL hj hran hne
 have hqk : q ≠ k := by
  rintro rfl
  exact ran_ne (h.qhi hk).1 hran (by intro e; cases e) rfl
 refine ⟨mk w'.heap.size, w1, upd m' (Hp k).next ⟨w'.heap.size, 0, arr.size, sz⟩, r1, ?_, hqn, fun j hj he => Dput_of (h.qlo j hj he), fun hlt => ?_, h.closed.put hr, ?_, by rw [putA_len]; exact h.elen, by rw [put_defers]; exact h.defers⟩
 ·have hjunk := hc.stp.trans (Stp.junk hc.stp.rel _ r2 r3 r4 r5)
  have hno' : ∀ j, ran P ops E .alloc j → Dput D k j = false → upd m' (Hp k).next ⟨w'.heap.size, 0, arr.size, sz⟩ (Hp j).next = none := fun j hj hD => by
   obtain ⟨a, b⟩ := Dput_false hD
   rw [upd_other (hinj j hj b)]; exact hc.no j hj a
  rcases Nat.lt_or_gt_of_ne hqk with hlt | hlt
  ·-- later than the next effect: nobody sees it yet
   have hge : ¬ (Hp k).next < (Hp q).next := Nat.not_lt.2 (t.mono hcf hL (Nat.le_of_lt hlt) (Nat.le_of_lt hk))
   have hcut : cut (upd m' (Hp k).next ⟨w'.heap.size, 0, arr.size, sz⟩) (Hp q).next = cut m' (Hp q).next := cut_upd_out hge
   refine ⟨by rw [hcut]; exact hjunk, fun b pl hb => ?_, hno', fun j hj hD ha => ?_, fun j j' pl pl' a b c d e f g i i' => ?_⟩
   ·by_cases e : b = (Hp k).next
    ·exact .inr ⟨k, Nat.le_of_lt hlt, by simp [Dput], hran, e⟩
    ·rw [upd_other e] at hb
     rcases hc.dom b pl hb with h | ⟨j, a, b, c, d⟩
     ·exact .inl h
     ·exact .inr ⟨j, a, Dput_of b, c, d⟩
   ·by_cases e : j = k
    ·subst e
     refine ⟨_, c, sz, ty, hpush, upd_self _ _ _, by rw [hsz]; exact Nat.lt_succ_self _, hc.stp.size, ?_, hunf, hobj _ ?_⟩
     ·rw [hcut]
      rintro ⟨b, p, hb, -, he⟩
      have := hc.stp.rel.blk b p hb
      have he' : p.blk = w'.heap.size := he
      omega
     ·have : max j q = j := by omega
      rw [this]
      exact (cut_mle hmle _).trans (cut_mono _ (Nat.le_of_lt hnext))
    ·obtain ⟨pl, c', sz', ty', x⟩ := hc.extra j hj ((Dput_or hD).resolve_right e) ha
     refine ⟨pl, c', sz', ty', x.push, hmle.1 _ _ x.map, by rw [hsz]; exact Nat.lt_succ_of_lt x.lt, x.new, by rw [hcut]; exact x.unseen, x.unfro, x.obj.mono (cut_mle hmle _) (hold _ x.lt)⟩
   ·by_cases e1 : j = k
    ·by_cases e2 : j' = k
     ·exact absurd (e1.trans e2.symm) g
     ·subst e1
      rw [upd_self] at i; cases i
      have hD' := (Dput_or d).resolve_right e2
      obtain ⟨p2, c2, sz2, ty2, x2⟩ := hc.extra j' b hD' f
      rw [upd_other (hinj j' f e2), x2.map] at i'
      cases i'
      have := x2.lt
      simp only; omega
    ·have hD1 := (Dput_or c).resolve_right e1
     obtain ⟨p1, c1, sz1, ty1, x1⟩ := hc.extra j a hD1 e
     rw [upd_other (hinj j e e1), x1.map] at i
     cases i
     by_cases e2 : j' = k
     ·subst e2
      rw [upd_self] at i'; cases i'
      have := x1.lt
      simp only; omega
     ·rw [upd_other (hinj j' f e2)] at i'
      exact hc.apart j j' _ pl' a b hD1 ((Dput_or d).resolve_right e2) e f g x1.map i'
  ·-- ahead of the next effect: it is seen at once
   have hin : (Hp k).next < (Hp q).next := Nat.lt_of_lt_of_le hnext (t.mono hcf hL hlt hqn)
   have hcut : cut (upd m' (Hp k).next ⟨w'.heap.size, 0, arr.size, sz⟩) (Hp q).next = upd (cut m' (Hp q).next) (Hp k).next ⟨w'.heap.size, 0, arr.size, sz⟩ := cut_upd_in hin
   have hcnone : cut m' (Hp q).next (Hp k).next = none := by rw [cut_in hin]; exact hnone
   have hle2 : Mle (cut m' (Hp q).next) (upd (cut m' (Hp q).next) (Hp k).next ⟨w'.heap.size, 0, arr.size, sz⟩) := ⟨fun b pl hb => by
    rw [upd_other (by rintro rfl; rw [hcnone] at hb; cases hb)]; exact hb, fun _ _ h => h⟩
   refine ⟨?_, fun b pl hb => ?_, hno', fun j hj hD ha => ?_, fun j j' pl pl' a b c d e f g i i' => ?_⟩
   ·rw [hcut]
    refine hjunk.see (b := (Hp k).next) hin (t.mono hcf hL (Nat.zero_le _) (Nat.le_of_lt hk)) hcnone ?_ (by rw [hsz]; exact Nat.lt_succ_self _) hc.stp.size (fun b' p' hb' _ he => ?_) hunf
    ·rw [h.stands t hcf hL hr hran hrec hpush hlt]
     refine hobj _ ?_
     have : max k q = q := by omega
     rw [this]; exact hle2
    ·have := hc.stp.rel.blk b' p' hb'
     simp only at he
     omega
   ·by_cases e : b = (Hp k).next
    ·exact .inl (by rw [e]; exact hin)
    ·rw [upd_other e] at hb
     rcases hc.dom b pl hb with h | ⟨j, a, b, c, d⟩
     ·exact .inl h
     ·exact .inr ⟨j, a, Dput_of b, c, d⟩
   ·have e : j ≠ k := by omega
    obtain ⟨pl, c', sz', ty', x⟩ := hc.extra j hj ((Dput_or hD).resolve_right e) ha
    refine ⟨pl, c', sz', ty', x.push, hmle.1 _ _ x.map, by rw [hsz]; exact Nat.lt_succ_of_lt x.lt, x.new, ?_, x.unfro, x.obj.mono (cut_mle hmle _) (hold _ x.lt)⟩
    rw [hcut]
    rintro ⟨b, p, hb, hd, he⟩
    by_cases eb : b = (Hp k).next
    ·subst eb
     rw [upd_self] at hb; cases hb
     have := x.lt
     simp only at he; omega
    ·rw [upd_other eb] at hb
     exact x.unseen ⟨b, p, hb, hd, he⟩
   ·rw [upd_other (hinj j e (by omega))] at i
    rw [upd_other (hinj j' f (by omega))] at i'
    exact hc.apart j j' pl pl' a b ((Dput_or c).resolve_right (by omega)) ((Dput_or d).resolve_right (by omega)) e f g i i'
 ·obtain ⟨a, b⟩ := h.qhi hlt
  exact ⟨a, Dput_same b hqk⟩
 ·refine h.env.put t hcf hL h.closed hr hmle (Nat.le_refl _) hqn h.elen ?_
  rw [ev]
  refine h5 _ _ ?_
  rw [cut_in (Nat.lt_of_lt_of_le hnext (t.mono hcf hL (by omega) (by omega)))]
  exact upd_self _ _ _

theorem Inv.effect (t : Trc P cf ops rs E Hp vl) (hcf : Sound P cf) (hL : LoopsOk P N (Hp 0)) {m : Mp} {w w' : World} {ds : List Deferred} {D : Nat → Bool} {m' : Mp} {q : Nat} {eD : Env} {act : Act} (h : Inv P ops E Hp m w ds D m' q eD act w') {k : Nat} {o : Oper} (hr : Rdy ops D k o) (hw : wantedA ops o (E k) = true) (hq : okind P o.op = .effect) :
  k = q ∧ ∀ v' m1 w1, VR m1 (vl k) v' → Stp (cut m' (Hp q).next) (Hp q) w' m1 (Hp (q + 1)) w1 → ∃ m'' q', Inv P ops E Hp m w ds (Dput D k) m'' q' (putA eD o.dst (vl k)) (act.put o.dst v') w1 := by
 have hk := (dst_lt hr.op).1
 have hran : ran P ops E .effect k := ⟨o, hr.op, hw, hq⟩
 have hqn := h.qle
 have hkq : k = q := by
  rcases Nat.lt_trichotomy k q with hlt | e | hlt
  ·have := h.qlo k hlt hran
   rw [hr.out] at this; cases this
  ·exact e
  ·obtain ⟨⟨o', a, b, c⟩, hD⟩ := h.qhi (by omega)
   have := t.ahead h.closed hr a hlt (.inl ⟨c, hq⟩)
   rw [hD] at this; cases this
 refine ⟨hkq, ?_⟩
 subst hkq
 intro v' m1 w1 hv hs
 have hc := h.core
 have hmono : (Hp k).next ≤ (Hp (k + 1)).next := hs.next
 have hne : ∀ j, ran P ops E .alloc j → j ≠ k := fun j hj => ran_ne hj hran (by intro e; cases e)
 have hlo : ∀ j, ran P ops E .alloc j → k ≤ j → (Hp (k + 1)).next ≤ (Hp j).next := fun j hj hle => t.mono hcf hL (by have := hne j hj; omega) (Nat.le_of_lt (ran_lt hj))
 let m'' : Mp := ⟨fun b => if b < (Hp (k + 1)).next then m1 b else m' b, m1.fro⟩
 have hin : ∀ b, b < (Hp (k + 1)).next → m'' b = m1 b := fun b hb => if_pos hb
 have hout : ∀ b, ¬ b < (Hp (k + 1)).next → m'' b = m' b := fun b hb => if_neg hb
 have hcut : cut m'' (Hp (k + 1)).next = m1 := by
  refine Mp.ext (funext fun b => ?_) rfl
  show cut m'' (Hp (k + 1)).next b = m1 b
  by_cases hb : b < (Hp (k + 1)).next
  ·rw [cut_in hb, hin b hb]
  ·rw [cut_apply, if_neg hb]
   cases hm : m1 b with
   | none => rfl
   | some pl => exact absurd (hs.rel.dom b pl hm) hb
 have hmle : Mle m' m'' := ⟨fun b pl hb => by
  rcases hc.dom b pl hb with hlt | ⟨j, a, _, c, rfl⟩
  ·rw [hin b (by omega), hs.old b hlt, cut_in hlt]; exact hb
  ·rw [hout _ (Nat.not_lt.2 (hlo j c a))]; exact hb, hs.fle⟩
 have hxm : ∀ j, ran P ops E .alloc j → k ≤ j → m'' (Hp j).next = m' (Hp j).next := fun j hj hle => hout _ (Nat.not_lt.2 (hlo j hj hle))
 have hcore : Core P ops E Hp m (Hp 0) w (Dput D k) m'' (k + 1) w1 := by
  refine ⟨by rw [hcut]; exact hc.stp.trans hs, fun b pl hb => ?_, fun j hj hD => ?_, fun j hj hD ha => ?_, fun j j' pl pl' a b c d e f g i i' => ?_⟩
  ·by_cases hlt : b < (Hp (k + 1)).next
   ·exact .inl hlt
   ·rw [hout b hlt] at hb
    rcases hc.dom b pl hb with hlt' | ⟨j, a, b', c, d⟩
    ·exact absurd (Nat.lt_of_lt_of_le hlt' hmono) hlt
    ·exact .inr ⟨j, by have := hne j c; omega, Dput_of b', c, d⟩
  ·have hD' := (Dput_false hD).1
   have hno := hc.no j hj hD'
   rcases Nat.lt_or_ge j k with hlt | hge
   ·have h1 : (Hp j).next < (Hp k).next := by
     obtain ⟨c, sz, ty, e, -⟩ := t.alloc hj
     have := t.mono hcf hL (i := j + 1) (j := k) hlt (Nat.le_of_lt hk)
     rw [e] at this
     exact this
    rw [hin _ (by omega), hs.old _ h1, cut_in h1]; exact hno
   ·rw [hxm j hj hge]; exact hno
  ·have hjk := hne j ha
   obtain ⟨pl, c', sz', ty', x⟩ := hc.extra j (by omega) ((Dput_or hD).resolve_right hjk) ha
   have hunown : ¬ Owned (cut m' (Hp k).next) (Hp k) pl.blk := by
    rintro ⟨b, p, hb, ho, he⟩
    exact x.unseen ⟨b, p, hb, (by intro h; rw [h] at ho; simp [isOwn] at ho), he⟩
   have hunf : m1.fro pl.blk = none := by
    cases hf : m1.fro pl.blk with
    | none => rfl
    | some arr =>
     rcases hs.fgrow _ _ hf with h1 | h1 | h1
     ·have := x.unfro
      rw [cut_fro] at h1
      rw [this] at h1; cases h1
     ·exact absurd h1 hunown
     ·have := x.lt; omega
   refine ⟨pl, c', sz', ty', x.push, hmle.1 _ _ x.map, Nat.lt_of_lt_of_le x.lt hs.size, x.new, ?_, hunf, x.obj.mono (cut_mle hmle _) (hs.frame _ x.lt hunown)⟩
   ·rw [hcut]
    intro hseen
    rcases hs.seen _ hseen with a | a
    ·exact x.unseen a
    ·have := x.lt; omega
  ·rw [hxm j e (by omega)] at i
   rw [hxm j' f (by omega)] at i'
   exact hc.apart j j' pl pl' (by omega) (by omega) ((Dput_or c).resolve_right (hne j e)) ((Dput_or d).resolve_right (hne j' f)) e f g i i'
 have hlate : ∀ j, k + 1 ≤ j → ran P ops E .effect j → Dput D k j = false := fun j hj he => by
  cases hD : D j with
  | false => exact Dput_same hD (by omega)
  | true =>
   obtain ⟨o', a, b, c⟩ := he
   rcases (t.later h.closed hr a hD (by omega)).2.1 with e | e
   ·exact absurd hq e
   ·exact absurd c e
 obtain ⟨q', g1, g2, g3, g4, g5⟩ := hcore.on t hcf hL (ops.size - (k + 1)) (k + 1) (by omega) hlate
 refine ⟨m'', q', g3, g2, fun j hj he => ?_, g5, h.closed.put hr, ?_, by rw [putA_len]; exact h.elen, by rw [put_defers]; exact h.defers⟩
 ·rcases Nat.lt_trichotomy j k with hlt | e | hlt
  ·exact Dput_of (h.qlo j hlt he)
  ·simp [Dput, e]
  ·exact absurd he (g4 j hlt hj)
 ·refine h.env.put t hcf hL h.closed hr hmle (by omega) g2 h.elen ?_
  rw [← hcut] at hv
  exact hv.mono (cut_mono _ (t.mono hcf hL (by omega) (by omega)))

theorem not_ran {D : Nat → Bool} {k : Nat} {o : Oper} {q q' : OKind} (ho : ops[k]? = some o) (hq : okind P o.op = q) (hne : q ≠ q') : ¬ ran P ops E q' k := fun ⟨o', a, _, c⟩ => by
 rw [ho] at a; cases a
 exact hne (hq.symm.trans c)
theorem not_wanted {k : Nat} {o : Oper} {q : OKind} (ho : ops[k]? = some o) (hw : wantedA ops o (E k) = false) : ¬ ran P ops E q k := fun ⟨o', a, b, _⟩ => by
 rw [ho] at a; cases a
 rw [hw] at b; cases b

def dn (listed : Array Bool) : Nat → Bool := fun j => listed.getD j false
theorem dn_set {listed : Array Bool} {k : Nat} (hk : k < listed.size) : dn (listed.setIfInBounds k true) = Dput (dn listed) k := by
 funext j
 simp only [dn, Dput, Array.getD_eq_getD_getElem?]
 by_cases e : j = k
 ·subst e; simp [hk]
 ·rw [Array.getElem?_setIfInBounds_ne (fun h => e h.symm)]
  have : (j == k) = false := by simpa using e
  rw [this, Bool.or_false]
theorem count_put {listed : Array Bool} {k : Nat} (hk : k < listed.size) (h : dn listed k = false) : (listed.setIfInBounds k true).toList.count false + 1 = listed.toList.count false := by
 have e : listed.toList[k]'(by simpa using hk) = false := by simpa [dn, Array.getD, hk] using h
 have hpos : 0 < listed.toList.count false := List.count_pos_iff.2 (by rw [← e]; exact List.getElem_mem _)
 rw [Array.toList_setIfInBounds, List.count_set (by simpa using hk), e]
 have e1 : ((false == false) = true) := rfl
 have e2 : ¬ ((true == false) = true) := by decide
 rw [if_pos e1, if_neg e2]
 omega

theorem any_sound (t : Trc P cf ops rs E Hp vl) (hP : POk P) (hcf : Sound P cf) (hL : LoopsOk P N (Hp 0)) (hops : ops.toList.all (operOk P) = true) {r : Option Nat} {m : Mp} {w : World} (hR : Rel m (Hp 0) w) (hG : GOk P m) {ds : List Deferred} {Q : Exit → Act → World → Prop}
  (hQ : ∀ act' m1 w1, VRL m1 (E ops.size) act'.tmps.toList → act'.defers = ds → Stp m (Hp 0) w m1 (Hp ops.size) w1 → Q .normal act' w1) :
  ∀ (fuel : Nat) (listed : Array Bool) (m' : Mp) (q : Nat) (eD : Env) (act : Act) (w' : World), listed.size = ops.size → listed.toList.count false ≤ fuel → Inv P ops E Hp m w ds (dn listed) m' q eD act w' → wpAnyIn (fen r) 0 P .any ops Q fuel listed act w' := by
 have done : ∀ (listed : Array Bool) (m' : Mp) (q : Nat) (eD : Env) (act : Act) (w' : World), listed.size = ops.size → Inv P ops E Hp m w ds (dn listed) m' q eD act w' → (∀ j, j < ops.size → dn listed j = true) → Q .normal act w' := by
  intro listed m' q eD act w' hs h hall
  have hq : q = ops.size := by
   rcases Nat.lt_or_ge q ops.size with hlt | hge
   ·have := (h.qhi hlt).2
    rw [hall q hlt] at this; cases this
   ·have := h.qle; omega
  subst hq
  have hwr : ∀ s j, Wr ops s j → j < ops.size := fun s j ⟨o, a, _⟩ => (dst_lt a).1
  have hval : eD = E ops.size := by
   apply List.ext_getElem?
   intro s
   exact h.env.val s ops.size (Nat.le_refl _) (fun j _ hw => hwr s j hw) fun j hj _ => hall j hj
  refine hQ act (cut m' (Hp ops.size).next) w' ?_ h.defers h.core.stp
  rw [← hval]
  refine ⟨by rw [h.env.len]; simp, fun s h1 h2 => ?_⟩
  have := h.env.rel s ops.size (Nat.le_refl _) fun j _ hw => hwr s j hw
  rw [Nat.max_self] at this
  have h2' : s < act.tmps.size := by simpa using h2
  have e1 : eD.getD s undef = eD[s] := by simp [h1]
  have e2 : act.tmps.getD s undef = act.tmps[s] := by simp [Array.getD, h2']
  rw [e1, e2] at this
  simpa using this
 have rdy : ∀ (listed : Array Bool) (k : Nat), k ∈ Region.ready .any ops listed → listed.size = ops.size → ∃ o, Rdy ops (dn listed) k o := by
  intro listed k hk hs
  obtain ⟨h1, o, h2, h3⟩ := mem_ready.1 hk
  refine ⟨o, h2, ?_, h3⟩
  have hlt : k < listed.size := by rw [hs]; exact (dst_lt h2).1
  simp only [Array.getD, hlt, dif_pos] at h1
  simp only [dn, Array.getD, hlt, dif_pos]
  exact h1
 have least : ∀ (listed : Array Bool), listed.size = ops.size → Region.ready .any ops listed = [] → ∀ j, j < ops.size → dn listed j = true := by
  intro listed hs hno j
  induction j using Nat.strongRecOn with
  | _ j ih =>
   intro hj
   cases hd : dn listed j with
   | true => rfl
   | false =>
    have hlt : j < listed.size := by rw [hs]; exact hj
    have : j ∈ Region.ready .any ops listed := by
     refine mem_ready.2 ⟨?_, ops[j], Array.getElem?_eq_getElem hj, fun e he hb => ?_⟩
     ·simp only [dn, Array.getD, hlt, dif_pos] at hd
      simp only [Array.getD, hlt, dif_pos]
      exact hd
     ·have := drawOk_edges t.drawn (Array.getElem?_eq_getElem hj) he hb
      exact ih e.on this (by omega)
    rw [hno] at this
    cases this
 intro fuel
 induction fuel with
 | zero =>
  intro listed m' q eD act w' hs hc h
  have hall : ∀ j, j < ops.size → dn listed j = true := fun j hj => by
   have hlt : j < listed.size := by rw [hs]; exact hj
   cases hd : dn listed j with
   | true => rfl
   | false =>
    have := count_put hlt hd
    omega
  refine ⟨?_, done listed m' q eD act w' hs h hall⟩
  cases hrd : Region.ready .any ops listed with
  | nil => rfl
  | cons k l =>
   obtain ⟨o, hr⟩ := rdy listed k (by rw [hrd]; simp) hs
   have := hall k (dst_lt hr.op).1
   rw [hr.out] at this; cases this
 | succ fuel ih =>
  intro listed m' q eD act w' hs hc h
  refine ⟨fun hno => done listed m' q eD act w' hs h (least listed hs hno), fun k hk => ?_⟩
  obtain ⟨o, hr⟩ := rdy listed k hk hs
  have hkn := (dst_lt hr.op).1
  have hlt : k < listed.size := by rw [hs]; exact hkn
  have hs' : (listed.setIfInBounds k true).size = ops.size := by simpa using hs
  have hcnt : (listed.setIfInBounds k true).toList.count false ≤ fuel := by have := count_put hlt hr.out; omega
  have go : ∀ m'' q' eD' act' w'', Inv P ops E Hp m w ds (Dput (dn listed) k) m'' q' eD' act' w'' → wpAnyIn (fen r) 0 P .any ops Q fuel (listed.setIfInBounds k true) act' w'' := fun m'' q' eD' act' w'' h' =>
   ih _ m'' q' eD' act' w'' hs' hcnt (by rw [dn_set hlt]; exact h')
  have ho : operOk P o = true := List.all_eq_true.1 hops _ (by rw [← (dst_lt hr.op).2]; simp)
  have hGq := h.glob hG hR
  have hGk : GOk P (cut m' (Hp (max k q)).next) := hGq.mono (cut_mono m' (t.mono hcf hL (by omega) (by have := h.qle; omega)))
  have hρ := h.env.operands t h.closed hr ho hGk
  have hwt := h.env.wanted t h.closed hr
  unfold wpOpIn
  simp only [hr.op, hwt]
  cases hw : wantedA ops o (E k) with
  | false =>
   simp only [Bool.false_eq_true, if_false]
   refine ⟨fun f _ => fen_fn r f, ?_⟩
   have hvl : vl k = undef := by
    rcases t.step k o hr.op with ⟨a, -⟩ | ⟨-, b, -⟩
    ·rw [hw] at a; cases a
    ·exact b
   have := h.quiet t hcf hL hr (not_wanted hr.op hw) (not_wanted hr.op hw) (v' := undef) (by rw [hvl]; exact .undef)
   exact go _ _ _ _ _ this
  | true =>
   simp only [if_true]
   have one : ∀ {v' w1} , (execOp act.eval o).run P w' = .ok (.value v') w1 → okind P o.op ≠ .effect → (wpAnyIn (fen r) 0 P .any ops Q fuel (listed.setIfInBounds k true) (act.put o.dst v') w1) → o.wpIn (fen r) 0 P act w' (wpAnyIn (fen r) 0 P .any ops Q fuel (listed.setIfInBounds k true)) Q := by
    intro v' w1 hrun hne hK
    refine ⟨fun f _ => fen_fn r f, ?_⟩
    have hsem : o.semAt (fen r).round act.eval = execOp act.eval o := Oper.semAt_eq _ _ _ (fun c hc => hne (by rw [hc]; rfl))
    rw [hsem, hrun]
    exact hK
   cases hq : okind P o.op with
   | quiet =>
    obtain ⟨v, e, v', hrun, hv⟩ := quiet_sound hP (m := cut m' (Hp (max k q)).next) hq hρ (t.op hr.op hw (by rw [hq]; intro e; cases e)).1
    simp only [ANx.val.injEq] at e
    rw [← e.1] at hv
    refine one (hrun w') (by rw [hq]; intro e; cases e) (go _ _ _ _ _ (h.quiet t hcf hL hr (not_ran (D := dn listed) hr.op hq (by intro e; cases e)) (not_ran (D := dn listed) hr.op hq (by intro e; cases e)) ?_))
    exact hv.mono (cut_mono m' (t.mono hcf hL (by omega) (by have := h.qle; omega)))
   | load =>
    obtain ⟨v', hrun, hv⟩ := h.load t hcf hL hr hw hq hρ
    exact one hrun (by rw [hq]; intro e; cases e) (go _ _ _ _ _ (h.quiet t hcf hL hr (not_ran (D := dn listed) hr.op hq (by intro e; cases e)) (not_ran (D := dn listed) hr.op hq (by intro e; cases e)) hv))
   | alloc =>
    obtain ⟨v', w1, m'', hrun, h'⟩ := h.alloc t hP hcf hL hr hw hq hρ
    exact one hrun (by rw [hq]; intro e; cases e) (go _ _ _ _ _ h')
   | effect =>
    obtain ⟨hkq, hnext⟩ := h.effect t hcf hL hr hw hq
    subst hkq
    rw [Nat.max_self] at hρ
    rcases t.step k o hr.op with ⟨-, hd, -⟩ | ⟨a, -⟩
    ·exact doOp_soundρ hP hcf h.core.stp.rel hGq (t.loops hcf hL k (Nat.zero_le _) (Nat.le_of_lt hkn)) hρ hd fun v' m1 w1 hv hst => by
      obtain ⟨m'', q', h'⟩ := hnext v' m1 w1 hv hst
      exact go _ _ _ _ _ h'
    ·rw [hw] at a; cases a

end

theorem evalDraw_sound {P : Program} (hP : POk P) {cf : Oracle} (hcf : Sound P cf) {r : Option Nat} {id : Nat} {ops : Array Oper} {a a' : Env} {H H1 : AH} {m : Mp} {w : World} {act : Act} {Q : Exit → Act → World → Prop} {rs : List Rec} (hops : ops.toList.all (operOk P) = true) (hok : drawOk P ops = true)
  (h : evalDraw P cf ops ops.toList 0 a H [] = some (a', H1, rs)) (hrec : recsOk ops rs = true) (hR : Rel m H w) (hG : GOk P m) (hL : LoopsOk P N H) (ha : VRL m a act.tmps.toList)
  (hQ : ∀ act' m1 w1, VRL m1 a' act'.tmps.toList → act'.defers = act.defers → Stp m H w m1 H1 w1 → Q .normal act' w1) : (Code.region id ops true).wpIn (fen r) 0 P Q act w := by
 obtain ⟨E, Hp, vl, e1, e2, e3, e4, -, e6⟩ := evalDraw_trace (P := P) (cf := cf) (ops := ops) ops.size 0 a a' H H1 [] rs (by omega) (by simpa using h)
 have t : Trc P cf ops rs E Hp vl := by
  refine ⟨fun k o ho => ?_, fun k o ho => ?_, hok, hrec⟩
  ·obtain ⟨hk, rfl⟩ := dst_lt ho
   exact (e6 k hk (Nat.zero_le _)).1
  ·obtain ⟨hk, rfl⟩ := dst_lt ho
   exact (e6 k hk (Nat.zero_le _)).2
 subst e1 e2 e3 e4
 refine wpIn_region_any hP.orders ?_
 have hst := Stp.drawn hR
 have hD0 : ∀ k, dn (Array.replicate ops.size false) k = false := fun k => by
  simp only [dn, Array.getD_eq_getD_getElem?, Array.getElem?_replicate]
  split <;> rfl
 have hcore : Core P ops E Hp m (Hp 0) w (dn (Array.replicate ops.size false)) m 0 { w with drawn := w.drawn + 1 } := by
  refine ⟨by rw [cut_self hR]; exact hst, fun b pl hb => .inl (hR.dom b pl hb), fun k hk _ => ?_, fun k _ hD => ?_, fun k k' pl pl' _ _ hD => ?_⟩
  ·cases hm : m (Hp k).next with
   | none => rfl
   | some pl =>
    have h1 := hR.dom _ _ hm
    have := t.mono hcf hL (Nat.zero_le k) (Nat.le_of_lt (ran_lt hk))
    omega
  ·rw [hD0] at hD; cases hD
  ·rw [hD0] at hD; cases hD
 obtain ⟨q, -, g2, g3, g4, g5⟩ := hcore.on t hcf hL ops.size 0 (by omega) fun k _ _ => hD0 k
 refine any_sound t hP hcf hL hops hR hG hQ _ _ m q (E 0) act _ (by simp) (by simp) ⟨g3, g2, fun k hk he => absurd he (g4 k (Nat.zero_le _) hk), g5, fun j o _ hj => ?_, ⟨?_, fun s K hK h1 h2 => ?_, fun s K hK h1 => ?_⟩, rfl, rfl⟩
 ·rw [hD0] at hj; cases hj
 ·rw [ha.1]; simp
 ·refine (t.keep (i := 0) K (Nat.zero_le _) hK fun j _ hj hw => ?_).symm
  have := h2 j hj hw
  rw [hD0] at this; cases this
 ·have hle : Mle m (cut m (Hp (max K q)).next) := by
   refine ⟨fun b pl hb => ?_, fun _ _ h => h⟩
   have h1 := hR.dom _ _ hb
   have := t.mono hcf hL (Nat.zero_le (max K q)) (by omega)
   rw [cut_in (by omega)]; exact hb
  exact (tmp_vr ha s).mono hle

end Go.AM
