/- AM's regions, code and calls: what AM comes to, the model comes to. -/

import Derived.Test.YtgpligmjbecbjaaGreatDoorAmSound
import Derived.RangeFuncNested
import Derived.RangeFuncCalls
set_option linter.unusedVariables false
set_option linter.unusedSimpArgs false
set_option linter.unusedSectionVars false
namespace Go.AM
open Go
variable {N : Nat} [EqV]

def operandOk (P : Program) : Operand → Bool
 | .const v => flat1 v
 | .global g => decide (g < P.globals.size)
 | _ => true
def operOk (P : Program) (o : Oper) : Bool := o.op.operands.toList.all (operandOk P)
def codeOk (P : Program) : Code → Bool
 | .region _ ops _ => ops.toList.all (operOk P)
 | .seq a b => codeOk P a && codeOk P b
 | .cond c a b => operandOk P c && codeOk P a && codeOk P b
 | .block _ b | .loop b | .scope b => codeOk P b
 | .rangeFunc f _ a b => operandOk P f && codeOk P a && codeOk P b
 | _ => true

structure POk2 (P : Program) : Prop extends POk P where
 codes : ∀ (f : FuncId) (fn : Func) (c : Code), P.funcs[f]? = some fn → fn.body = some c → codeOk P c = true

structure LoopsOk (P : Program) (N : Nat) (H : AH) : Prop where
 le : N ≤ H.next
 code : ∀ b tmps ps asg body st pend, H.get b = .loop tmps ps asg body st pend → codeOk P asg = true ∧ codeOk P body = true
def GOk (P : Program) (m : Mp) : Prop := ∀ g, g < P.globals.size → m g = some ⟨g, 0, 0, 0⟩ ∧ ∀ cs, EqV.glob g = some cs → VR m (DPTR cs) (.pointer (some ⟨g, 0, none⟩))
theorem GOk.mono {P : Program} {m m1 : Mp} (h : GOk P m) (hm : Mle m m1) : GOk P m1 := fun g hg => ⟨hm.1 _ _ (h g hg).1, fun cs hc => ((h g hg).2 cs hc).mono hm⟩

theorem LoopsOk.set {P : Program} {H : AH} (h : LoopsOk P N H) (b : Nat) (o : AObj) (ho : ∀ tmps ps asg body st pend, o = .loop tmps ps asg body st pend → codeOk P asg = true ∧ codeOk P body = true) : LoopsOk P N (H.set b o) := by
 refine ⟨h.le, ?_⟩
 intro k tmps ps asg body st pend hk
 rw [AH.get_set] at hk
 split at hk
 ·exact ho _ _ _ _ _ _ hk
 ·exact h.code _ _ _ _ _ _ _ hk
theorem LoopsOk.push {P : Program} {H : AH} (h : LoopsOk P N H) (o : AObj) (ho : ∀ tmps ps asg body st pend, o = .loop tmps ps asg body st pend → codeOk P asg = true ∧ codeOk P body = true) : LoopsOk P N (H.push o) := by
 refine ⟨Nat.le_succ_of_le h.le, ?_⟩
 intro k tmps ps asg body st pend hk
 rw [AH.get_push] at hk
 split at hk
 ·exact ho _ _ _ _ _ _ hk
 ·exact h.code _ _ _ _ _ _ _ hk

theorem ext_loops {P : Program} {H H1 : AH} {v : Value} (hL : LoopsOk P N H) : (∀ {t x}, arange P t x H = some (v, H1) → LoopsOk P N H1) ∧ (∀ {x b}, anext x b H = some (v, H1) → LoopsOk P N H1) ∧ (∀ {b ts args}, abuiltinX P b ts args H = some (v, H1) → LoopsOk P N H1) ∧ ∀ {s d x}, aunsafe P s d x H = some (v, H1) → LoopsOk P N H1 := by
 have ni : ∀ (s : ByteArray) (p : Nat), ∀ tmps ps asg body st pend, AObj.iter s p = .loop tmps ps asg body st pend → codeOk P asg = true ∧ codeOk P body = true := fun _ _ _ _ _ _ _ _ h => by cases h
 have nd : ∀ tmps ps asg body st pend, AObj.dead = .loop tmps ps asg body st pend → codeOk P asg = true ∧ codeOk P body = true := fun _ _ _ _ _ _ h => by cases h
 refine ⟨fun {t x} h => ?_, fun {x b} h => ?_, fun {b ts args} h => ?_, fun {s d x} h => ?_⟩
 ·unfold arange at h
  split at h
  ·simp only [Option.some.injEq, Prod.mk.injEq] at h; rw [← h.2]; exact hL.push _ (ni _ _)
  ·cases h
 ·unfold anext at h
  split at h
  ·split at h
   ·split at h
    ·simp only [Option.some.injEq, Prod.mk.injEq] at h; rw [← h.2]; exact hL.set _ _ (ni _ _)
    ·simp only [Option.some.injEq, Prod.mk.injEq] at h; rw [← h.2]; exact hL
   ·cases h
  ·cases h
 ·unfold abuiltinX at h
  split at h
  ·split at h
   ·split at h
    ·simp only [Option.some.injEq, Prod.mk.injEq] at h; rw [← h.2]; exact hL
    ·cases h
   ·cases h
  ·split at h
   ·simp only [Option.some.injEq, Prod.mk.injEq] at h; rw [← h.2]; exact hL
   ·simp only [Option.some.injEq, Prod.mk.injEq] at h; rw [← h.2]; exact hL
   ·cases h
  ·unfold aunsafeString at h
   split at h
   ·simp only [Option.some.injEq, Prod.mk.injEq] at h; rw [← h.2]; exact hL
   ·split at h
    ·split at h
     ·obtain ⟨l, -, e⟩ := Option.map_eq_some_iff.1 h
      simp only [Prod.mk.injEq] at e; rw [← e.2]; exact hL.set _ _ nd
     ·cases h
    ·cases h
   ·cases h
  ·cases h
 ·unfold aunsafe at h
  split at h
  ·split at h
   ·simp only [Option.some.injEq, Prod.mk.injEq] at h; rw [← h.2]; exact hL
   ·cases h
  ·split at h
   ·split at h
    ·simp only [Option.some.injEq, Prod.mk.injEq] at h; rw [← h.2]; exact hL
    ·cases h
   ·cases h
  ·cases h

theorem map_loops {P : Program} {H H1 : AH} (hL : LoopsOk P N H) : (∀ {t r v}, amakeMap P t r H = some (v, H1) → LoopsOk P N H1) ∧ (∀ {t x k v}, amapUpdate P t x k v H = some H1 → LoopsOk P N H1) ∧ (∀ {t x k v}, amapEntry P t x k H = some (v, H1) → LoopsOk P N H1) ∧ ∀ {x k v}, aentryStore x k v H = some H1 → LoopsOk P N H1 := by
 have nm : ∀ (es : List (Value × Value)), ∀ tmps ps asg body st pend, AObj.map es = .loop tmps ps asg body st pend → codeOk P asg = true ∧ codeOk P body = true := fun _ _ _ _ _ _ _ h => by cases h
 refine ⟨fun {t r v} h => ?_, fun {t x k v} h => ?_, fun {t x k v} h => ?_, fun {x k v} h => ?_⟩
 ·unfold amakeMap at h
  repeat' (first | (cases h; done) | split at h)
  all_goals (first | (cases h; done) | skip)
  all_goals (cases h; exact hL.push _ (nm _))
 ·unfold amapUpdate at h
  repeat' (first | (cases h; done) | split at h)
  all_goals (first | (cases h; done) | skip)
  all_goals (cases h; exact hL.set _ _ (nm _))
 ·unfold amapEntry at h
  repeat' (first | (cases h; done) | split at h)
  all_goals (first | (cases h; done) | skip)
  ·cases h; exact hL.set _ _ (nm _)
  ·obtain ⟨z, _, e⟩ := Option.map_eq_some_iff.1 h
   cases e; exact hL.set _ _ (nm _)
 ·unfold aentryStore at h
  repeat' (first | (cases h; done) | split at h)
  all_goals (first | (cases h; done) | skip)
  all_goals (cases h; exact hL.set _ _ (nm _))

theorem atrunc_loops {P : Program} {H : AH} (hL : LoopsOk P N H) (args : List Value) : LoopsOk P N (atrunc args H) := by
 unfold atrunc
 split
 ·split
  ·split
   ·exact hL.set _ _ (fun _ _ _ _ _ _ h => by cases h)
   ·exact hL
  ·exact hL
 ·exact hL

theorem aop_loops {P : Program} {o : Op} {ty : TypeId} {ρ : Operand → Value} {H H1 : AH} {r : ANx} (hL : LoopsOk P N H) (h : aop P o ty ρ H = some r) (hr : (∃ v, r = .val v H1) ∨ r = .skip H1) : LoopsOk P N H1 := by
 have nc : ∀ (c : List Value) (own : Bool) (sz : Nat) (ty : TypeId), ∀ tmps ps asg body st pend, AObj.cells c own sz ty = .loop tmps ps asg body st pend → codeOk P asg = true ∧ codeOk P body = true := fun _ _ _ _ _ _ _ _ _ _ h => by cases h
 have nd : ∀ tmps ps asg body st pend, AObj.dead = .loop tmps ps asg body st pend → codeOk P asg = true ∧ codeOk P body = true := fun _ _ _ _ _ _ h => by cases h
 cases o
 all_goals (try (simp only [aop] at h))
 all_goals (try (cases h; done))
 case move x => cases h; rcases hr with ⟨v, e⟩ | e <;> cases e; exact hL
 case assign x => cases h; rcases hr with ⟨v, e⟩ | e <;> cases e; exact hL
 case pick c a b => split at h <;> cases h <;> rcases hr with ⟨v, e⟩ | e <;> cases e <;> exact hL
 case alloc e => split at h <;> cases h; rcases hr with ⟨v, e⟩ | e <;> cases e; exact hL.push _ (nc _ _ _ _)
 case box e x => cases h; rcases hr with ⟨v, e⟩ | e <;> cases e; exact hL.push _ (nc _ _ _ _)
 case build t parts => obtain ⟨u, hu, rfl⟩ := aval_some h; rcases hr with ⟨v, e⟩ | e <;> cases e; exact hL
 case buildSlice t len parts =>
  obtain ⟨u, H2, hu, rfl⟩ := avalH_some h; rcases hr with ⟨v, e⟩ | e <;> cases e
  unfold abuildSlice at hu; split at hu
  ·split at hu
   ·split at hu
    ·obtain ⟨c, -, e⟩ := Option.map_eq_some_iff.1 hu
     cases e; exact hL.push _ (nc _ _ _ _)
    ·cases hu
   ·cases hu
  ·cases hu
 case load t a => obtain ⟨u, hu, rfl⟩ := aval_some h; rcases hr with ⟨v, e⟩ | e <;> cases e; exact hL
 case store t a v =>
  obtain ⟨H2, hu, rfl⟩ := Option.map_eq_some_iff.1 h; rcases hr with ⟨v, e⟩ | e <;> cases e
  unfold astore at hu; split at hu
  ·split at hu
   ·split at hu
    ·split at hu
     ·cases hu; exact hL.set _ _ (nc _ _ _ _)
     ·cases hu
    ·cases hu
   ·cases hu
  ·cases hu
 case nilCheck x => split at h <;> cases h <;> rcases hr with ⟨v, e⟩ | e <;> cases e <;> exact hL
 case binOp op t x y yt => obtain ⟨u, hu, rfl⟩ := aval_some h; rcases hr with ⟨v, e⟩ | e <;> cases e; exact hL
 case unOp op t x =>
  split at h
  ·obtain ⟨u, hu, rfl⟩ := aval_some h; rcases hr with ⟨v, e⟩ | e <;> cases e; exact hL
  ·cases h
 case convert s d x =>
  obtain ⟨u, H2, hu, rfl⟩ := avalH_some h; rcases hr with ⟨v, e⟩ | e <;> cases e
  unfold aconvert at hu; split at hu
  ·split at hu
   ·split at hu
    ·cases hu; exact hL.push _ (nc _ _ _ _)
    ·cases hu
   ·cases hu
  ·split at hu
   ·split at hu
    ·obtain ⟨c, -, e⟩ := Option.map_eq_some_iff.1 hu
     cases e; exact hL
    ·cases hu
   ·cases hu
  ·split at hu
   ·split at hu
    ·obtain ⟨c, -, e⟩ := Option.map_eq_some_iff.1 hu
     cases e; exact hL
    ·cases hu
   ·cases hu
  ·split at hu
   ·obtain ⟨c, -, e⟩ := Option.map_eq_some_iff.1 hu
    cases e; exact hL
   ·exact (ext_loops hL).2.2.2 hu
 case range t x =>
  obtain ⟨u, H2, hu, rfl⟩ := avalH_some h; rcases hr with ⟨v, e⟩ | e <;> cases e
  exact (ext_loops hL).1 hu
 case next x b =>
  obtain ⟨u, H2, hu, rfl⟩ := avalH_some h; rcases hr with ⟨v, e⟩ | e <;> cases e
  exact (ext_loops hL).2.1 hu
 case makeMap t r =>
  obtain ⟨u, H2, hu, rfl⟩ := avalH_some h; rcases hr with ⟨v, e⟩ | e <;> cases e
  exact (map_loops hL).1 hu
 case lookup t x k ok => obtain ⟨u, hu, rfl⟩ := aval_some h; rcases hr with ⟨v, e⟩ | e <;> cases e; exact hL
 case mapEntry t x k =>
  obtain ⟨u, H2, hu, rfl⟩ := avalH_some h; rcases hr with ⟨v, e⟩ | e <;> cases e
  exact (map_loops hL).2.2.1 hu
 case entryStore t x k v =>
  obtain ⟨H2, hu, rfl⟩ := Option.map_eq_some_iff.1 h; rcases hr with ⟨v, e⟩ | e <;> cases e
  exact (map_loops hL).2.2.2 hu
 case mapUpdate t x k v =>
  obtain ⟨H2, hu, rfl⟩ := Option.map_eq_some_iff.1 h; rcases hr with ⟨v, e⟩ | e <;> cases e
  exact (map_loops hL).2.1 hu
 case insert t x k v =>
  obtain ⟨H2, hu, rfl⟩ := Option.map_eq_some_iff.1 h; rcases hr with ⟨v, e⟩ | e <;> cases e
  exact (map_loops hL).2.1 hu
 case makeInterface t x => split at h <;> cases h <;> rcases hr with ⟨v, e⟩ | e <;> cases e <;> exact hL
 case makeFunc fn a b =>
  cases fn <;> simp only [aop] at h <;> cases h
  rcases hr with ⟨v, e⟩ | e <;> cases e <;> exact hL
 case makeSlice t l c =>
  obtain ⟨u, H2, hu, rfl⟩ := avalH_some h; rcases hr with ⟨v, e⟩ | e <;> cases e
  unfold amakeSlice at hu; split at hu
  ·split at hu
   ·split at hu
    ·cases hu; exact hL.push _ (nc _ _ _ _)
    ·cases hu
   ·cases hu
  ·cases hu
 case slice t x lo hi mx => obtain ⟨u, hu, rfl⟩ := aval_some h; rcases hr with ⟨v, e⟩ | e <;> cases e; exact hL
 case fieldAddr s x f => obtain ⟨u, hu, rfl⟩ := aval_some h; rcases hr with ⟨v, e⟩ | e <;> cases e; exact hL
 case field s x f => obtain ⟨u, hu, rfl⟩ := aval_some h; rcases hr with ⟨v, e⟩ | e <;> cases e; exact hL
 case indexAddr s x f => obtain ⟨u, hu, rfl⟩ := aval_some h; rcases hr with ⟨v, e⟩ | e <;> cases e; exact hL
 case index s x f => obtain ⟨u, hu, rfl⟩ := aval_some h; rcases hr with ⟨v, e⟩ | e <;> cases e; exact hL
 case extract x i =>
  split at h
  ·obtain ⟨u, hu, rfl⟩ := aval_some h; rcases hr with ⟨v, e⟩ | e <;> cases e; exact hL
  ·cases h
 case call c =>
  obtain ⟨callee, args, argTypes⟩ := c; cases callee with
  | invoke f mm => cases h
  | value f =>
   simp only at h; unfold acallV at h; split at h <;> cases h <;> rcases hr with ⟨v, e⟩ | e <;> cases e
  | builtin b =>
   simp only at h; unfold abuiltin at h; cases b
   all_goals (first | (cases h; done) | skip)
   all_goals (simp only at h)
   case append =>
    obtain ⟨u, H2, hu, rfl⟩ := avalH_some h; rcases hr with ⟨v, e⟩ | e <;> cases e
    split at hu
    ·rename_i r hz
     simp only [Option.some.injEq] at hu; subst hu; unfold aappendZ at hz; split at hz
     ·split at hz
      ·split at hz
       ·split at hz
        ·simp only [Option.some.injEq, Prod.mk.injEq] at hz; rw [← hz.2]; exact hL.push _ (nc _ _ _ _)
        ·cases hz
       ·cases hz
      ·cases hz
     ·cases hz
    replace hL := atrunc_loops hL (args.toList.map ρ)
    unfold aappend at hu; split at hu
    ·split at hu
     ·split at hu
      ·split at hu
       ·cases hu
       ·split at hu
        ·split at hu
         ·split at hu
          ·cases hu; exact hL
          ·split at hu
           ·cases hu; exact hL.push _ (nc _ _ _ _)
           ·cases hu
         ·split at hu
          ·split at hu
           ·split at hu
            ·cases hu; exact hL
            ·split at hu
             ·cases hu; exact (hL.set _ _ nd).push _ (nc _ _ _ _)
             ·cases hu
           ·cases hu
          ·cases hu
         ·cases hu
        ·cases hu
      ·cases hu
     ·cases hu
    ·cases hu
   case copy =>
    obtain ⟨u, H2, hu, rfl⟩ := avalH_some h; rcases hr with ⟨v, e⟩ | e <;> cases e
    unfold acopy at hu; split at hu
    ·split at hu
     ·split at hu
      ·split at hu
       ·split at hu <;> cases hu; exact hL
       ·split at hu
        ·split at hu
         ·cases hu; exact hL.set _ _ (nc _ _ _ _)
         ·cases hu
        ·cases hu
       ·cases hu
      ·cases hu
     ·cases hu
    ·cases hu
   case len => obtain ⟨u, hu, rfl⟩ := aval_some h; rcases hr with ⟨v, e⟩ | e <;> cases e; exact hL
   case min =>
    split at h
    ·obtain ⟨u, hu, rfl⟩ := aval_some h; rcases hr with ⟨v, e⟩ | e <;> cases e; exact hL
    ·cases h
   case max =>
    split at h
    ·obtain ⟨u, hu, rfl⟩ := aval_some h; rcases hr with ⟨v, e⟩ | e <;> cases e; exact hL
    ·cases h
   all_goals (
    obtain ⟨u, H2, hu, rfl⟩ := avalH_some h; rcases hr with ⟨v, e⟩ | e <;> cases e
    exact (ext_loops hL).2.2.1 hu)

def fen : Option Nat → Fence
 | none => Fence.wide
 | some l => Fence.wide.inRound l
theorem fen_fn (r : Option Nat) (f : FuncId) : (fen r).fn f := by cases r <;> exact trivial
theorem fen_depth (r : Option Nat) : (fen r).depth = none := by cases r <;> rfl
theorem fen_round (r : Option Nat) : (fen r).round = r := by cases r <;> rfl
theorem callsIn_fen {r : Option Nat} {P : Program} {f : FuncId} {args : Array Value} {w : World} {R : Ending → World → Prop} (h : CallsIn Fence.wide 0 P f args w R) : CallsIn (fen r) 0 P f args w R := by
 cases r with
 | none => exact h
 | some l => exact CallsIn.inRound l h
theorem roundIn_fen {r : Option Nat} {P : Program} {l : Nat} {f : FuncId} {tmps : Array Value} {asg body : Code} {w : World} {R : Ending → World → Prop} (h : RoundIn Fence.wide 0 P l f tmps asg body w R) : RoundIn (fen r) 0 P l f tmps asg body w R := by
 cases r with
 | none => exact h
 | some l => exact h

theorem tmp_vr {m : Mp} {a : Env} {tmps : Array Value} (ha : VRL m a tmps.toList) (t : Nat) : VR m (a.getD t undef) (tmps.getD t undef) := by
 have e2 : tmps.getD t undef = (tmps.toList[t]?).getD undef := by simp [Array.getD_eq_getD_getElem?]
 rw [List.getD_eq_getElem?_getD, e2]
 cases hv : a[t]? with
 | none =>
  have : tmps.toList[t]? = none := by
   rw [List.getElem?_eq_none_iff] at hv ⊢; rw [← ha.1]; exact hv
  rw [this]; exact .undef
 | some v =>
  obtain ⟨v', h1, h2⟩ := ha.getElem? hv; rw [h1]; exact h2
theorem evA_vr {P : Program} {m : Mp} (hG : GOk P m) {a : Env} {act : Act} (ha : VRL m a act.tmps.toList) {x : Operand} (hx : operandOk P x = true) : VR m (evA a x) (act.eval x) := by
 cases x with
 | tmp t =>
  exact tmp_vr ha t
 | const v => exact .flat v hx
 | global g =>
  simp only [evA, Act.eval]; have hg := hG g (by simpa [operandOk] using hx); cases hc : EqV.glob g with
  | none =>
   have := VR.ptr (m := m) g 0 _ hg.1; simpa using this
  | some cs => exact hg.2 cs hc
 | func f => exact .of_vrl_func (by simpa using VRL.nil m) (by simpa using VRL.nil m)
theorem oper_vr {P : Program} {m : Mp} (hG : GOk P m) {a : Env} {act : Act} (ha : VRL m a act.tmps.toList) {o : Oper} (ho : operOk P o = true) : ∀ x ∈ o.op.operands, VR m (evA a x) (act.eval x) := fun x hx =>
 evA_vr hG ha (List.all_eq_true.1 ho x (by simpa using hx))
theorem putA_vr {m : Mp} {a : Env} {act : Act} (ha : VRL m a act.tmps.toList) (d : Option Tmp) {v v' : Value} (hv : VR m v v') : VRL m (putA a d v) (act.put d v').tmps.toList := by
 cases d with
 | none => exact ha
 | some d => simpa [putA, Act.put] using ha.set d hv
theorem wanted_vr {m : Mp} {a : Env} {act : Act} (ha : VRL m a act.tmps.toList) (ops : Array Oper) (o : Oper) : Region.wanted o (yielded ops act.tmps) = wantedA ops o a := by
 unfold wantedA Region.wanted
 cases o.guard with
 | none => rfl
 | some g =>
  obtain ⟨j, want⟩ := g; simp only; have : yielded ops act.tmps j = yieldedA ops a j := by
   unfold yielded yieldedA; cases (ops[j]?).bind (·.dst) with
   | none => rfl
   | some d =>
    simp only [Option.bind_some]; cases hv : a[d]? with
    | none =>
     have : act.tmps[d]? = none := by
      rw [← Array.getElem?_toList, List.getElem?_eq_none_iff]; rw [List.getElem?_eq_none_iff] at hv; rw [← ha.1]; exact hv
     rw [this]
    | some v =>
     obtain ⟨v', h1, h2⟩ := ha.getElem? hv; rw [Array.getElem?_toList] at h1; rw [h1]; cases h2 <;> try rfl
  rw [this]

def CallRel (P : Program) (f : FuncId) (args : Array Value) (w : World) (R : Value → World → Prop) : Prop :=
 ∃ fn, P.funcs[f]? = some fn ∧ ((fn.body.isSome = true ∧ CallsIn Fence.wide 0 P f args w fun e w' => ∃ v, e = .returned v ∧ R v w') ∨
  (fn.body.isSome = false ∧ ∃ v w', (callFunc f args).run P w = .ok (.value v) w' ∧ R v w'))
def YieldRel (P : Program) (l : Nat) (args : Array Value) (w : World) (R : Value → World → Prop) : Prop :=
 ∃ fn tmps asg body, (Instr.yield l args).run P w = .ok (.round l fn tmps asg body) w ∧ RoundIn Fence.wide 0 P l fn tmps asg body w fun e w' => ∃ v, e = .returned v ∧ R v w'

def After (m : Mp) (H : AH) (w : World) (v : Value) (H1 : AH) (v' : Value) (w' : World) : Prop := ∃ m', VR m' v v' ∧ Stp m H w m' H1 w'

structure Sound (P : Program) (cf : Oracle) : Prop where
 loops : ∀ N t args H v H1, cf t args H = some (v, H1) → LoopsOk P N H → LoopsOk P N H1
 fn : ∀ N f args H v H1, cf (.fn f) args H = some (v, H1) → LoopsOk P N H → ∀ (m : Mp) (w : World) (args' : Array Value), Rel m H w → GOk P m → VRL m args args'.toList → CallRel P f args' w (After m H w v H1)
 yld : ∀ N l args H v H1, cf (.yld l) args H = some (v, H1) → LoopsOk P N H → ∀ (m : Mp) (w : World) (args' : Array Value) pl, m l = some pl → Rel m H w → GOk P m → VRL m args args'.toList → YieldRel P pl.blk args' w (After m H w v H1)

theorem callFunc_enter {P : Program} (hP : POk P) {f : FuncId} {fn : Func} (hf : P.funcs[f]? = some fn) (hb : fn.body.isSome = true) (args : Array Value) (w : World) : (callFunc f args).run P w = .ok (.enter f args) w := by
 have hn := hP.names f fn hf
 have hb' : fn.body.isNone = false := by cases h : fn.body <;> simp_all
 simp only [callFunc, Sem.run_bind, run_program, Result.andThen_ok, hf, hn, hb', Bool.false_eq_true, if_false, Sem.run_pure]

theorem doOp_loops {P : Program} {cf : Oracle} (hcf : Sound P cf) {o : Oper} {a : Env} {H H1 : AH} {v : Value} (hL : LoopsOk P N H) (h : doOp P cf o a H = some (v, H1)) : LoopsOk P N H1 := by
 unfold doOp at h
 cases hr : aop P o.op o.type (evA a) H with
 | none => rw [hr] at h; cases h
 | some r =>
  rw [hr] at h; cases r with
  | val u H2 => cases h; exact aop_loops hL hr (.inl ⟨_, rfl⟩)
  | skip H2 => cases h; exact aop_loops hL hr (.inr rfl)
  | call f args => exact hcf.loops _ _ _ _ _ _ h hL
  | yld l args => exact hcf.loops _ _ _ _ _ _ h hL

theorem doOp_soundρ {P : Program} (hP : POk P) {cf : Oracle} (hcf : Sound P cf) {r : Option Nat} {m : Mp} {H H1 : AH} {w : World} {a : Env} {act : Act} {o : Oper} {v : Value} (hR : Rel m H w) (hG : GOk P m) (hL : LoopsOk P N H) (hρ : ∀ x ∈ o.op.operands, VR m (evA a x) (act.eval x))
  (h : doOp P cf o a H = some (v, H1)) {K : Act → World → Prop} {Q : Exit → Act → World → Prop} (hK : ∀ v' m1 w1, VR m1 v v' → Stp m H w m1 H1 w1 → K (act.put o.dst v') w1) : o.wpIn (fen r) 0 P act w K Q := by
 refine ⟨fun f _ => fen_fn r f, ?_⟩
 unfold doOp at h
 cases hr : aop P o.op o.type (evA a) H with
 | none => rw [hr] at h; cases h
 | some q =>
  rw [hr] at h; have hnx := op_sound hP hR hρ hr; have hsem : o.semAt (fen r).round act.eval = execOp act.eval o := Oper.semAt_eq _ _ _ (fun c hc => by rw [hc] at hr; cases hr); rw [hsem]; cases q with
  | val u H2 =>
   cases h; obtain ⟨v', w1, m1, h1, h2, h3⟩ := hnx; rw [h1]; exact hK _ _ _ h3 h2
  | skip H2 =>
   cases h; obtain ⟨w1, m1, h1, h2⟩ := hnx; rw [h1]; exact hK _ _ _ .undef h2
  | call f args =>
   obtain ⟨args', h1, h2⟩ := hnx; obtain ⟨fn, hf, hc | ⟨hb, v', w', hc, m1, hv, hs⟩⟩ := hcf.fn _ _ _ _ _ _ h hL m w args' hR hG h2
   ·rw [h1, callFunc_enter hP hf hc.1]
    refine ⟨fun hd => (by rw [fen_depth] at hd; cases hd), (callsIn_fen hc.2).mono fun e w' he => ?_⟩; obtain ⟨v', rfl, m1, hv, hs⟩ := he; exact hK _ _ _ hv hs
   ·rw [h1, hc]; exact hK _ _ _ hv hs
  | yld l args =>
   obtain ⟨pl, args', hm, h1, h2⟩ := hnx; obtain ⟨fn, tmps, asg, body, hy, hc⟩ := hcf.yld _ _ _ _ _ _ h hL m w args' pl hm hR hG h2; rw [h1, hy]; refine ⟨fun hd => (by rw [fen_depth] at hd; cases hd), (roundIn_fen hc).mono fun e w' he => ?_⟩; obtain ⟨v', rfl, m1, hv, hs⟩ := he; exact hK _ _ _ hv hs

theorem doOp_sound {P : Program} (hP : POk P) {cf : Oracle} (hcf : Sound P cf) {r : Option Nat} {m : Mp} {H H1 : AH} {w : World} {a : Env} {act : Act} {o : Oper} {v : Value} (hR : Rel m H w) (hG : GOk P m) (hL : LoopsOk P N H) (ha : VRL m a act.tmps.toList) (ho : operOk P o = true)
  (h : doOp P cf o a H = some (v, H1)) {K : Act → World → Prop} {Q : Exit → Act → World → Prop} (hK : ∀ v' m1 w1, VR m1 v v' → Stp m H w m1 H1 w1 → K (act.put o.dst v') w1) : o.wpIn (fen r) 0 P act w K Q :=
 doOp_soundρ hP hcf hR hG hL (oper_vr hG ha ho) h hK

theorem evalOps_loops {P : Program} {cf : Oracle} (hcf : Sound P cf) {ops : Array Oper} : ∀ (l : List Oper) (a a' : Env) (H H1 : AH), LoopsOk P N H → evalOps P cf ops l a H = some (a', H1) → LoopsOk P N H1 := by
 intro l
 induction l with
 | nil => intro a a' H H1 hL h; cases h; exact hL
 | cons o r ih =>
  intro a a' H H1 hL h; simp only [evalOps] at h; split at h
  ·obtain ⟨⟨v, H2⟩, h1, h2⟩ := Option.bind_eq_some_iff.1 h
   exact ih _ _ _ _ (doOp_loops hcf hL h1) h2
  ·exact ih _ _ _ _ hL h

theorem evalOps_sound {P : Program} (hP : POk P) {cf : Oracle} (hcf : Sound P cf) {r : Option Nat} {ops : Array Oper} {Q : Exit → Act → World → Prop} (hops : ops.toList.all (operOk P) = true) :
  ∀ (n k : Nat) (a a' : Env) (H H1 : AH) (m : Mp) (w : World) (act : Act), k + n = ops.size → evalOps P cf ops (ops.toList.drop k) a H = some (a', H1) → Rel m H w → GOk P m → LoopsOk P N H → VRL m a act.tmps.toList →
   (∀ act' m1 w1, VRL m1 a' act'.tmps.toList → act'.defers = act.defers → Stp m H w m1 H1 w1 → Q .normal act' w1) → wpOpsIn (fen r) 0 P ops Q (List.range' k n) act w := by
 intro n
 induction n with
 | zero =>
  intro k a a' H H1 m w act hk h hR hG hL ha hQ; rw [List.drop_of_length_le (by simp; omega)] at h; cases h; exact hQ act m w ha rfl (.refl hR)
 | succ n ih =>
  intro k a a' H H1 m w act hk h hR hG hL ha hQ; have hlt : k < ops.size := by omega
  have hd : ops.toList.drop k = ops[k] :: ops.toList.drop (k + 1) := by
   rw [List.drop_eq_getElem_cons (by simpa using hlt)]; simp
  rw [hd] at h; have ho : operOk P ops[k] = true := List.all_eq_true.1 hops _ (by simp); rw [List.range'_succ]; simp only [wpOpsIn, Array.getElem?_eq_getElem hlt]; rw [wanted_vr ha]; simp only [evalOps] at h; split at h
  ·rename_i hw
   rw [if_pos hw]; obtain ⟨⟨v, H2⟩, h1, h2⟩ := Option.bind_eq_some_iff.1 h; refine doOp_sound hP hcf hR hG hL ha ho h1 fun v' m1 w1 hv hs => ?_
   have hle := hs.le hR; refine ih (k + 1) _ a' H2 H1 m1 w1 _ (by omega) h2 hs.rel (hG.mono hle) (doOp_loops hcf hL h1) (putA_vr (ha.mono hle) _ hv) fun act' m2 w2 g1 g2 g3 => hQ act' m2 w2 g1 ?_ (hs.trans g3)
   rw [g2]; cases ops[k].dst <;> rfl
  ·rename_i hw
   rw [if_neg hw]; refine ⟨fun f _ => fen_fn r f, ih (k + 1) _ a' H H1 m w _ (by omega) h hR hG hL (putA_vr ha _ .undef) fun act' m2 w2 g1 g2 g3 => hQ act' m2 w2 g1 ?_ g3⟩; rw [g2]; cases ops[k].dst <;> rfl

end Go.AM
