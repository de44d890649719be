/- AM without fuel for loops: equations to compute with; what it comes to, the evaluator with fuel comes to. -/

import Derived.Test.YtgpligmjbecbjaaGreatDoorAmSeal
set_option linter.unusedVariables false
set_option linter.unusedSimpArgs false
set_option linter.unusedSectionVars false
namespace Go.AM
open Go
variable [EqV]

abbrev Rs := Option (AEx × Env × AH)
def iterW (f : Env → AH → Rs) (a : Env) (H : AH) : Rs := match f a H with
 | some (.normal, a', H') => iterW f a' H'
 | r => r
partial_fixpoint

def wCode (P : Program) (cf : Oracle) : Code → Env → AH → Rs
 | .skip, a, H | .label _, a, H => some (.normal, a, H)
 | .region _ ops draw, a, H => (evalRegion P cf ops draw a H).map fun x => (.normal, x.1, x.2)
 | .seq x y, a, H => match wCode P cf x a H with
  | some (.normal, a', H') => wCode P cf y a' H'
  | r => r
 | .cond c t e, a, H => match evA a c with
  | .bool true => wCode P cf t a H
  | .bool false => wCode P cf e a H
  | _ => none
 | .block id b, a, H => match wCode P cf b a H with
  | some (.exit id', a', H') => if id' = id then some (.normal, a', H') else some (.exit id', a', H')
  | r => r
 | .loop b, a, H => iterW (fun a H => wCode P cf b a H) a H
 | .exit id, a, H => some (.exit id, a, H)
 | .ret, a, H => some (.ret, a, H)
 | .rangeFunc f ps asg body, a, H => match evA a f with
  | .func (.func g) first captured =>
   if (P.funcs[g]?).any (·.body.isSome) = false then none else
   match cf (.fn g) (first.toList ++ [.func (.yield H.next) #[] #[]] ++ captured.toList) (H.push (.loop a ps.toList asg body 0 none)) with
   | some (_, H2) => match H2.get H.next with
    | .loop _ _ _ _ st pend => if st = 1 then none else (jumpOf pend).map fun e => (e, a, H2.set H.next .dead)
    | _ => none
   | none => none
  | _ => none
 | .scope b, a, H => wCode P cf b a H
 | .goto _, _, _ | .refuse _, _, _ => none

def Lim (cf : Oracle) (cfk : Nat → Oracle) : Prop := ∀ t args H r, cf t args H = some r → ∃ n, ∀ k, n ≤ k → cfk k t args H = some r

theorem doOp_lim {P : Program} {cf : Oracle} {cfk : Nat → Oracle} (h : Lim cf cfk) {o : Oper} {a : Env} {H : AH} {r : Value × AH} (hr : doOp P cf o a H = some r) : ∃ n, ∀ k, n ≤ k → doOp P (cfk k) o a H = some r := by
 unfold doOp at hr ⊢
 cases hq : aop P o.op o.type (evA a) H with
 | none => rw [hq] at hr; cases hr
 | some q =>
  rw [hq] at hr; cases q with
  | val v H1 => exact ⟨0, fun k _ => hr⟩
  | skip H1 => exact ⟨0, fun k _ => hr⟩
  | call f args => exact h _ _ _ _ hr
  | yld l args => exact h _ _ _ _ hr
theorem evalOps_lim {P : Program} {cf : Oracle} {cfk : Nat → Oracle} (h : Lim cf cfk) {ops : Array Oper} : ∀ (l : List Oper) (a : Env) (H : AH) (r : Env × AH), evalOps P cf ops l a H = some r → ∃ n, ∀ k, n ≤ k → evalOps P (cfk k) ops l a H = some r := by
 intro l
 induction l with
 | nil => intro a H r hr; exact ⟨0, fun k _ => hr⟩
 | cons o l ih =>
  intro a H r hr; simp only [evalOps] at hr ⊢; split at hr
  ·rename_i hw
   obtain ⟨x, h1, h2⟩ := Option.bind_eq_some_iff.1 hr; obtain ⟨n1, g1⟩ := doOp_lim h h1; obtain ⟨n2, g2⟩ := ih _ _ _ h2; refine ⟨max n1 n2, fun k hk => ?_⟩; rw [if_pos hw, g1 k (by omega)]; exact g2 k (by omega)
  ·rename_i hw
   obtain ⟨n2, g2⟩ := ih _ _ _ hr; exact ⟨n2, fun k hk => by rw [if_neg hw]; exact g2 k hk⟩
theorem evalDraw_lim {P : Program} {cf : Oracle} {cfk : Nat → Oracle} (h : Lim cf cfk) {ops : Array Oper} : ∀ (l : List Oper) (i : Nat) (a : Env) (H : AH) (rs : List Rec) (r : Env × AH × List Rec), evalDraw P cf ops l i a H rs = some r → ∃ n, ∀ k, n ≤ k → evalDraw P (cfk k) ops l i a H rs = some r := by
 intro l
 induction l with
 | nil => intro i a H rs r hr; exact ⟨0, fun k _ => hr⟩
 | cons o l ih =>
  intro i a H rs r hr; simp only [evalDraw] at hr ⊢; split at hr
  ·rename_i hw
   obtain ⟨x, h1, h2⟩ := Option.bind_eq_some_iff.1 hr; obtain ⟨n1, g1⟩ := doOp_lim h h1; obtain ⟨n2, g2⟩ := ih _ _ _ _ _ h2; refine ⟨max n1 n2, fun k hk => ?_⟩; rw [if_pos hw, g1 k (by omega)]; exact g2 k (by omega)
  ·rename_i hw
   obtain ⟨n2, g2⟩ := ih _ _ _ _ _ hr; exact ⟨n2, fun k hk => by rw [if_neg hw]; exact g2 k hk⟩
theorem evalRegion_lim {P : Program} {cf : Oracle} {cfk : Nat → Oracle} (h : Lim cf cfk) {ops : Array Oper} {d : Bool} {a : Env} {H : AH} {r : Env × AH} (hr : evalRegion P cf ops d a H = some r) : ∃ n, ∀ k, n ≤ k → evalRegion P (cfk k) ops d a H = some r := by
 unfold evalRegion at hr ⊢
 cases d with
 | false => simpa using evalOps_lim h _ _ _ _ (by simpa using hr)
 | true =>
  simp only [if_true] at hr ⊢; split at hr
  ·rename_i hok
   simp only [hok, if_true]; split at hr
   ·rename_i a' H' rs he
    obtain ⟨n, g⟩ := evalDraw_lim h _ _ _ _ _ _ he; exact ⟨n, fun k hk => by rw [g k hk]; exact hr⟩
   ·cases hr
  ·cases hr

theorem iterW_lim {f : Env → AH → Rs} {fk : Nat → Env → AH → Rs} (h : ∀ a H r, f a H = some r → ∃ n, ∀ k, n ≤ k → fk k a H = some r) : ∀ (a : Env) (H : AH) (r : AEx × Env × AH), iterW f a H = some r → ∃ n m, ∀ k j, n ≤ k → m ≤ j → iter (α := Unit) (fk k) j a H = some r := by
 refine iterW.partial_correctness f (fun a H r => ∃ n m, ∀ k j, n ≤ k → m ≤ j → iter (α := Unit) (fk k) j a H = some r) ?_
 intro g ih a H r hr
 cases hf : f a H with
 | none => rw [hf] at hr; cases hr
 | some q =>
  obtain ⟨n1, g1⟩ := h _ _ _ hf; rw [hf] at hr; obtain ⟨e, a', H'⟩ := q; cases e with
  | normal =>
   obtain ⟨n, m, g2⟩ := ih _ _ _ hr; refine ⟨max n1 n, m + 1, fun k j hk hj => ?_⟩; obtain ⟨j, rfl⟩ : ∃ i, j = i + 1 := ⟨j - 1, by omega⟩; simp only [iter, g1 k (by omega)]; exact g2 k j (by omega) (by omega)
  | exit id =>
   refine ⟨n1, 1, fun k j hk hj => ?_⟩; obtain ⟨j, rfl⟩ : ∃ i, j = i + 1 := ⟨j - 1, by omega⟩; simp only [iter, g1 k (by omega)]; exact hr
  | ret =>
   refine ⟨n1, 1, fun k j hk hj => ?_⟩; obtain ⟨j, rfl⟩ : ∃ i, j = i + 1 := ⟨j - 1, by omega⟩; simp only [iter, g1 k (by omega)]; exact hr

theorem wCode_lim {P : Program} {cf : Oracle} {cfk : Nat → Oracle} (h : Lim cf cfk) : ∀ (c : Code) (a : Env) (H : AH) (r : AEx × Env × AH), wCode P cf c a H = some r → ∃ n, ∀ k, n ≤ k → evalCode P (cfk k) k c a H = some r := by
 intro c
 induction c with
 | skip => intro a H r hr; exact ⟨0, fun k _ => hr⟩
 | label l => intro a H r hr; exact ⟨0, fun k _ => hr⟩
 | exit id => intro a H r hr; exact ⟨0, fun k _ => hr⟩
 | ret => intro a H r hr; exact ⟨0, fun k _ => hr⟩
 | scope c ih =>
  intro a H r hr; simp only [wCode] at hr; obtain ⟨n, g⟩ := ih a H r hr; exact ⟨n, fun k hk => by simp only [evalCode]; exact g k hk⟩
 | goto l => intro a H r hr; cases hr
 | refuse w => intro a H r hr; cases hr
 | region id ops d =>
  intro a H r hr; simp only [wCode] at hr; obtain ⟨x, h1, rfl⟩ := Option.map_eq_some_iff.1 hr; obtain ⟨n, g⟩ := evalRegion_lim h h1; exact ⟨n, fun k hk => by simp only [evalCode, g k hk, Option.map_some]⟩
 | seq x y ihx ihy =>
  intro a H r hr; simp only [wCode] at hr; split at hr
  ·rename_i a' H' hx
   obtain ⟨n1, g1⟩ := ihx _ _ _ hx; obtain ⟨n2, g2⟩ := ihy _ _ _ hr; exact ⟨max n1 n2, fun k hk => by simp only [evalCode, g1 k (by omega)]; exact g2 k (by omega)⟩
  ·rename_i hno
   obtain ⟨n1, g1⟩ := ihx _ _ _ hr; refine ⟨n1, fun k hk => ?_⟩; simp only [evalCode, g1 k hk]; obtain ⟨e, a', H'⟩ := r; cases e with
   | normal => exact absurd hr (hno _ _)
   | _ => rfl
 | cond c t e iht ihe =>
  intro a H r hr; simp only [wCode] at hr; split at hr
  ·rename_i hc
   obtain ⟨n, g⟩ := iht _ _ _ hr; exact ⟨n, fun k hk => by simp only [evalCode, hc]; exact g k hk⟩
  ·rename_i hc
   obtain ⟨n, g⟩ := ihe _ _ _ hr; exact ⟨n, fun k hk => by simp only [evalCode, hc]; exact g k hk⟩
  ·cases hr
 | block id b ih =>
  intro a H r hr; simp only [wCode] at hr; split at hr
  ·rename_i id' a' H' hb
   obtain ⟨n, g⟩ := ih _ _ _ hb; exact ⟨n, fun k hk => by simp only [evalCode, g k hk]; exact hr⟩
  ·rename_i hno
   obtain ⟨n, g⟩ := ih _ _ _ hr; refine ⟨n, fun k hk => ?_⟩; simp only [evalCode, g k hk]; obtain ⟨e, a', H'⟩ := r; cases e with
   | exit id' => exact absurd hr (hno _ _ _)
   | _ => rfl
 | loop b ih =>
  intro a H r hr; simp only [wCode] at hr; obtain ⟨n, m, g⟩ := iterW_lim (fk := fun k a H => evalCode P (cfk k) k b a H) (fun a H r => ih a H r) a H r hr; exact ⟨max n m, fun k hk => by simp only [evalCode]; exact g k k (by omega) (by omega)⟩
 | rangeFunc f ps asg body _ _ =>
  intro a H r hr; simp only [wCode] at hr; split at hr
  ·rename_i g first captured hf
   split at hr
   ·cases hr
   ·rename_i hb
    split at hr
    ·rename_i v H2 hc
     obtain ⟨n, gn⟩ := h _ _ _ _ hc; refine ⟨n, fun k hk => ?_⟩; simp only [evalCode, hf]; rw [if_neg hb, gn k hk]; exact hr
    ·cases hr
  ·cases hr

def wev (P : Program) (S : Summ) : Nat → Oracle
 | 0, _, _, _ => none
 | n + 1, .fn f, args, H => match S.ap f args H with
  | some r => some r
  | none => match P.funcs[f]? with
   | some fn => match fn.body with
    | some c => match wCode P (wev P S n) c (args ++ List.replicate (fn.ntmps - args.length) undef) H with
     | some (.exit _, _, _) | none => none
     | some (_, a', H') => (aresults P fn a' H').map fun v => (v, H')
    | none => aextern P f args H
   | none => none
 | n + 1, .yld l, args, H => match H.get l with
  | .loop tmps ps asg body 0 none =>
   if args.length = ps.length then
    match wCode P (wev P S n) asg (putAll tmps (ps.zip args)) H with
    | some (.normal, a1, H1) => match H1.get l with
     | .loop tmps' ps' asg' body' 0 pend' => match wCode P (wev P S n) body a1 (H1.set l (.loop tmps' ps' asg' body' 1 pend')) with
      | some (e, _, H2) => match H2.get l with
       | .loop tmps' ps' asg' body' _ _ => some (match e with
        | .normal => (.bool true, H2.set l (.loop tmps' ps' asg' body' 0 none))
        | .ret => (.bool false, H2.set l (.loop tmps' ps' asg' body' 2 (some .ret)))
        | .exit id => (.bool false, H2.set l (.loop tmps' ps' asg' body' 2 (some (.exit id)))))
       | _ => none
      | none => none
     | _ => none
    | _ => none
   else none
  | _ => none

abbrev Sm := List Value → AH → Option (Value × AH)
def Summ.put (S : Summ) (f : FuncId) (s : Sm) : Summ := fun g => if g = f then some s else S g
def Summ.none : Summ := fun _ => Option.none
def Does (P : Program) (S : Summ) (f : FuncId) (s : Sm) : Prop := ∀ args H v H1, s args H = some (v, H1) → ∃ n, wev P S n (.fn f) args H = some (v, H1)
def Pure (P : Program) (S : Summ) (f : FuncId) (s : List Value → Option Value) : Prop :=
 ∀ args H d, s args = some d → ∃ n v H1, wev P S n (.fn f) args H = some (v, H1) ∧ (∀ b, b < H.next → H1.get b = H.get b) ∧ Deep H1 H.next v d
def pureSm (s : List Value → Option Value) : Sm := fun args H => (s args).map fun v => (v, H)

end Go.AM
