/- Lists of functions with what they come to. -/

import Derived.Test.YtomnbibmflodlaaDoorTmRow
set_option linter.unusedVariables false
set_option linter.unusedSimpArgs false
set_option linter.unusedSectionVars false
namespace Go.TM
open Go Go.AM

def eqNs : List Nat → List Nat → Bool
 | [], [] => true
 | a :: r, b :: s => Nat.beq a b && eqNs r s
 | _, _ => false
def findA (c : List Nat) (b : Nat) : List (List Nat × Nat × List Sh) → Option (List Sh)
 | [] => none
 | x :: r => cond (Nat.beq x.2.1 b && eqNs x.1 c) (some x.2.2) (findA c b r)
def findS (f : Nat) : List (Nat × FSpec) → Option FSpec
 | [] => none
 | x :: r => cond (Nat.beq x.1 f) (some x.2) (findS f r)
theorem findS_cons {f g : Nat} {sp : FSpec} {L : List (Nat × FSpec)} : findS g ((f, sp) :: L) = if f = g then some sp else findS g L := by
 show cond (Nat.beq f g) (some sp) (findS g L) = _
 by_cases e : f = g
 ·subst e; rw [if_pos rfl, Nat.beq_refl]; rfl
 ·rw [if_neg e, show Nat.beq f g = false from by cases h : Nat.beq f g with | false => rfl | true => exact absurd (Nat.eq_of_beq_eq_true h) e]; rfl

variable {P : Program} {S : Summ} [EqV]
def OKL (P : Program) (S : Summ) (effs : Nat → Option (List TV → THp → Res)) [EqV] (L : List (Nat × FSpec)) : Prop := (∀ g, findS g L = none → effs g = none → S g = none) ∧ ∀ f sp, findS f L = some sp → SpecOK (evL P S) f sp
structure TBase (P : Program) (S : Summ) (gl : Nat → Option (List TV)) (effs : Nat → Option (List TV → THp → Res)) [EqV] : Prop where
 same : ∀ v, EqV.eq v v = true
 gl : GlOK gl
 eff : ∀ f ef, effs f = some ef → EffOK (evL P S) f ef
theorem OKL.cons {gl : Nat → Option (List TV)} {ann : List Nat → Nat → Option (List Sh)} {effs : Nat → Option (List TV → THp → Res)} (B : TBase P S gl effs) {L : List (Nat × FSpec)} (h : OKL P S effs L) {f n : Nat} {mo : Bool} {args res : List Ty} {own : List Ow} {F : Tys args → Option (Tys res)}
  (hSf : findS f L = none) (hef : effs f = none) (hF : ∀ x, F x = tmFun P gl ann itS (fun g => findS g L) effs n f mo args res own x) : OKL P S effs ((f, ⟨args, res, own, F⟩) :: L) := by
 refine ⟨fun g hg he => ?_, fun g sp hg => ?_⟩
 ·rw [findS_cons] at hg
  split at hg
  ·cases hg
  ·exact h.1 g hg he
 ·rw [findS_cons] at hg
  split at hg
  ·rename_i e; subst e
   cases hg
   have := tmFun_ok (P := P) (S := S) (ann := ann) (specs := fun g => findS g L) h.1 (h.1 f hSf hef) B.same B.gl itS_ok h.2 B.eff n mo args res own
   rw [show F = tmFun P gl ann itS (fun g => findS g L) effs n f mo args res own from funext hF]
   exact this
  ·exact h.2 g sp hg
theorem OKL.get {effs : Nat → Option (List TV → THp → Res)} {L : List (Nat × FSpec)} (h : OKL P S effs L) {f : Nat} {sp : FSpec} (e : findS f L = some sp) : SpecOK (evL P S) f sp := h.2 f sp e

theorem evL_tab {f : Nat} {s : List Value → AH → Option (Value × AH)} (hS : S f = some s) {args : List Value} {H : AH} {r : Value × AH} (h : s args H = some r) : evL P S (.fn f) args H = some r := by
 refine evL_of ⟨1, fun k hk => ?_⟩
 obtain ⟨k, rfl⟩ : ∃ i, k = i + 1 := ⟨k - 1, by omega⟩
 simp only [ev, Summ.ap, hS, h]
theorem SpecOK.tab {f : Nat} {s : List Value → AH → Option (Value × AH)} (hS : S f = some s) {args res : List Ty} {own : List Ow} {F : Tys args → Option (Tys res)}
  (h : ∀ x y G (H : AH) vals, F x = some y → ArgsR G args x vals → ∃ vs rs, s vals H = some (tupleOf vs, H) ∧ ResR G H res own y vs rs ∧ ∀ k ∈ rs, ∀ b, ¬ k.has b) : SpecOK (evL P S) f ⟨args, res, own, F⟩ := by
 intro x y hy G H vals hG hA
 obtain ⟨vs, rs, h1, h2, h3⟩ := h x y G H vals hy hA
 exact ⟨vs, H, G, rs, evL_tab hS h1, Nat.le_refl _, fun _ _ => rfl, .refl _, fun b c h => .inl h, hG, h2, fun k hk b hb => absurd hb (h3 k hk b)⟩
end Go.TM
namespace Go.TM
open Go Go.AM
variable {P : Program} {S : Summ} [EqV]
end Go.TM
