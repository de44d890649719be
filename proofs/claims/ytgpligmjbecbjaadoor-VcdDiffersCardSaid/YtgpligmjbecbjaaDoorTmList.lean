/- Lists of functions with what they come to. -/

import Derived.Test.YtgpligmjbecbjaaDoorTmRow
import Derived.Test.YtgpligmjbecbjaaDoorAmClone
set_option linter.unusedVariables false
set_option linter.unusedSimpArgs false
set_option linter.unusedSectionVars false
namespace Go.TM
open Go Go.AM

def eqNs : List Nat → List Nat → Bool
 | [], [] => true
 | a :: r, b :: s => Nat.beq a b && eqNs r s
 | _, _ => false
def findA (c : List Nat) (b : Nat) : List (List Nat × Nat × List Sh) → Option (List Sh)
 | [] => none
 | x :: r => cond (Nat.beq x.2.1 b && eqNs x.1 c) (some x.2.2) (findA c b r)
def findS (f : Nat) : List (Nat × FSpec) → Option FSpec
 | [] => none
 | x :: r => cond (Nat.beq x.1 f) (some x.2) (findS f r)
theorem findS_cons {f g : Nat} {sp : FSpec} {L : List (Nat × FSpec)} : findS g ((f, sp) :: L) = if f = g then some sp else findS g L := by
 show cond (Nat.beq f g) (some sp) (findS g L) = _
 by_cases e : f = g
 ·subst e; rw [if_pos rfl, Nat.beq_refl]; rfl
 ·rw [if_neg e, show Nat.beq f g = false from by cases h : Nat.beq f g with | false => rfl | true => exact absurd (Nat.eq_of_beq_eq_true h) e]; rfl

variable {P : Program} {S : Summ} [EqV]
def OKL (P : Program) (S : Summ) (effs : Nat → Option (List TV → THp → Res)) [EqV] (L : List (Nat × FSpec)) : Prop := (∀ g, findS g L = none → effs g = none → S g = none) ∧ ∀ f sp, findS f L = some sp → SpecOK (evL P S) f sp
structure TBase (P : Program) (S : Summ) (gl : Nat → Option (List TV)) (effs : Nat → Option (List TV → THp → Res)) [EqV] : Prop where
 same : ∀ v, EqV.eq v v = true
 gl : GlOK gl
 eff : ∀ f ef, effs f = some ef → EffOK (evL P S) f ef
theorem OKL.cons {gl : Nat → Option (List TV)} {ann : List Nat → Nat → Option (List Sh)} {effs : Nat → Option (List TV → THp → Res)} (B : TBase P S gl effs) {L : List (Nat × FSpec)} (h : OKL P S effs L) {f n : Nat} {mo : Bool} {args res : List Ty} {own : List Ow} {F : Tys args → Option (Tys res)}
  (hSf : findS f L = none) (hef : effs f = none) (hF : ∀ x, F x = tmFun P gl ann itS (fun g => findS g L) effs n f mo args res own x) : OKL P S effs ((f, ⟨args, res, own, F⟩) :: L) := by
 refine ⟨fun g hg he => ?_, fun g sp hg => ?_⟩
 ·rw [findS_cons] at hg
  split at hg
  ·cases hg
  ·exact h.1 g hg he
 ·rw [findS_cons] at hg
  split at hg
  ·rename_i e; subst e
   cases hg
   have := tmFun_ok (P := P) (S := S) (ann := ann) (specs := fun g => findS g L) h.1 (h.1 f hSf hef) B.same B.gl itS_ok h.2 B.eff n mo args res own
   rw [show F = tmFun P gl ann itS (fun g => findS g L) effs n f mo args res own from funext hF]
   exact this
  ·exact h.2 g sp hg
theorem OKL.get {effs : Nat → Option (List TV → THp → Res)} {L : List (Nat × FSpec)} (h : OKL P S effs L) {f : Nat} {sp : FSpec} (e : findS f L = some sp) : SpecOK (evL P S) f sp := h.2 f sp e

theorem evL_tab {f : Nat} {s : List Value → AH → Option (Value × AH)} (hS : S f = some s) {args : List Value} {H : AH} {r : Value × AH} (h : s args H = some r) : evL P S (.fn f) args H = some r := by
 refine evL_of ⟨1, fun k hk => ?_⟩
 obtain ⟨k, rfl⟩ : ∃ i, k = i + 1 := ⟨k - 1, by omega⟩
 simp only [ev, Summ.ap, hS, h]
theorem SpecOK.tab {f : Nat} {s : List Value → AH → Option (Value × AH)} (hS : S f = some s) {args res : List Ty} {own : List Ow} {F : Tys args → Option (Tys res)}
  (h : ∀ x y G (H : AH) vals, F x = some y → ArgsR G args x vals → ∃ vs rs, s vals H = some (packV (isAg res own) vs, H) ∧ ResR G H res own y vs rs ∧ ∀ k ∈ rs, ∀ b, ¬ k.has b) : SpecOK (evL P S) f ⟨args, res, own, F⟩ := by
 intro x y hy G H vals hG hA
 obtain ⟨vs, rs, h1, h2, h3⟩ := h x y G H vals hy hA
 exact ⟨vs, H, G, rs, evL_tab hS h1, Nat.le_refl _, fun _ _ => rfl, .refl _, fun b c h => .inl h, hG, h2, fun k hk b hb => absurd hb (h3 k hk b)⟩
end Go.TM
namespace Go.TM
open Go Go.AM
variable {P : Program} {S : Summ} [EqV]
end Go.TM
namespace Go.TM
open Go Go.AM
variable {P : Program} {S : Summ} [EqV]
theorem SpecOK.tab2 {f : Nat} {s : List Value → AH → Option (Value × AH)} (hS : S f = some s) {args res : List Ty} {own : List Ow} {F : Tys args → Option (Tys res)}
  (h : ∀ x y G (H : AH) vals, F x = some y → GrOK G H → ArgsR G args x vals → ∃ vs rs, s vals H = some (packV (isAg res own) vs, H) ∧ ResR G H res own y vs rs ∧ ∀ k ∈ rs, ∀ b, ¬ k.has b) : SpecOK (evL P S) f ⟨args, res, own, F⟩ := by
 intro x y hy G H vals hG hA
 obtain ⟨vs, rs, h1, h2, h3⟩ := h x y G H vals hy hG hA
 exact ⟨vs, H, G, rs, evL_tab hS h1, Nat.le_refl _, fun _ _ => rfl, .refl _, fun b c h => .inl h, hG, h2, fun k hk b hb => absurd hb (h3 k hk b)⟩
theorem smClone_spec {v : Value} {l : List (List UInt8)} {G : Nat → Option (List Value)} {H : AH} (hl : l.length ≤ 100000) (hG : GrOK G H) (hv : ValR G (.slice .str) l v) :
  ∃ d, smClone [v] H.get = some d ∧ ValR (fun _ => none) (.slice .str) l d := by
 have rows : ∀ (c : List Value), l.length ≤ c.length → Rows (DC G .str) 1 c l → (c.take l.length).mapM strOf? = some (l.map fun x => ⟨x.toArray⟩) := by
  intro c hc hr
  have e : c.take l.length = l.map fun x => Value.string ⟨x.toArray⟩ := by
   apply List.ext_getElem
   ·simp; omega
   ·intro i h1 h2
    simp only [List.length_map] at h2
    obtain ⟨k1, k2⟩ := hr i h2
    have k3 : (c.drop (i * 1)).take 1 = [Value.string ⟨(l[i]).toArray⟩] := k2
    rw [Nat.mul_one] at k3
    have k4 : c[i]? = some (Value.string ⟨(l[i]).toArray⟩) := by
     have := congrArg (fun z => z[0]?) k3
     simpa [List.getElem?_drop] using this
    rw [List.getElem_take, List.getElem_map]
    exact (List.getElem?_eq_some_iff.1 k4).2
  rw [e]
  clear e hr hc hl hv
  induction l with
  | nil => rfl
  | cons a r ih => simp only [List.map_cons, List.mapM_cons, strOf?]; rw [ih]; rfl
 have fin : ∀ (s : String) (x : Array Value), ValR (fun _ => none) (.slice .str) l (.func (.methodOf l.length s) ((l.map fun x => (⟨x.toArray⟩ : ByteArray)).map Value.string).toArray x) := by
  intro s x
  refine ⟨_, rfl, .inr (.inl ⟨s, _, x, rfl, by simp [Ty.size], fun i hi => ⟨by simp [Ty.size]; omega, ?_⟩⟩)⟩
  show _ = _
  simp only [Ty.size, Nat.mul_one, List.map_map]
  apply List.ext_getElem
  ·simp; omega
  ·intro j h1 h2
   simp at h2
   subst h2
   simp
 obtain ⟨v', e, h⟩ := (show ∃ v', [v] = [v'] ∧ DS G 1 (DC G .str) l v' from hv)
 cases e
 rcases h with ⟨rfl, rfl⟩ | ⟨s, cs, x, rfl, h1, h2⟩ | ⟨b, off, z, c, rfl, hz, hb, h1, h2⟩
 ·exact ⟨_, rfl, ⟨_, rfl, .inl ⟨rfl, rfl⟩⟩⟩
 ·refine ⟨_, ?_, fin "s" #[]⟩
  unfold smClone
  simp only
  rw [rows cs.toList (by simpa using h1) h2]
  simp [hl]
 ·refine ⟨_, ?_, fin "s" #[]⟩
  unfold smClone
  obtain ⟨-, ow, sz, ty, hget⟩ := hG b c hb
  simp only
  rw [hget]
  simp only
  rw [rows (c.drop off) (by simp; omega) h2]
  simp [hl]
end Go.TM
