/- strings.Join by the shelf's contract, as a summary of AM. -/

import Derived.Test.YtgpligmjbecbjaaGreatDoorAmShelf
import Derived.Shelf.Strings.OnBuilder
set_option linter.unusedVariables false
namespace Go.AM
open Go Go.Proofs Go.Shelf Go.RowKit
def strOf? : Value → Option ByteArray
 | .string s => some s
 | _ => none
def smJoin (args : List Value) (get : Nat → AObj) : Option Value :=
 match args with
 | [.slice none 0 0, .string _] => some (.string ⟨#[]⟩)
 | [.slice (some ⟨b, off, none⟩) n _, .string sep] => match get b with
  | .cells c _ _ _ => match ((c.drop off).take n).mapM strOf? with
   | some xs => if 0 < n ∧ xs.length = n ∧ n ≤ 100000 ∧ (Lib.join (xs.map (·.data.toList)) sep.data.toList).length ≤ 1000000 then some (.string ⟨(Lib.join (xs.map (·.data.toList)) sep.data.toList).toArray⟩) else none
   | none => none
  | _ => none
 | [.func (.methodOf n _) cs _, .string sep] => match (cs.toList.take n).mapM strOf? with
  | some xs => if 0 < n ∧ xs.length = n ∧ n ≤ 100000 ∧ (Lib.join (xs.map (·.data.toList)) sep.data.toList).length ≤ 1000000 then some (.string ⟨(Lib.join (xs.map (·.data.toList)) sep.data.toList).toArray⟩) else none
  | none => none
 | _ => none
theorem strs_at : ∀ (vs : List Value) (xs : List ByteArray), vs.mapM strOf? = some xs → ∀ (j : Nat) (x : ByteArray), xs[j]? = some x → vs[j]? = some (.string x) := by
 intro vs
 induction vs with
 | nil => intro l h j x hx; simp at h; subst h; simp at hx
 | cons v r ih =>
  intro l h j x hx; simp only [List.mapM_cons, Option.bind_eq_bind, Option.bind_eq_some_iff, Option.pure_def, Option.some.injEq] at h; obtain ⟨b, hb, bs, hbs, rfl⟩ := h; unfold strOf? at hb; split at hb
  ·cases hb
   cases j with
   | zero => simp at hx; subst hx; rfl
   | succ j => simpa using ih bs hbs j x (by simpa using hx)
  ·cases hb
variable [EqV]
end Go.AM
