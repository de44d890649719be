/- What bytealg.IndexByteString comes to. -/

import Derived.Test.YtgpligmjbecbjaaGreatDoorAmPure
import GoSem.Extern.BytealgIndexByte
set_option linter.unusedVariables false
set_option linter.unusedSimpArgs false
set_option linter.unusedSectionVars false
namespace Go.AM
open Go
theorem idxL_spec (n : Nat) : ∀ (l : List UInt8) (k : Nat), (idxL n l k = -1 ∧ ∀ (i : Nat) (h : i < l.length), l[i].toNat ≠ n) ∨ ∃ (i : Nat) (h : i < l.length), idxL n l k = ((k + i : Nat) : Int) ∧ l[i].toNat = n ∧ ∀ (j : Nat) (h : j < l.length), j < i → l[j].toNat ≠ n := by
 intro l
 induction l with
 | nil => intro k; exact .inl ⟨rfl, fun i h => by simp at h⟩
 | cons x r ih =>
  intro k; have e : idxL n (x :: r) k = (Bool.rec (idxL n r (Nat.succ k)) (Int.ofNat k) (Nat.beq x.toNat n) : Int) := rfl; rw [e]; by_cases h : x.toNat = n
  ·rw [nb_t h]
   exact .inr ⟨0, by simp, rfl, h, fun j _ hj => by omega⟩
  ·rw [nb_f h]
   rcases ih (Nat.succ k) with ⟨h1, h2⟩ | ⟨i, hi, h1, h2, h3⟩
   ·refine .inl ⟨h1, fun i hi => ?_⟩
    cases i with
    | zero => exact h
    | succ i => exact h2 i (by simpa using hi)
   ·refine .inr ⟨i + 1, by simpa using hi, ?_, h2, fun j hj hlt => ?_⟩
    ·show idxL n r (Nat.succ k) = _
     rw [h1]; congr 1; omega
    ·cases j with
     | zero => exact h
     | succ j => exact h3 j (by simpa using hj) (by omega)
theorem idx_find (n : Nat) (hn : n < 256) (l : List UInt8) : (match (List.range (ByteArray.mk ⟨l⟩).size).find? (fun i => (ByteArray.mk ⟨l⟩)[i]! == n.toUInt8) with | some i => (i : Int) | none => -1) = idxL n l 0 := by
 have hs : (ByteArray.mk ⟨l⟩).size = l.length := rfl
 have hp : ∀ (i : Nat) (h : i < l.length), ((ByteArray.mk ⟨l⟩)[i]! == n.toUInt8) = decide (l[i].toNat = n) := fun i h => by
  have e : (ByteArray.mk ⟨l⟩)[i]! = l[i] := by
   rw [getElem!_pos (ByteArray.mk ⟨l⟩) i (by rw [hs]; exact h)]; rfl
  rw [e]; by_cases q : l[i].toNat = n
  ·rw [decide_eq_true q]
   have : l[i] = n.toUInt8 := by
    apply UInt8.toNat_inj.1; rw [q]; simp [Nat.toUInt8]; omega
   rw [this]; simp
  ·rw [decide_eq_false q]
   have : l[i] ≠ n.toUInt8 := fun e => q (by rw [e]; simp [Nat.toUInt8]; omega)
   simpa using this
 rw [hs]
 rcases idxL_spec n l 0 with ⟨h1, h2⟩ | ⟨i, hi, h1, h2, h3⟩
 ·rw [h1]
  have : (List.range l.length).find? (fun i => (ByteArray.mk ⟨l⟩)[i]! == n.toUInt8) = none := by
   rw [List.find?_eq_none]; intro i hi; have hi := List.mem_range.1 hi; rw [hp i hi]; simpa using h2 i hi
  rw [this]
 ·rw [h1]
  have : (List.range l.length).find? (fun i => (ByteArray.mk ⟨l⟩)[i]! == n.toUInt8) = some i := by
   rw [List.find?_range_eq_some]; refine ⟨by rw [hp i hi]; simpa using h2, by simpa using hi, fun j hj => ?_⟩; rw [hp j (by omega)]; simpa using h3 j (by omega) hj
  rw [this]; simp
theorem idx_run {P : Program} {l : List UInt8} {n : Nat} (hn : n < 256) : pureRun P (Extern.BytealgIndexByte.indexByte #[.string ⟨⟨l⟩⟩, .int .u8 n] >>= fun r => pure (Next.value r)) = some (.value (.int .i64 (idxL n l 0))) := by
 have e : Extern.BytealgIndexByte.indexByte #[.string ⟨⟨l⟩⟩, .int .u8 n] = (match (List.range (ByteArray.mk ⟨l⟩).size).find? (fun i => (ByteArray.mk ⟨l⟩)[i]! == n.toUInt8) with
  | some i => pure (goInt i)
  | none => pure (goInt (-1))) := rfl
 rw [e, ← idx_find n hn l]
 cases (List.range (ByteArray.mk ⟨l⟩).size).find? (fun i => (ByteArray.mk ⟨l⟩)[i]! == n.toUInt8) <;> rfl
theorem smIdx_ok {P : Program} {f : FuncId} {fn : Func} (hf : P.funcs[f]? = some fn) (hb : fn.body.isSome = false) (hr : ∀ x y, pureRun P (callFunc f #[x, y]) = pureRun P (Extern.BytealgIndexByte.indexByte #[x, y] >>= fun r => pure (Next.value r))) {args : List Value} {d : Value} (h : smIdx args = some d) [EqV] :
  ∀ (m : Mp) (H : AH) (w : World) (args' : Array Value), Rel m H w → GOk P m → VRL m args args'.toList → CallRel P f args' w (After m H w d H) := by
 unfold smIdx at h
 split at h
 ·rename_i l n
  rcases blt_cases n 256 with ⟨h1, h2⟩ | ⟨h1, h2⟩
  ·rw [h2] at h
   cases h; exact call_extern hf hb rfl rfl ((hr _ _).trans (idx_run h1))
  ·rw [h2] at h; cases h
 ·cases h
end Go.AM
