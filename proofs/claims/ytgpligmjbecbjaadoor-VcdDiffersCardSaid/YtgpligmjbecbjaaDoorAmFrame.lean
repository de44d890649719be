/- Which blocks an operation may write. -/

import Derived.Test.YtgpligmjbecbjaaDoorAmDef
set_option linter.unusedVariables false
set_option linter.unusedSimpArgs false
set_option linter.unusedSectionVars false
namespace Go.AM
open Go

def blkOf : Value → List Nat
 | .pointer (some a) => [a.block]
 | .slice (some a) _ _ => [a.block]
 | .map (some r) => [r]
 | _ => []
def Fr (l : List Nat) (H H' : AH) : Prop := ∀ b, b ∉ l → H'.get b = H.get b
theorem Fr.refl (l : List Nat) (H : AH) : Fr l H H := fun _ _ => rfl
theorem Fr.trans {l : List Nat} {H H' H'' : AH} (h : Fr l H H') (h' : Fr l H' H'') : Fr l H H'' := fun b hb => (h' b hb).trans (h b hb)
theorem Fr.push {l : List Nat} {H : AH} {o : AObj} (h : H.next ∈ l) : Fr l H (H.push o) := fun b hb => by rw [AH.get_push, if_neg (fun e => hb (by rw [← e]; exact h))]
theorem Fr.set {l : List Nat} {H : AH} {b : Nat} {o : AObj} (h : b ∈ l) : Fr l H (H.set b o) := fun c hc => by rw [AH.get_set, if_neg (fun e => hc (by rw [← e]; exact h))]

theorem astore_fr {P : Program} {t : TypeId} {x v : Value} {H H' : AH} {l : List Nat} (hx : ∀ b ∈ blkOf x, b ∈ l) (h : astore P t x v H = some H') : Fr l H H' := by
 unfold astore at h
 repeat' (first | (cases h; done) | split at h)
 all_goals (first | (cases h; done) | skip)
 cases h; exact Fr.set (hx _ (List.mem_singleton.2 rfl))
theorem abuildSlice_fr {P : Program} {t : TypeId} {n : Nat} {ps : List (Nat × Value)} {H : AH} {r : Value × AH} {l : List Nat} (hl : H.next ∈ l) (h : abuildSlice P t n ps H = some r) : Fr l H r.2 := by
 unfold abuildSlice at h
 repeat' (first | (cases h; done) | split at h)
 all_goals (first | (cases h; done) | skip)
 obtain ⟨c, _, e⟩ := Option.map_eq_some_iff.1 h
 subst e; exact Fr.push hl
theorem amakeSlice_fr {P : Program} {t : TypeId} {n c : Value} {H : AH} {r : Value × AH} {l : List Nat} (hl : H.next ∈ l) (h : amakeSlice P t n c H = some r) : Fr l H r.2 := by
 unfold amakeSlice at h
 repeat' (first | (cases h; done) | split at h)
 all_goals (first | (cases h; done) | skip)
 cases h; exact Fr.push hl
theorem aconvert_fr {P : Program} {s d : TypeId} {x : Value} {H : AH} {r : Value × AH} {l : List Nat} (hl : H.next ∈ l) (h : aconvert P s d x H = some r) : Fr l H r.2 := by
 unfold aconvert at h
 split at h
 ·repeat' (first | (cases h; done) | split at h)
  all_goals (first | (cases h; done) | skip)
  cases h; exact Fr.push hl
 ·repeat' (first | (cases h; done) | split at h)
  all_goals (first | (cases h; done) | skip)
  obtain ⟨c, _, e⟩ := Option.map_eq_some_iff.1 h
  subst e; exact Fr.refl _ _
 ·repeat' (first | (cases h; done) | split at h)
  all_goals (first | (cases h; done) | skip)
  obtain ⟨c, _, e⟩ := Option.map_eq_some_iff.1 h
  subst e; exact Fr.refl _ _
 ·split at h
  ·obtain ⟨c, _, e⟩ := Option.map_eq_some_iff.1 h
   subst e; exact Fr.refl _ _
  ·unfold aunsafe at h
   repeat' (first | (cases h; done) | split at h)
   all_goals (first | (cases h; done) | skip)
   all_goals (cases h; exact Fr.refl _ _)
theorem aappend_fr {P : Program} {ts : List TypeId} {args : List Value} {H : AH} {r : Value × AH} {l : List Nat} (hl : H.next ∈ l) (hx : ∀ v ∈ args, ∀ b ∈ blkOf v, b ∈ l) (h : aappend P ts args H = some r) : Fr l H r.2 := by
 unfold aappend at h
 repeat' (first | (cases h; done) | split at h)
 all_goals (first | (cases h; done) | skip)
 all_goals (cases h)
 all_goals (first | exact Fr.refl _ _ | exact Fr.push hl | skip)
 refine Fr.trans (Fr.set (hx _ List.mem_cons_self _ (List.mem_singleton.2 rfl))) (Fr.push ?_)
 exact hl
theorem aappendZ_fr {P : Program} {ts : List TypeId} {args : List Value} {H : AH} {r : Value × AH} {l : List Nat} (hl : H.next ∈ l) (h : aappendZ P ts args H = some r) : Fr l H r.2 := by
 unfold aappendZ at h
 repeat' (first | (cases h; done) | split at h)
 all_goals (first | (cases h; done) | skip)
 cases h; exact Fr.push hl
theorem atrunc_fr {args : List Value} {H : AH} {l : List Nat} (hx : ∀ v ∈ args, ∀ b ∈ blkOf v, b ∈ l) : Fr l H (atrunc args H) ∧ (atrunc args H).next = H.next := by
 unfold atrunc
 repeat' split
 all_goals (first | exact ⟨Fr.refl _ _, rfl⟩ | skip)
 exact ⟨Fr.set (hx _ List.mem_cons_self _ (List.mem_singleton.2 rfl)), rfl⟩
theorem acopy_fr {P : Program} {ts : List TypeId} {args : List Value} {H : AH} {r : Value × AH} {l : List Nat} (hx : ∀ v ∈ args, ∀ b ∈ blkOf v, b ∈ l) (h : acopy P ts args H = some r) : Fr l H r.2 := by
 unfold acopy at h
 repeat' (first | (cases h; done) | split at h)
 all_goals (first | (cases h; done) | skip)
 all_goals (cases h)
 all_goals (first | exact Fr.refl _ _ | skip)
 exact Fr.set (hx _ List.mem_cons_self _ (List.mem_singleton.2 rfl))
theorem abuiltinX_fr {P : Program} {b : Builtin} {ts : List TypeId} {args : List Value} {H : AH} {r : Value × AH} {l : List Nat} (hx : ∀ v ∈ args, ∀ b ∈ blkOf v, b ∈ l) (h : abuiltinX P b ts args H = some r) : Fr l H r.2 := by
 unfold abuiltinX at h
 split at h
 ·repeat' (first | (cases h; done) | split at h)
  all_goals (first | (cases h; done) | skip)
  cases h; exact Fr.refl _ _
 ·repeat' (first | (cases h; done) | split at h)
  all_goals (first | (cases h; done) | skip)
  all_goals (cases h; exact Fr.refl _ _)
 ·unfold aunsafeString at h
  repeat' (first | (cases h; done) | split at h)
  all_goals (first | (cases h; done) | skip)
  ·cases h; exact Fr.refl _ _
  ·obtain ⟨c, _, e⟩ := Option.map_eq_some_iff.1 h
   subst e; exact Fr.set (hx _ List.mem_cons_self _ (List.mem_singleton.2 rfl))
 ·cases h
theorem arange_fr {P : Program} {t : TypeId} {x : Value} {H : AH} {r : Value × AH} {l : List Nat} (hl : H.next ∈ l) (h : arange P t x H = some r) : Fr l H r.2 := by
 unfold arange at h
 split at h
 ·cases h; exact Fr.push hl
 ·cases h
theorem anext_fr {x : Value} {s : Bool} {H : AH} {r : Value × AH} {l : List Nat} (hx : ∀ b ∈ blkOf x, b ∈ l) (h : anext x s H = some r) : Fr l H r.2 := by
 unfold anext at h
 repeat' (first | (cases h; done) | split at h)
 all_goals (first | (cases h; done) | skip)
 all_goals (cases h)
 all_goals (first | exact Fr.refl _ _ | skip)
 exact Fr.set (hx _ (List.mem_singleton.2 rfl))

theorem amakeMap_fr {P : Program} {t : TypeId} {x : Option Value} {H : AH} {r : Value × AH} {l : List Nat} (hl : H.next ∈ l) (h : amakeMap P t x H = some r) : Fr l H r.2 := by
 unfold amakeMap at h
 repeat' (first | (cases h; done) | split at h)
 all_goals (first | (cases h; done) | skip)
 all_goals (cases h; exact Fr.push hl)
theorem amapUpdate_fr {P : Program} {t : TypeId} {x k v : Value} {H H' : AH} {l : List Nat} (hx : ∀ b ∈ blkOf x, b ∈ l) (h : amapUpdate P t x k v H = some H') : Fr l H H' := by
 unfold amapUpdate at h
 repeat' (first | (cases h; done) | split at h)
 all_goals (first | (cases h; done) | skip)
 all_goals (cases h; exact Fr.set (hx _ (List.mem_singleton.2 rfl)))

theorem amapEntry_fr {P : Program} {t : TypeId} {x k : Value} {H : AH} {r : Value × AH} {l : List Nat} (hx : ∀ b ∈ blkOf x, b ∈ l) (h : amapEntry P t x k H = some r) : Fr l H r.2 := by
 unfold amapEntry at h
 repeat' (first | (cases h; done) | split at h)
 all_goals (first | (cases h; done) | skip)
 ·cases h; exact Fr.set (hx _ (List.mem_singleton.2 rfl))
 ·obtain ⟨z, _, e⟩ := Option.map_eq_some_iff.1 h
  subst e; exact Fr.set (hx _ (List.mem_singleton.2 rfl))
theorem aentryStore_fr {x k v : Value} {H H' : AH} {l : List Nat} (hx : ∀ b ∈ blkOf x, b ∈ l) (h : aentryStore x k v H = some H') : Fr l H H' := by
 unfold aentryStore at h
 repeat' (first | (cases h; done) | split at h)
 all_goals (first | (cases h; done) | skip)
 all_goals (cases h; exact Fr.set (hx _ (List.mem_singleton.2 rfl)))

variable [EqV]
def candV (ρ : Operand → Value) : List Operand → List Nat
 | [] => []
 | x :: r => blkOf (ρ x) ++ candV ρ r
theorem candV_mem {ρ : Operand → Value} {x : Operand} {b : Nat} : ∀ {l : List Operand}, x ∈ l → b ∈ blkOf (ρ x) → b ∈ candV ρ l := by
 intro l
 induction l with
 | nil => intro h; cases h
 | cons y l ih =>
  intro h hb
  rcases List.mem_cons.1 h with e | e
  ·subst e; exact List.mem_append_left _ hb
  ·exact List.mem_append_right _ (ih e hb)
def touch : Op → List Operand
 | .store _ a _ => [a]
 | .next x _ => [x]
 | .mapUpdate _ x _ _ => [x]
 | .insert _ x _ _ => [x]
 | .mapEntry _ x _ => [x]
 | .entryStore _ x _ _ => [x]
 | .call c => c.args.toList
 | _ => []
def anxH : ANx → Option AH
 | .val _ H => some H
 | .skip H => some H
 | _ => none
theorem aval_fr {v : Option Value} {H : AH} {x : ANx} (h : aval v H = some x) : anxH x = some H := by
 obtain ⟨c, _, e⟩ := Option.map_eq_some_iff.1 h
 subst e; rfl
theorem avalH_fr {r : Option (Value × AH)} {x : ANx} (h : avalH r = some x) : ∃ y, r = some y ∧ anxH x = some y.2 := by
 obtain ⟨c, g, e⟩ := Option.map_eq_some_iff.1 h
 subst e; exact ⟨c, g, rfl⟩
theorem abuiltin_fr {P : Program} {b : Builtin} {ts : List TypeId} {ty : TypeId} {args : List Value} {H H' : AH} {x : ANx} {l : List Nat} (hl : H.next ∈ l) (hx : ∀ v ∈ args, ∀ b ∈ blkOf v, b ∈ l) (h : abuiltin P b ts ty args H = some x) (hH : anxH x = some H') : Fr l H H' := by
 unfold abuiltin at h
 split at h
 ·rw [aval_fr h] at hH; cases hH; exact Fr.refl _ _
 ·obtain ⟨y, h1, h2⟩ := avalH_fr h
  rw [h2] at hH; cases hH
  split at h1
  ·rename_i r hr
   cases h1
   exact aappendZ_fr hl hr
  ·obtain ⟨f1, f2⟩ := atrunc_fr (H := H) hx
   exact f1.trans (aappend_fr (by rw [f2]; exact hl) hx h1)
 ·obtain ⟨y, h1, h2⟩ := avalH_fr h
  rw [h2] at hH; cases hH
  exact acopy_fr hx h1
 ·split at h
  ·rw [aval_fr h] at hH; cases hH; exact Fr.refl _ _
  ·cases h
 ·split at h
  ·rw [aval_fr h] at hH; cases hH; exact Fr.refl _ _
  ·cases h
 ·obtain ⟨y, h1, h2⟩ := avalH_fr h
  rw [h2] at hH; cases hH
  exact abuiltinX_fr hx h1
theorem aop_fr {P : Program} {o : Op} {ty : TypeId} {ρ : Operand → Value} {H H' : AH} {x : ANx} {l : List Nat} (hl : H.next ∈ l) (hx : ∀ b ∈ candV ρ (touch o), b ∈ l) (h : aop P o ty ρ H = some x) (hH : anxH x = some H') : Fr l H H' := by
 unfold aop at h
 split at h
 all_goals (first
  | (cases h; cases hH; exact Fr.refl _ _)
  | (rw [aval_fr h] at hH; cases hH; exact Fr.refl _ _)
  | (split at h <;> (cases h; cases hH; exact Fr.refl _ _))
  | (split at h <;> first | (cases h; done) | (cases h; cases hH; exact Fr.push hl))
  | (cases h; cases hH; exact Fr.push hl)
  | (obtain ⟨y, h1, h2⟩ := avalH_fr h; rw [h2] at hH; cases hH; first | exact abuildSlice_fr hl h1 | exact amakeMap_fr hl h1 | exact amakeSlice_fr hl h1 | exact aconvert_fr hl h1 | exact arange_fr hl h1 | exact anext_fr (fun b hb => hx b (candV_mem (List.mem_singleton.2 rfl) hb)) h1)
  | skip)
 case h_9 =>
  obtain ⟨H1, h1, e⟩ := Option.map_eq_some_iff.1 h
  subst e; cases hH
  exact astore_fr (fun b hb => hx b (candV_mem (List.mem_singleton.2 rfl) hb)) h1
 case h_28 =>
  obtain ⟨y, h1, h2⟩ := avalH_fr h
  rw [h2] at hH; cases hH
  exact amapEntry_fr (fun b hb => hx b (candV_mem (List.mem_singleton.2 rfl) hb)) h1
 case h_29 =>
  obtain ⟨H1, h1, e⟩ := Option.map_eq_some_iff.1 h
  subst e; cases hH
  exact aentryStore_fr (fun b hb => hx b (candV_mem (List.mem_singleton.2 rfl) hb)) h1
 case h_30 =>
  obtain ⟨H1, h1, e⟩ := Option.map_eq_some_iff.1 h
  subst e; cases hH
  exact amapUpdate_fr (fun b hb => hx b (candV_mem (List.mem_singleton.2 rfl) hb)) h1
 case h_31 =>
  obtain ⟨H1, h1, e⟩ := Option.map_eq_some_iff.1 h
  subst e; cases hH
  exact amapUpdate_fr (fun b hb => hx b (candV_mem (List.mem_singleton.2 rfl) hb)) h1
 case h_23 =>
  rename_i c
  split at h
  ·exact abuiltin_fr hl (fun v hv b hb => by
    obtain ⟨y, hy, e⟩ := List.mem_map.1 hv
    subst e
    exact hx b (candV_mem hy hb)) h hH
  ·unfold acallV at h
   split at h
   ·cases h; cases hH
   ·cases h; cases hH
   ·cases h
  ·cases h
 all_goals (repeat' (first | (cases h; done) | (rw [aval_fr h] at hH; cases hH; exact Fr.refl _ _) | (cases h; cases hH; exact Fr.refl _ _) | split at h))
end Go.AM
