/- The operations that make or change things. -/

import Derived.Test.YtgpligmjbecbjaaDoorTmOps
set_option linter.unusedVariables false
set_option linter.unusedSimpArgs false
set_option linter.unusedSectionVars false
namespace Go.TM
open Go Go.AM

def OpOK (m : Mp) (h : THp) (H : AH) (res : Option (Value × AH)) (v : TV) (h' : THp) : Prop := ∃ m' v' H', res = some (v', H') ∧ HR m' h'.os H' ∧ Ext m h H m' h' H' ∧ RV m' h'.os v v'
theorem OpOK.quiet {m : Mp} {h : THp} {H : AH} (hR : HR m h.os H) {v : TV} {v' : Value} (hv : RV m h.os v v') : OpOK m h H (some (v', H)) v h := ⟨m, v', H, rfl, hR, .refl hR, hv⟩

theorem mats_keep {m m' : Mp} {os os' : List TObj} (h : ∀ (i : Nat) o x, os[i]? = some o → matI o = some x → (os'[i]? = some o ∧ m'.ρ i = m.ρ i ∧ m'.ν i = m.ν i ∧ m'.μ i = m.μ i) ∨ os'[i]? = some .dead) :
  (∀ (i : Nat) o t tid nt ver o' t' tid' nt' ver', os[i]? = some o → matI o = some (t, tid, nt, ver) → os'[i]? = some o' → matI o' = some (t', tid', nt', ver') → m'.ρ i = m.ρ i ∧ m'.ν i = m.ν i ∧ (ver' = ver → m'.μ i = m.μ i)) ∧
  (∀ (i : Nat) o t tid nt ver w' t' l' tid', os[i]? = some o → matI o = some (t, tid, nt, ver) → os'[i]? = some (.row w' t' l' tid') → m'.ρ i = m.ρ i ∧ l'.length = m.ν i) ∧
  (∀ (i : Nat) o t tid nt ver t' l', os[i]? = some o → matI o = some (t, tid, nt, ver) → os'[i]? = some (.fro t' l') → l'.length = m.ν i ∧ ((m.ρ i = none ∧ l' = []) ∨ ∃ b c, m.ρ i = some b ∧ m'.G b = some c ∧ l'.length * t'.size ≤ c.length ∧ Rows (DC m'.G t') t'.size c l')) := by
 refine ⟨fun i o t tid nt ver o' t' tid' nt' ver' h1 h2 h3 h4 => ?_, fun i o t tid nt ver w' t' l' tid' h1 h2 h3 => ?_, fun i o t tid nt ver t' l' h1 h2 h3 => ?_⟩
 ·rcases h i o _ h1 h2 with ⟨_, a, b, c⟩ | e
  ·exact ⟨a, b, fun _ => c⟩
  ·rw [h3] at e; cases e; cases h4
 ·rcases h i o _ h1 h2 with ⟨e, _⟩ | e
  ·rw [h3] at e; cases e; cases h2
  ·rw [h3] at e; cases e
 ·rcases h i o _ h1 h2 with ⟨e, _⟩ | e
  ·rw [h3] at e; cases e; cases h2
  ·rw [h3] at e; cases e
theorem NS.mono {m m' : Mp} {H H' : AH} {id : Nat} (hG : Gle m.G m'.G) (hρ : ∀ k : Key, k.top = id → m'.ρ k = m.ρ k) (hH : ∀ (k : Key) b, k.top = id → m.ρ k = some b → H'.get b = H.get b) {j ty : Nat} {t : Ty} {l : List t.den} {v : Value} (h : NS m H id j ty t l v) : NS m' H' id j ty t l v := by
 rcases h with h | ⟨b, c, h1, h2, h3, h4, h5⟩
 ·exact .inl h
 ·exact .inr ⟨b, c, (hρ _ rfl).trans h1, h2, (hH _ _ rfl h1).trans h3, h4, h5.mono (DC.mono hG t)⟩
theorem NC.mono {m m' : Mp} {H H' : AH} {id j0 : Nat} {nt : List Nat} {free : Bool} (hG : Gle m.G m'.G) (hρ : ∀ k : Key, k.top = id → m'.ρ k = m.ρ k) (hH : ∀ (k : Key) b, k.top = id → m.ρ k = some b → H'.get b = H.get b) :
  ∀ (t : Ty) (pos : Nat) (x : t.den) (cs : List Value), NC m H id j0 nt free t pos x cs → NC m' H' id j0 nt free t pos x cs := by
 intro t
 induction t with
 | int k => intro pos x cs h; exact h
 | bool => intro pos x cs h; exact h
 | str => intro pos x cs h; exact h
 | slice t ih => intro pos x cs h; obtain ⟨v, h1, h2⟩ := h; exact ⟨v, h1, h2.imp _root_.id fun q => q.mono hG hρ hH⟩
 | unit => intro pos x cs h; exact h
 | pair a b iha ihb => intro pos x cs h; obtain ⟨c1, c2, h1, h2, h3⟩ := h; exact ⟨c1, c2, h1, iha _ _ _ h2, ihb _ _ _ h3⟩
 | st a ih => intro pos x cs h; exact ih _ _ _ h
theorem MR.mono {m m' : Mp} {H H' : AH} {id : Nat} {t : Ty} {l : List t.den} {tid : Nat} {nt : List Nat} {hole : Option Nat} (hG : Gle m.G m'.G) (hμ : m'.μ id = m.μ id ∧ m'.ν id = m.ν id) (hρ : ∀ k : Key, k.top = id → m'.ρ k = m.ρ k) (hH : ∀ (k : Key) b, k.top = id → m.ρ k = some b → H'.get b = H.get b)
  (h : MR m H id t l tid nt hole) : MR m' H' id t l tid nt hole := by
 obtain ⟨e, h⟩ := h
 refine ⟨e.trans hμ.2.symm, ?_⟩
 rcases h with ⟨h1, h2⟩ | ⟨b, c, h1, h2, h3, h4, h5⟩
 ·exact .inl ⟨(hρ _ rfl).trans h1, h2⟩
 ·exact .inr ⟨b, c, (hρ _ rfl).trans h1, hμ.1.trans h2, (hH _ _ rfl h1).trans h3, h4, fun i hi => NC.mono hG hρ hH _ _ _ _ (h5 i hi)⟩
theorem ObjR.mono {m m' : Mp} {os os' : List TObj} {H H' : AH} (hm : MapLe m os m' os') {id : Nat} {o : TObj} (hμ : m'.μ id = m.μ id ∧ m'.ν id = m.ν id) (hρ : ∀ k : Key, k.top = id → m'.ρ k = m.ρ k) (hH : ∀ (k : Key) b, k.top = id → m.ρ k = some b → H'.get b = H.get b) (h : ObjR m os H id o) : ObjR m' os' H' id o := by
 have hρ0 : m'.ρ id = m.ρ id := hρ _ rfl
 cases o with
 | dead => trivial
 | row w t l tid =>
  rcases h with ⟨h1, h2⟩ | ⟨b, c, h1, h2, h3, h4⟩
  ·exact .inl ⟨hρ0.trans h1, h2⟩
  ·exact .inr ⟨b, c, hρ0.trans h1, (hH _ b rfl h1).trans h2, h3, h4.mono (DC.mono hm.gle t)⟩
 | fro t l => exact hρ0.trans h
 | mat w t l tid nt ver hole => exact MR.mono hm.gle hμ hρ hH h
 | hid t tid nt ver => trivial
 | box w cs tid =>
  obtain ⟨b, c, h1, h2, h3, h4⟩ := h
  exact ⟨b, c, hρ0.trans h1, (hH _ b rfl h1).trans h2, h3, h4.mono hm⟩
 | frame tmps ps asg body st pend ctx =>
  obtain ⟨b, tm', h1, h2, h3⟩ := h
  exact ⟨b, tm', hρ0.trans h1, (hH _ b rfl h1).trans h2, h3.mono hm⟩
 | iter w s pos =>
  obtain ⟨b, h1, h2⟩ := h
  exact ⟨b, hρ0.trans h1, (hH _ b rfl h1).trans h2⟩
 | lost => trivial

def updM (m : Mp) (id : Nat) (r : Option Nat) : Mp := ⟨fun i => if i = .o id then r else m.ρ i, m.G, m.μ, m.ν⟩
theorem updM_self (m : Mp) (id : Nat) (r : Option Nat) : (updM m id r).ρ id = r := by simp [updM]
theorem updM_ne (m : Mp) {id : Nat} {i : Key} (r : Option Nat) (h : i ≠ .o id) : (updM m id r).ρ i = m.ρ i := by simp [updM, h]
theorem ko {i j : Nat} (h : i ≠ j) : Key.o i ≠ Key.o j := fun e => h (Key.o.inj e)
theorem kt {k : Key} {i id : Nat} (h : k.top = i) (hn : i ≠ id) : k ≠ .o id := fun e => by subst e; exact hn h.symm
theorem HR.fresh {m : Mp} {os : List TObj} {H : AH} (hR : HR m os H) {i : Key} (h : os.length ≤ i.top) : m.ρ i = none := by
 cases e : m.ρ i with
 | none => rfl
 | some b => have := (hR.lt i b e).2; omega
theorem get_append {os : List TObj} {o : TObj} {i : Nat} {x : TObj} (h : (os ++ [o])[i]? = some x) : os[i]? = some x ∨ (i = os.length ∧ x = o) := by
 by_cases hi : i < os.length
 ·rw [List.getElem?_append_left hi] at h; exact .inl h
 ·rw [List.getElem?_append_right (by omega)] at h
  by_cases e : i = os.length
  ·subst e; simp at h; exact .inr ⟨rfl, h.symm⟩
  ·rw [List.getElem?_eq_none (by simp; omega)] at h; cases h
theorem keep_push (os : List TObj) (o : TObj) : Keep os (os ++ [o]) := fun i x hx => ⟨x, by rw [List.getElem?_append_left (List.getElem?_eq_some_iff.1 hx).1]; exact hx, .refl x⟩
theorem mapLe_push {m : Mp} {os : List TObj} {H : AH} (hR : HR m os H) (o : TObj) (r : Option Nat) : MapLe m os (updM m os.length r) (os ++ [o]) := by
 have hlt : ∀ i x, os[i]? = some x → i < os.length := fun i x h => (List.getElem?_eq_some_iff.1 h).1
 have hmk := mats_keep (m := m) (m' := updM m os.length r) (os := os) (os' := os ++ [o]) fun i x y h1 h2 => .inl ⟨by rw [List.getElem?_append_left (hlt _ _ h1)]; exact h1, updM_ne _ _ (ko (by have := hlt _ _ h1; omega)), rfl, rfl⟩
 refine ⟨.refl _, (keep_push os o).kw, fun i b hb hf => ?_, fun i a b c d e f g a' b' c' d' e' f' g' h1 h2 => ?_, fun i w t l tid w' t' l' tid' h1 h2 => ?_, fun i w t l tid t' l' h1 h2 => ?_, hmk.1, hmk.2.1, hmk.2.2⟩
 ·rw [updM_ne]; exact hb
  intro e; cases e; rw [hR.fresh (Nat.le_refl _)] at hb; cases hb
 ·rw [updM_ne]
  intro e; cases e; have := hlt _ _ h1; omega
 ·rw [updM_ne]
  intro e; cases e; have := hlt _ _ h1; omega
 ·rw [List.getElem?_append_left (hlt _ _ h1), h1] at h2; cases h2
theorem push_new {m : Mp} {h : THp} {H : AH} (hR : HR m h.os H) (o : TObj) (ob : AObj) (ho : ObjR (updM m h.os.length (some H.next)) (h.os ++ [o]) (H.push ob) h.os.length o) :
  HR (updM m h.os.length (some H.next)) (h.push o).os (H.push ob) ∧ Ext m h H (updM m h.os.length (some H.next)) (h.push o) (H.push ob) := by
 have hm := mapLe_push hR o (some H.next)
 have hg : ∀ b, b < H.next → (H.push ob).get b = H.get b := fun b hb => by rw [AH.get_push, if_neg (by omega)]
 constructor
 ·refine ⟨fun i j b hi hj => ?_, fun i b hi => ?_, fun i b hi => ?_, fun b c hb => ?_, fun i x hx => ?_⟩
  ·by_cases ei : i = h.os.length
   ·by_cases ej : j = h.os.length
    ·rw [ei, ej]
    ·rw [ei, updM_self] at hi; cases hi
     rw [updM_ne _ _ ej] at hj
     have := (hR.lt j _ hj).1; omega
   ·by_cases ej : j = h.os.length
    ·rw [ej, updM_self] at hj; cases hj
     rw [updM_ne _ _ ei] at hi
     have := (hR.lt i _ hi).1; omega
    ·rw [updM_ne _ _ ei] at hi; rw [updM_ne _ _ ej] at hj; exact hR.inj i j b hi hj
  ·simp only [THp.push, AH.next_push, List.length_append, List.length_singleton]
   by_cases ei : i = h.os.length
   ·rw [ei, updM_self] at hi; cases hi; rw [ei]; simp [Key.top]
   ·rw [updM_ne _ _ ei] at hi; have := hR.lt i b hi; omega
  ·by_cases ei : i = h.os.length
   ·rw [ei, updM_self] at hi; cases hi
    show m.G H.next = none
    cases e : m.G H.next with
    | none => rfl
    | some c => have := (hR.gr _ _ e).1; omega
   ·rw [updM_ne _ _ ei] at hi; exact hR.disj i b hi
  ·obtain ⟨h1, own, sz, ty, h2⟩ := hR.gr b c hb
   exact ⟨by simp only [AH.next_push]; omega, own, sz, ty, by rw [hg b h1]; exact h2⟩
  ·rcases get_append hx with hx | ⟨rfl, rfl⟩
   ·have hi : i < h.os.length := (List.getElem?_eq_some_iff.1 hx).1
    exact (hR.obj i x hx).mono hm ⟨rfl, rfl⟩ (fun k hk => updM_ne _ _ (kt hk (by omega))) fun k b _ hb => hg b (hR.lt k b hb).1
   ·exact ho
 ·refine ⟨keep_push _ _, hm, by simp, fun b hb _ => hg b hb, fun _ _ h => .inl h, ⟨[], rfl, fun _ _ _ h => h, fun i b hi _ => hg b (hR.lt i b hi).1, fun i b hi => ?_⟩, fun _ _ k d hk _ hd => by rwa [updM_ne _ _ (kt rfl (by omega))] at hd⟩
  by_cases ei : i = h.os.length
  ·rw [ei, updM_self] at hi; cases hi; exact .inr (.inr (Nat.le_refl _))
  ·rw [updM_ne _ _ ei] at hi; exact .inl hi
theorem push_nil {m : Mp} {h : THp} {H : AH} (hR : HR m h.os H) (t : Ty) (w : Bool) (tid : Nat) :
  HR (updM m h.os.length none) (h.push (.row w t [] tid)).os H ∧ Ext m h H (updM m h.os.length none) (h.push (.row w t [] tid)) H ∧ RV (updM m h.os.length none) (h.push (.row w t [] tid)).os (.own h.os.length) (.slice none 0 0) := by
 have hm := mapLe_push hR (.row w t [] tid) none
 have hsub : ∀ i b, (updM m h.os.length none).ρ i = some b → m.ρ i = some b := fun i b hi => by
  by_cases ei : i = h.os.length
  ·rw [ei, updM_self] at hi; cases hi
  ·rwa [updM_ne _ _ ei] at hi
 refine ⟨⟨fun i j b hi hj => hR.inj i j b (hsub i b hi) (hsub j b hj), fun i b hi => ?_, fun i b hi => hR.disj i b (hsub i b hi), hR.gr, fun i x hx => ?_⟩, ⟨keep_push _ _, hm, Nat.le_refl _, fun _ _ _ => rfl, fun _ _ h => .inl h, ⟨[], rfl, fun _ _ _ h => h, fun _ _ _ _ => rfl, fun i b hi => .inl (hsub i b hi)⟩, fun _ _ k d _ _ hd => hsub k d hd⟩, .own _ _ ?_⟩
 ·have := hR.lt i b (hsub i b hi); simp [THp.push]; omega
 ·rcases get_append hx with hx | ⟨rfl, rfl⟩
  ·have hi : i < h.os.length := (List.getElem?_eq_some_iff.1 hx).1
   exact (hR.obj i x hx).mono hm ⟨rfl, rfl⟩ (fun k hk => updM_ne _ _ (kt hk (by omega))) fun _ _ _ _ => rfl
  ·exact .inl ⟨updM_self _ _ _, rfl⟩
 ·unfold OwnR
  simp only [THp.push, List.getElem?_concat_length]
  exact .inl ⟨updM_self _ _ _, trivial, trivial⟩

theorem set_ext {m : Mp} {h : THp} {H : AH} (hR : HR m h.os H) {id b : Nat} {o o' : TObj} {ob : AObj} (hb : m.ρ id = some b) (ho : h.os[id]? = some o) (hk : KeepO o o') (hnf : ∀ t l, o' ≠ .fro t l) (hnm : matI o = none)
  (hob : MapLe m h.os m (h.os.set id o') → ObjR m (h.os.set id o') (H.set b ob) id o') : HR m (h.set id o').os (H.set b ob) ∧ Ext m h H m (h.set id o') (H.set b ob) := by
 have hid : id < h.os.length := (List.getElem?_eq_some_iff.1 ho).1
 have hkk : Keep h.os (h.os.set id o') := fun i x hx => by
  by_cases e : id = i
  ·subst e; rw [ho] at hx; cases hx; exact ⟨o', by simp [hid], hk⟩
  ·exact ⟨x, by rw [List.getElem?_set_ne e]; exact hx, .refl x⟩
 have hmk := mats_keep (m := m) (m' := m) (os := h.os) (os' := h.os.set id o') fun i x y h1 h2 => .inl ⟨by rw [List.getElem?_set_ne fun e => by subst e; rw [ho] at h1; cases h1; rw [hnm] at h2; cases h2]; exact h1, rfl, rfl, rfl⟩
 have hm : MapLe m h.os m (h.os.set id o') := by
  refine ⟨.refl _, hkk.kw, fun i b hb hf => hb, fun _ _ _ _ _ _ _ _ _ _ _ _ _ _ _ _ _ => rfl, fun _ _ _ _ _ _ _ _ _ _ _ => rfl, fun i w t l tid t' l' h1 h2 => ?_, hmk.1, hmk.2.1, hmk.2.2⟩
  ·by_cases e : id = i
   ·subst e; simp [hid] at h2; exact absurd h2 (hnf _ _)
   ·rw [List.getElem?_set_ne e, h1] at h2; cases h2
 have hg : ∀ c, c ≠ b → (H.set b ob).get c = H.get c := fun c hc => by rw [AH.get_set, if_neg (fun e => hc e.symm)]
 constructor
 ·refine ⟨hR.inj, fun i c hi => by have := hR.lt i c hi; simpa [THp.set] using this, hR.disj, fun c cc hc => ?_, fun i x hx => ?_⟩
  ·obtain ⟨h1, own, sz, ty, h2⟩ := hR.gr c cc hc
   refine ⟨h1, own, sz, ty, ?_⟩
   rw [hg c (fun e => ?_)]; exact h2
   subst e; rw [hR.disj id _ hb] at hc; cases hc
  ·simp only [THp.set] at hx
   by_cases e : id = i
   ·subst e; simp [hid] at hx; subst hx; exact hob hm
   ·rw [List.getElem?_set_ne e] at hx
    exact (hR.obj i x hx).mono hm ⟨rfl, rfl⟩ (fun _ _ => rfl) fun k c hk hc => hg c fun e' => e (by subst e'; have := hR.inj _ _ _ hb hc; subst this; exact hk)
 ·refine ⟨hkk, hm, Nat.le_refl _, fun c hc hn => hg c fun e => hn id (e ▸ hb), fun _ _ h => .inl h, ⟨[id], rfl, fun _ _ _ h => h, fun i c hi hn => hg c fun e => ?_, fun i c hi => .inl hi⟩, fun _ _ _ _ _ _ hd => hd⟩
  subst e
  exact hn (by rw [hR.inj i id _ hi hb]; simp [Key.top])

theorem kill_ext {m : Mp} {h : THp} {H H' : AH} (hR : HR m h.os H) {id : Nat} {t : Ty} {l : List t.den} {tid : Nat} (ho : h.os[id]? = some (.row true t l tid)) (hn : H'.next = H.next) (hH : ∀ c, m.ρ id ≠ some c → H'.get c = H.get c) :
  HR (updM m id none) (h.set id .dead).os H' ∧ Ext m h H (updM m id none) (h.set id .dead) H' := by
 have hid : id < h.os.length := (List.getElem?_eq_some_iff.1 ho).1
 have hsub : ∀ i b, (updM m id none).ρ i = some b → m.ρ i = some b ∧ i ≠ id := fun i b hi => by
  by_cases ei : i = id
  ·rw [ei, updM_self] at hi; cases hi
  ·exact ⟨by rwa [updM_ne _ _ ei] at hi, ei⟩
 have hkk : Keep h.os (h.os.set id .dead) := fun i x hx => by
  by_cases e : id = i
  ·subst e; rw [ho] at hx; cases hx; exact ⟨.dead, by simp [hid], .inr ⟨rfl, .inr (.inl rfl)⟩⟩
  ·exact ⟨x, by rw [List.getElem?_set_ne e]; exact hx, .refl x⟩
 have hmk := mats_keep (m := m) (m' := updM m id none) (os := h.os) (os' := h.os.set id .dead) fun i x y h1 h2 => by
  by_cases e : id = i
  ·subst e; exact .inr (by simp [hid])
  ·exact .inl ⟨by rw [List.getElem?_set_ne e]; exact h1, updM_ne _ _ (ko fun q => e q.symm), rfl, rfl⟩
 have hm : MapLe m h.os (updM m id none) (h.os.set id .dead) := by
  refine ⟨.refl _, hkk.kw, fun i b hb hf => ?_, fun i a b c d e f g a' b' c' d' e' f' g' h1 h2 => ?_, fun i w t l tid w' t' l' tid' h1 h2 => ?_, fun i w t l tid t' l' h1 h2 => ?_, hmk.1, hmk.2.1, hmk.2.2⟩
  ·rw [updM_ne]; exact hb
   intro e; cases e; unfold isFix at hf; rw [ho] at hf; exact hf
  ·refine updM_ne _ _ fun e => ?_
   cases e; rw [ho] at h1; cases h1
  ·by_cases e : i = id
   ·subst e; simp [hid] at h2
   ·exact updM_ne _ _ (ko e)
  ·by_cases e : id = i
   ·subst e; simp [hid] at h2
   ·rw [List.getElem?_set_ne e, h1] at h2; cases h2
 constructor
 ·refine ⟨fun i j b hi hj => hR.inj i j b (hsub i b hi).1 (hsub j b hj).1, fun i b hi => ?_, fun i b hi => hR.disj i b (hsub i b hi).1, fun c cc hc => ?_, fun i x hx => ?_⟩
  ·have := hR.lt i b (hsub i b hi).1; simp only [THp.set, List.length_set]; omega
  ·obtain ⟨h1, own, sz, ty, h2⟩ := hR.gr c cc hc
   refine ⟨by omega, own, sz, ty, ?_⟩
   rw [hH c fun e => ?_]; exact h2
   have := hR.disj _ _ e; rw [show m.G c = some cc from hc] at this; cases this
  ·simp only [THp.set] at hx
   by_cases e : id = i
   ·subst e; simp [hid] at hx; subst hx; trivial
   ·rw [List.getElem?_set_ne e] at hx
    exact (hR.obj i x hx).mono hm ⟨rfl, rfl⟩ (fun k hk => updM_ne _ _ (kt hk fun q => e q.symm)) fun k c hk hc => hH c fun e' => e (by have := hR.inj _ _ _ e' hc; subst this; exact hk)
 ·exact ⟨hkk, hm, by omega, fun c hc hn => hH c (hn id), fun _ _ h => .inl h, ⟨[id], rfl, fun _ _ _ h => h, fun i c hi hn => hH c fun e => hn (by rw [hR.inj _ _ _ hi e]; simp [Key.top]), fun i b hi => .inl (hsub i b hi).1⟩, fun _ _ k d _ _ hd => (hsub k d hd).1⟩
theorem move_ext {m : Mp} {h : THp} {H H' : AH} (hR : HR m h.os H) {id b : Nat} {t : Ty} {l : List t.den} {tid : Nat} (ho : h.os[id]? = some (.row true t l tid)) (hb : m.ρ id = some b) (hn : H'.next = H.next) (hH : ∀ c, c ≠ b → H'.get c = H.get c)
  {t' : Ty} {l' : List t'.den} {tid' : Nat} {c : List Value} (hc : H'.get b = .cells c true t'.size tid') (hl : l'.length * t'.size ≤ c.length) (hr : Rows (DC m.G t') t'.size c l') :
  ∃ m', HR m' ((h.set id .dead).push (.row true t' l' tid')).os H' ∧ Ext m h H m' ((h.set id .dead).push (.row true t' l' tid')) H' ∧ RV m' ((h.set id .dead).push (.row true t' l' tid')).os (.own h.os.length) (.slice (some ⟨b, 0, none⟩) l'.length t'.size) := by
 obtain ⟨k1, k2⟩ := kill_ext hR ho hn fun c hc => hH c fun e => hc (e ▸ hb)
 have hlen : (h.set id .dead).os.length = h.os.length := by simp [THp.set]
 have hid : id < h.os.length := (List.getElem?_eq_some_iff.1 ho).1
 have hm := mapLe_push k1 (.row true t' l' tid') (some b)
 have unt : ∀ i, (updM m id none).ρ i ≠ some b := fun i hi => by
  by_cases ei : i = id
  ·rw [ei, updM_self] at hi; cases hi
  ·rw [updM_ne _ _ ei] at hi; exact ei (hR.inj _ _ _ hi hb)
 have hsub : ∀ i : Key, ∀ c, (updM (updM m id none) (h.set id .dead).os.length (some b)).ρ i = some c → (i = h.os.length ∧ c = b) ∨ (updM m id none).ρ i = some c := fun i c hi => by
  by_cases ei : i = (h.set id .dead).os.length
  ·rw [ei, updM_self] at hi; cases hi; exact .inl ⟨ei.trans (by rw [hlen]), rfl⟩
  ·rw [updM_ne _ _ ei] at hi; exact .inr hi
 refine ⟨updM (updM m id none) (h.set id .dead).os.length (some b), ?_, ?_, .own _ _ ?_⟩
 ·refine ⟨fun i j c hi hj => ?_, fun i c hi => ?_, fun i c hi => ?_, k1.gr, fun i x hx => ?_⟩
  ·rcases hsub i c hi with ⟨e1, e1'⟩ | hi1 <;> rcases hsub j c hj with ⟨e2, e2'⟩ | hj1
   ·rw [e1, e2]
   ·subst e1'; exact absurd hj1 (unt j)
   ·subst e2'; exact absurd hi1 (unt i)
   ·exact k1.inj i j c hi1 hj1
  ·rcases hsub i c hi with ⟨e1, rfl⟩ | hi
   ·have := hR.lt id _ hb; subst e1; simp [THp.push, THp.set, Key.top]; omega
   ·have := k1.lt i c hi; simp [THp.push]; omega
  ·rcases hsub i c hi with ⟨e1, rfl⟩ | hi
   ·exact hR.disj id _ hb
   ·exact k1.disj i c hi
  ·rcases get_append hx with hx | ⟨rfl, rfl⟩
   ·have hi : i < (h.set id .dead).os.length := (List.getElem?_eq_some_iff.1 hx).1
    exact (k1.obj i x hx).mono hm ⟨rfl, rfl⟩ (fun k hk => updM_ne _ _ (kt hk (by omega))) fun _ _ _ _ => rfl
   ·exact .inr ⟨b, c, updM_self _ _ _, hc, hl, hr⟩
 ·refine ⟨k2.keep.trans (keep_push _ _), k2.le.trans hm, k2.next, k2.frame, fun _ _ h => .inl h, ⟨[id], rfl, fun _ _ _ h => h, fun i c hi hn' => hH c fun e => ?_, fun i c hi => ?_⟩, fun l hl k d hk _ hd => ?_⟩
  ·subst e; exact hn' (by rw [hR.inj _ _ _ hi hb]; simp [Key.top])
  ·rcases hsub i c hi with ⟨e1, rfl⟩ | hi
   ·exact .inr (.inl ⟨id, by simp [Key.top], hb⟩)
   ·by_cases ei : i = id
    ·rw [ei, updM_self] at hi; cases hi
    ·rw [updM_ne _ _ ei] at hi; exact .inl hi
  ·rcases hsub k d hd with ⟨e1, rfl⟩ | hd
   ·subst e1; exact absurd hk (Nat.lt_irrefl _)
   ·by_cases ei : k = id
    ·rw [ei, updM_self] at hd; cases hd
    ·rwa [updM_ne _ _ ei] at hd
 ·unfold OwnR
  rw [← hlen]
  simp only [THp.push, List.getElem?_concat_length]
  exact .inr ⟨b, updM_self _ _ _, rfl⟩

theorem rework {m m' : Mp} {h : THp} {os' : List TObj} {H H' : AH} (hR : HR m h.os H) (S : List Nat) (hlen : h.os.length ≤ os'.length)
  (hos : ∀ i, i < h.os.length → i ∉ S → os'[i]? = h.os[i]?)
  (hρ : ∀ k : Key, k.top < h.os.length → k.top ∉ S → m'.ρ k = m.ρ k)
  (hμ : ∀ i, i < h.os.length → i ∉ S → m'.μ i = m.μ i ∧ m'.ν i = m.ν i)
  (hG : m'.G = m.G)
  (hfrom : ∀ (k : Key) b, m'.ρ k = some b → k.top < os'.length ∧ ((k.top < h.os.length ∧ k.top ∉ S) ∨ (∃ k0 : Key, k0.top ∈ S ∧ m.ρ k0 = some b) ∨ (H.next ≤ b ∧ b < H'.next)))
  (hinj : ∀ (k k' : Key) b, (k.top ∈ S ∨ h.os.length ≤ k.top) → (k'.top ∈ S ∨ h.os.length ≤ k'.top) → m'.ρ k = some b → m'.ρ k' = some b → k = k')
  (hn : H.next ≤ H'.next)
  (hH : ∀ c, c < H.next → (∀ k0 : Key, k0.top ∈ S → m.ρ k0 ≠ some c) → H'.get c = H.get c)
  (hkeep : ∀ i ∈ S, ∀ o, h.os[i]? = some o → ((∃ x, matI o = some x) ∨ ∃ t l tid, o = .row true t l tid) ∧ ∃ o', os'[i]? = some o' ∧ KeepO o o' ∧ (o' = .dead ∨ ((∃ x, matI o' = some x) ∧ (∃ x, matI o = some x) ∧ m'.ρ i = m.ρ i ∧ m'.ν i = m.ν i ∧ (matI o' = matI o → m'.μ i = m.μ i))))
  (hobj : MapLe m h.os m' os' → ∀ (i : Nat) o', os'[i]? = some o' → (i ∈ S ∨ h.os.length ≤ i) → ObjR m' os' H' i o') :
  HR m' os' H' ∧ Ext m h H m' ⟨os', S ++ h.dirty⟩ H' := by
 have hlt : ∀ {i : Nat} {o : TObj}, h.os[i]? = some o → i < h.os.length := fun e => (List.getElem?_eq_some_iff.1 e).1
 have hk : Keep h.os os' := fun i o ho => by
  by_cases hi : i ∈ S
  ·obtain ⟨-, o', h1, h2, -⟩ := hkeep i hi o ho
   exact ⟨o', h1, h2⟩
  ·exact ⟨o, by rw [hos i (hlt ho) hi]; exact ho, .refl o⟩
 have noFix : ∀ i ∈ S, ¬ isFix h.os i := fun i hi hf => by
  unfold isFix at hf
  cases e : h.os[i]? with
  | none => rw [e] at hf; exact hf
  | some o =>
   rw [e] at hf
   rcases (hkeep i hi o e).1 with ⟨x, hx⟩ | ⟨t, l, tid, rfl⟩
   ·cases o <;> first | exact hf | cases hx
   ·exact hf
 have hm : MapLe m h.os m' os' := by
  refine ⟨by rw [hG]; exact .refl _, hk.kw, fun i b hb hf => ?_, fun i a b c d e f g a' b' c' d' e' f' g' h1 h2 => ?_, fun i w t l tid w' t' l' tid' h1 h2 => ?_, fun i w t l tid t' l' h1 h2 => ?_, fun i o t tid nt ver o' t' tid' nt' ver' h1 h2 h3 h4 => ?_, fun i o t tid nt ver w' t' l' tid' h1 h2 h3 => ?_, fun i o t tid nt ver t' l' h1 h2 h3 => ?_⟩
  ·rw [hρ i (hR.lt _ _ hb).2 fun q => noFix i q hf]; exact hb
  ·refine hρ i (hlt h1) fun q => ?_
   rcases (hkeep i q _ h1).1 with ⟨x, hx⟩ | ⟨t, l, tid, e⟩
   ·cases hx
   ·cases e
  ·refine hρ i (hlt h1) fun q => ?_
   obtain ⟨-, o', e1, -, e3⟩ := hkeep i q _ h1
   rw [h2] at e1; cases e1
   rcases e3 with e3 | ⟨⟨x, e3⟩, -⟩ <;> cases e3
  ·by_cases hi : i ∈ S
   ·obtain ⟨-, o', e1, -, e3⟩ := hkeep i hi _ h1
    rw [h2] at e1; cases e1
    rcases e3 with e3 | ⟨⟨x, e3⟩, -⟩ <;> cases e3
   ·rw [hos i (hlt h1) hi, h1] at h2; cases h2
  ·by_cases hi : i ∈ S
   ·obtain ⟨-, o2, e1, -, e3⟩ := hkeep i hi _ h1
    rw [h3] at e1; cases e1
    rcases e3 with rfl | ⟨-, -, e4, e5, e6⟩
    ·cases h4
    ·refine ⟨e4, e5, fun ev => ?_⟩
     subst ev
     refine e6 ?_
     have hkw := (hk.kw i _ h1)
     obtain ⟨o3, q1, q2⟩ := hkw
     rw [h3] at q1; cases q1
     rw [matKW h2] at q2
     rcases q2 with ⟨v2, q2, -⟩ | ⟨w, l', rfl⟩ | rfl | ⟨l', rfl⟩
     ·rw [h4] at q2; cases q2; rw [h4, h2]
     ·cases h4
     ·cases h4
     ·cases h4
   ·obtain ⟨q1, q2⟩ := hμ i (hlt h1) hi
    exact ⟨hρ i (hlt h1) hi, q2, fun _ => q1⟩
  ·by_cases hi : i ∈ S
   ·obtain ⟨-, o2, e1, -, e3⟩ := hkeep i hi _ h1
    rw [h3] at e1; cases e1
    rcases e3 with e3 | ⟨⟨x, e3⟩, -⟩ <;> cases e3
   ·rw [hos i (hlt h1) hi, h1] at h3; cases h3; cases h2
  ·by_cases hi : i ∈ S
   ·obtain ⟨-, o2, e1, -, e3⟩ := hkeep i hi _ h1
    rw [h3] at e1; cases e1
    rcases e3 with e3 | ⟨⟨x, e3⟩, -⟩ <;> cases e3
   ·rw [hos i (hlt h1) hi, h1] at h3; cases h3; cases h2
 have old : ∀ (k : Key) b, m'.ρ k = some b → k.top < h.os.length → k.top ∉ S → m.ρ k = some b := fun k b hb h1 h2 => by rw [← hρ k h1 h2]; exact hb
 constructor
 ·refine ⟨fun k k' b hk1 hk2 => ?_, fun k b hb => ?_, fun k b hb => ?_, fun b c hb => ?_, fun i o' ho' => ?_⟩
  ·by_cases c1 : k.top < h.os.length ∧ k.top ∉ S
   ·have o1 := old k b hk1 c1.1 c1.2
    by_cases c2 : k'.top < h.os.length ∧ k'.top ∉ S
    ·exact hR.inj _ _ _ o1 (old k' b hk2 c2.1 c2.2)
    ·rcases (hfrom k' b hk2).2 with q | ⟨k0, q1, q2⟩ | q
     ·exact absurd q c2
     ·have := hR.inj _ _ _ o1 q2; subst this; exact absurd q1 c1.2
     ·have := (hR.lt _ _ o1).1; omega
   ·have n1 : k.top ∈ S ∨ h.os.length ≤ k.top := by
     by_cases q : k.top ∈ S
     ·exact .inl q
     ·exact .inr (Nat.le_of_not_lt fun w => c1 ⟨w, q⟩)
    by_cases c2 : k'.top < h.os.length ∧ k'.top ∉ S
    ·have o2 := old k' b hk2 c2.1 c2.2
     rcases (hfrom k b hk1).2 with q | ⟨k0, q1, q2⟩ | q
     ·exact absurd q c1
     ·have := hR.inj _ _ _ o2 q2; subst this; exact absurd q1 c2.2
     ·have := (hR.lt _ _ o2).1; omega
    ·have n2 : k'.top ∈ S ∨ h.os.length ≤ k'.top := by
      by_cases q : k'.top ∈ S
      ·exact .inl q
      ·exact .inr (Nat.le_of_not_lt fun w => c2 ⟨w, q⟩)
     exact hinj k k' b n1 n2 hk1 hk2
  ·refine ⟨?_, (hfrom k b hb).1⟩
   rcases (hfrom k b hb).2 with q | ⟨k0, q1, q2⟩ | q
   ·have := (hR.lt _ _ (old k b hb q.1 q.2)).1; omega
   ·have := (hR.lt _ _ q2).1; omega
   ·exact q.2
  ·rw [hG]
   rcases (hfrom k b hb).2 with q | ⟨k0, q1, q2⟩ | q
   ·exact hR.disj _ _ (old k b hb q.1 q.2)
   ·exact hR.disj _ _ q2
   ·cases e : m.G b with
    | none => rfl
    | some c => have := (hR.gr _ _ e).1; omega
  ·rw [hG] at hb
   obtain ⟨h1, own, sz, ty, h2⟩ := hR.gr b c hb
   refine ⟨by omega, own, sz, ty, ?_⟩
   rw [hH b h1 fun k0 _ q => by rw [hR.disj _ _ q] at hb; cases hb]; exact h2
  ·by_cases c1 : i < h.os.length ∧ i ∉ S
   ·rw [hos i c1.1 c1.2] at ho'
    refine (hR.obj i o' ho').mono hm (hμ i c1.1 c1.2) (fun k hk => hρ k (by rw [hk]; exact c1.1) (by rw [hk]; exact c1.2)) fun k b hk hb => hH b (hR.lt _ _ hb).1 fun k0 q1 q2 => ?_
    have := hR.inj _ _ _ hb q2; subst this; rw [hk] at q1; exact c1.2 q1
   ·refine hobj hm i o' ho' ?_
    by_cases q : i ∈ S
    ·exact .inl q
    ·exact .inr (Nat.le_of_not_lt fun w => c1 ⟨w, q⟩)
 ·refine ⟨hk, hm, hn, fun b hb hno => hH b hb fun k0 _ => hno k0, fun b c hb => .inl (by rw [hG] at hb; exact hb), ⟨S, rfl, fun _ b c hb => (by rw [hG] at hb; exact hb), fun k b hb hno => hH b (hR.lt _ _ hb).1 fun k0 q1 q2 => ?_, fun k b hb => ?_⟩, fun l hl k d hk hn hd => ?_⟩
  ·have := hR.inj _ _ _ hb q2; subst this; exact hno q1
  ·rcases (hfrom k b hb).2 with q | ⟨k0, q1, q2⟩ | q
   ·exact .inl (old k b hb q.1 q.2)
   ·exact .inr (.inl ⟨k0, q1, q2⟩)
   ·exact .inr (.inr q.1)
  ·have el : l = S := List.append_cancel_right hl.symm
   subst el
   exact old k d hd hk hn

theorem DC.one {G : Nat → Option (List Value)} : ∀ (t : Ty) (x : t.den) (cs : List Value), DC G t x cs → cs.all AM.one = true := by
 intro t
 induction t with
 | int k => intro x cs h; rw [show cs = _ from h]; rfl
 | bool => intro x cs h; rw [show cs = _ from h]; rfl
 | str => intro x cs h; rw [show cs = _ from h]; rfl
 | slice t ih => intro x cs h; obtain ⟨v, h1, h2⟩ := h; rw [h1]; simp [h2.one.1]
 | unit => intro x cs h; rw [show cs = _ from h]; rfl
 | pair a b iha ihb => intro x cs h; obtain ⟨c1, c2, h1, h2, h3⟩ := h; rw [h1, List.all_append, iha _ _ h2, ihb _ _ h3]; rfl
 | st a ih => intro x cs h; exact ih _ _ h
theorem mul_succ_le {i n sz : Nat} (h : i < n) : i * sz + sz ≤ n * sz := by
 have := Nat.mul_le_mul_right sz (show i + 1 ≤ n from h)
 rwa [Nat.add_mul, Nat.one_mul] at this
theorem Rows.take {α : Type} {R : α → List Value → Prop} {sz : Nat} {c : List Value} {l : List α} (h : Rows R sz c l) (hl : l.length * sz ≤ c.length) : Rows R sz (c.take (l.length * sz)) l := by
 intro i hi
 have h1 := mul_succ_le (sz := sz) hi
 refine ⟨by simp; omega, ?_⟩
 rw [List.drop_take, List.take_take, Nat.min_eq_left (by omega)]
 exact (h i hi).2
theorem Rows.nil {α : Type} {R : α → List Value → Prop} {sz : Nat} {c : List Value} : Rows R sz c [] := fun i hi => by simp at hi
theorem Rows.append {α : Type} {R : α → List Value → Prop} {sz : Nat} {c d : List Value} {l r : List α} (h : Rows R sz c l) (hl : c.length = l.length * sz) (k : Rows R sz d r) : Rows R sz (c ++ d) (l ++ r) := by
 intro i hi
 by_cases hi' : i < l.length
 ·have h1 := mul_succ_le (sz := sz) hi'
  refine ⟨by simp; omega, ?_⟩
  rw [List.getElem_append_left hi', List.drop_append_of_le_length (by omega), List.take_append_of_le_length (by simp; omega)]
  exact (h i hi').2
 ·have hi2 : i - l.length < r.length := by simp at hi; omega
  obtain ⟨g1, g2⟩ := k _ hi2
  have e : i * sz = c.length + (i - l.length) * sz := by rw [hl, ← Nat.add_mul]; congr 1; omega
  refine ⟨by simp; omega, ?_⟩
  rw [List.getElem_append_right (by omega), e, List.drop_append]
  have e2 : c.length + (i - l.length) * sz - c.length = (i - l.length) * sz := by omega
  rw [e2, List.drop_eq_nil_of_le (by omega), List.nil_append]
  exact g2
theorem Rows.one {G : Nat → Option (List Value)} {T : Ty} {c : List Value} {l : List T.den} (h : Rows (DC G T) T.size c l) (hl : c.length = l.length * T.size) (hz : T.size ≠ 0) : c.all AM.one = true := by
 rw [List.all_eq_true]
 intro v hv
 obtain ⟨k, hk, rfl⟩ := List.getElem_of_mem hv
 have hi : k / T.size < l.length := Nat.div_lt_of_lt_mul (by rw [Nat.mul_comm, ← hl]; exact hk)
 have h1 := DC.one _ _ _ (h _ hi).2
 rw [List.all_eq_true] at h1
 apply h1
 have hm := Nat.div_add_mod k T.size
 have hlt := Nat.mod_lt k (Nat.pos_of_ne_zero hz)
 rw [List.mem_iff_getElem]
 refine ⟨k % T.size, ?_, ?_⟩
 ·have := mul_succ_le (sz := T.size) hi; simp; omega
 ·simp only [List.getElem_take, List.getElem_drop]
  congr 1
  rw [Nat.mul_comm]; exact hm
theorem Rows.replicate {α : Type} {R : α → List Value → Prop} {sz : Nat} {x : α} {z : List Value} (h : R x z) (hz : z.length = sz) : ∀ n, Rows R sz (repeatCells z n) (List.replicate n x) ∧ (repeatCells z n).length = n * sz := by
 intro n
 induction n with
 | zero => exact ⟨.nil, by simp [repeatCells]⟩
 | succ n ih =>
  have h1 : Rows R sz z [x] := fun i hi => by
   have : i = 0 := by simpa using hi
   subst this
   refine ⟨by omega, ?_⟩
   have e : ((z.drop (0 * sz)).take sz) = z := by rw [← hz]; simp
   rw [e]; exact h
  refine ⟨?_, by simp only [repeatCells, List.length_append, ih.2, hz]; rw [Nat.add_mul, Nat.one_mul, Nat.add_comm]⟩
  exact h1.append (by simpa using hz) ih.1
theorem zeroC_sound {G : Nat → Option (List Value)} : ∀ (t : Ty) (cs r : List Value), zeroC t cs = some r → ∃ c, cs = c ++ r ∧ DC G t t.dflt c := by
 intro t
 induction t with
 | int k =>
  intro cs r h
  cases cs with
  | nil => cases h
  | cons v cs => cases v with
   | int k' n =>
    simp only [zeroC] at h
    split at h
    ·rename_i e; obtain ⟨rfl, rfl⟩ := e; cases h; exact ⟨[_], rfl, rfl⟩
    ·cases h
   | _ => cases h
 | bool =>
  intro cs r h
  cases cs with
  | nil => cases h
  | cons v cs => cases v with
   | bool b => cases b with
    | false => cases h; exact ⟨[_], rfl, rfl⟩
    | true => cases h
   | _ => cases h
 | str =>
  intro cs r h
  cases cs with
  | nil => cases h
  | cons v cs => cases v with
   | string s =>
    simp only [zeroC] at h
    split at h
    ·rename_i e; cases h
     refine ⟨[_], rfl, ?_⟩
     obtain ⟨a⟩ := s
     have : a = #[] := by apply Array.ext'; simpa using e
     subst this; rfl
    ·cases h
   | _ => cases h
 | slice t ih =>
  intro cs r h
  cases cs with
  | nil => cases h
  | cons v cs => cases v with
   | slice a n c =>
    cases a with
    | none =>
     cases n with
     | zero => cases c with
      | zero => cases h; exact ⟨[_], rfl, _, rfl, .inl ⟨rfl, rfl⟩⟩
      | succ c => cases h
     | succ n => cases h
    | some a => cases h
   | _ => cases h
 | unit =>
  intro cs r h
  have : some cs = some r := by cases cs <;> exact h
  cases this; exact ⟨[], rfl, rfl⟩
 | pair a b iha ihb =>
  intro cs r h
  have h' : (match zeroC a cs with | some r => zeroC b r | none => none) = some r := by cases cs <;> exact h
  split at h'
  ·rename_i r1 h1
   obtain ⟨c1, rfl, e1⟩ := iha _ _ h1
   obtain ⟨c2, rfl, e2⟩ := ihb _ _ h'
   exact ⟨c1 ++ c2, by simp, c1, c2, rfl, e1, e2⟩
  ·cases h'
 | st a ih =>
  intro cs r h
  have h' : zeroC a cs = some r := by cases cs <;> exact h
  exact ih _ _ h'
variable {P : Program}
theorem zeroOk_sound {e : Nat} {T : Ty} (h : zeroOk P e T = true) (G : Nat → Option (List Value)) : ∃ z, zero? P e = some z ∧ z.cells.size = T.size ∧ DC G T T.dflt z.cells.toList := by
 unfold zeroOk at h
 split at h
 ·rename_i z hz
  split at h
  ·rename_i hc
   obtain ⟨c, e1, e2⟩ := zeroC_sound (G := G) _ _ _ hc
   simp only [List.append_nil] at e1
   rw [← e1] at e2
   exact ⟨z, hz, by simpa using e2.length, e2⟩
  ·cases h
 ·cases h
end Go.TM
