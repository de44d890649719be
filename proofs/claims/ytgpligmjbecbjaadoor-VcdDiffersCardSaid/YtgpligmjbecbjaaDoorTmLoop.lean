/- Loops: from a state to a template and back. -/

import Derived.Test.YtgpligmjbecbjaaDoorTmReg
set_option linter.unusedVariables false
set_option linter.unusedSimpArgs false
set_option linter.unusedSectionVars false
namespace Go.TM
open Go Go.AM

theorem take_get {α : Type} {l : List α} {n i : Nat} (h : i < n) : (l.take n)[i]? = l[i]? := List.getElem?_take_of_lt h

theorem mats_keepI {m m' : Mp} {os os' : List TObj} (h : ∀ (i : Nat) o x, os[i]? = some o → matI o = some x → (∃ o', os'[i]? = some o' ∧ matI o' = some x ∧ m'.ρ i = m.ρ i ∧ m'.ν i = m.ν i ∧ m'.μ i = m.μ i) ∨ os'[i]? = some .dead) :
  (∀ (i : Nat) o t tid nt ver o' t' tid' nt' ver', os[i]? = some o → matI o = some (t, tid, nt, ver) → os'[i]? = some o' → matI o' = some (t', tid', nt', ver') → m'.ρ i = m.ρ i ∧ m'.ν i = m.ν i ∧ (ver' = ver → m'.μ i = m.μ i)) ∧
  (∀ (i : Nat) o t tid nt ver w' t' l' tid', os[i]? = some o → matI o = some (t, tid, nt, ver) → os'[i]? = some (.row w' t' l' tid') → m'.ρ i = m.ρ i ∧ l'.length = m.ν i) ∧
  (∀ (i : Nat) o t tid nt ver t' l', os[i]? = some o → matI o = some (t, tid, nt, ver) → os'[i]? = some (.fro t' l') → l'.length = m.ν i ∧ ((m.ρ i = none ∧ l' = []) ∨ ∃ b c, m.ρ i = some b ∧ m'.G b = some c ∧ l'.length * t'.size ≤ c.length ∧ Rows (DC m'.G t') t'.size c l')) := by
 refine ⟨fun i o t tid nt ver o' t' tid' nt' ver' h1 h2 h3 h4 => ?_, fun i o t tid nt ver w' t' l' tid' h1 h2 h3 => ?_, fun i o t tid nt ver t' l' h1 h2 h3 => ?_⟩
 ·rcases h i o _ h1 h2 with ⟨_, _, _, a, b, c⟩ | e
  ·exact ⟨a, b, fun _ => c⟩
  ·rw [h3] at e; cases e; cases h4
 ·rcases h i o _ h1 h2 with ⟨_, e, q, _⟩ | e
  ·rw [h3] at e; cases e; cases q
  ·rw [h3] at e; cases e
 ·rcases h i o _ h1 h2 with ⟨_, e, q, _⟩ | e
  ·rw [h3] at e; cases e; cases q
  ·rw [h3] at e; cases e
theorem RV.restrict {m0 m : Mp} {os0 os : List TObj} {tv : TV} {v : Value} (h : RV m os tv v) : ∀ {v0 : Value}, RV m0 os0 tv v0 → RV m (os.take os0.length) tv v := by
 have hfix : ∀ {id : Nat}, isFix os0 id → isFix os id → isFix (os.take os0.length) id := fun {id} h0 h1 => by
  have : id < os0.length := by
   unfold isFix at h0
   cases e : os0[id]? with
   | none => rw [e] at h0; exact h0.elim
   | some o => exact lt_of_get e
  unfold isFix at *
  rw [take_get this]; exact h1
 induction h with
 | int k n => intro _ _; exact .int k n
 | bool b => intro _ _; exact .bool b
 | str s => intro _ _; exact .str s
 | nilS => intro _ _; exact .nilS
 | nilP => intro _ _; exact .nilP
 | nilF => intro _ _; exact .nilF
 | nilOr id q v h hf => intro v0 h0; cases h0 with | nilOr _ _ _ _ hf0 => exact .nilOr id q v h (hfix hf0 hf)
 | buf id v h =>
  intro v0 h0
  cases h0 with
  | buf _ _ h0 =>
  refine .buf id v ?_
  unfold BufR at *
  have : id < os0.length := by
   cases e : os0[id]? with
   | none => rw [e] at h0; exact h0.elim
   | some o => exact lt_of_get e
  rw [take_get this]; exact h
 | sdat id v h =>
  intro v0 h0
  cases h0 with
  | sdat _ _ h0 =>
  refine .sdat id v ?_
  unfold SdR at *
  have : id < os0.length := by
   cases e : os0[id]? with
   | none => rw [e] at h0; exact h0.elim
   | some o => exact lt_of_get e
  rw [take_get this]; exact h
 | deep t l v h => intro _ _; exact .deep t l v h
 | own id v h =>
  intro v0 h0
  cases h0 with
  | own _ _ h0 =>
  refine .own id v ?_
  unfold OwnR at *
  have : id < os0.length := by
   cases e : os0[id]? with
   | none => rw [e] at h0; exact h0.elim
   | some o => exact lt_of_get e
  rw [take_get this]; exact h
 | sub id lo n v h =>
  intro v0 h0
  cases h0 with
  | sub _ _ _ _ h0 =>
  refine .sub id lo n v ?_
  unfold SubR at *
  have : id < os0.length := by
   cases e : os0[id]? with
   | none => rw [e] at h0; exact h0.elim
   | some o => exact lt_of_get e
  rw [take_get this]; exact h
 | ptr id off b h hf => intro v0 h0; cases h0 with | ptr _ _ _ _ hf0 => exact .ptr id off b h (hfix hf0 hf)
 | elt id i off v h =>
  intro v0 h0
  cases h0 with
  | elt _ _ _ _ h0 =>
  refine .elt id i off v ?_
  unfold EltR at *
  have : id < os0.length := by
   cases e : os0[id]? with
   | none => rw [e] at h0; exact h0.elim
   | some o => exact lt_of_get e
  rw [take_get this]; exact h
 | nest id i pos ver ct v h =>
  intro v0 h0
  cases h0 with
  | nest _ _ _ _ _ _ h0 =>
  obtain ⟨o0, e0, -⟩ := h0
  obtain ⟨o, e, h⟩ := h
  exact .nest id i pos ver ct v ⟨o, by rw [take_get (lt_of_get e0)]; exact e, h⟩
 | elt2 id i pos j off ver v h =>
  intro v0 h0
  cases h0 with
  | elt2 _ _ _ _ _ _ _ h0 =>
  obtain ⟨o0, e0, -⟩ := h0
  obtain ⟨o, e, h⟩ := h
  exact .elt2 id i pos j off ver v ⟨o, by rw [take_get (lt_of_get e0)]; exact e, h⟩
 | dptrM cs s arr x hl h ih =>
  intro v0 h0
  cases h0 with
  | dptrM _ s0 arr0 x0 hl0 hh0 => exact .dptrM cs s arr x hl fun i a b => ih i a b (hh0 i a (by omega))
  | dptrP _ b0 off0 c0 hG0 hl0 hh0 => exact .dptrM cs s arr x hl fun i a b => ih i a b (hh0 i a (by omega))
 | dptrP cs b off c hG hl h ih =>
  intro v0 h0
  cases h0 with
  | dptrM _ s0 arr0 x0 hl0 hh0 => exact .dptrP cs b off c hG hl fun i a b => ih i a b (hh0 i a (by omega))
  | dptrP _ b0 off0 c0 hG0 hl0 hh0 => exact .dptrP cs b off c hG hl fun i a b => ih i a b (hh0 i a (by omega))
 | agg cs arr hl h ih => intro v0 h0; cases h0 with | agg _ arr0 hl0 hh0 => exact .agg cs arr hl fun i a b => ih i a b (hh0 i a (by omega))
 | tup cs arr hl h ih => intro v0 h0; cases h0 with | tup _ arr0 hl0 hh0 => exact .tup cs arr hl fun i a b => ih i a b (hh0 i a (by omega))
 | func f x y x' y' hx hy h1 h2 i1 i2 =>
  intro v0 h0
  cases h0 with
  | func _ _ _ _ _ hx0 hy0 g1 g2 => exact .func f x y x' y' hx hy (fun i a b => i1 i a b (g1 i a (by omega))) fun i a b => i2 i a b (g2 i a (by omega))
 | yld id v h =>
  intro v0 h0
  cases h0 with
  | yld _ _ h0 =>
  refine .yld id v ?_
  unfold YldR at *
  have : id < os0.length := by
   cases e : os0[id]? with
   | none => rw [e] at h0; exact h0.elim
   | some o => exact lt_of_get e
  rw [take_get this]; exact h
 | junk v => intro _ _; exact .junk v

def Old (n : Nat) (v : TV) : Prop := ∃ (m0 : Mp) (os0 : List TObj) (v0 : Value), os0.length = n ∧ RV m0 os0 v v0
def BO (n : Nat) : TObj → TObj → Prop
 | .row _ t l tid, o => (∃ w, o = .row w t l tid) ∨ o = .dead
 | .fro t l, o => o = .fro t l ∨ o = .dead
 | .mat _ t l tid nt ver hole, o => (∃ w, o = .mat w t l tid nt ver hole) ∨ o = .dead ∨ o = .hid t tid nt ver
 | .hid t tid nt ver, o => o = .hid t tid nt ver
 | .dead, o => o = .dead
 | .box w1 cs1 tid, o => ∃ w cs, o = .box w cs tid ∧ cs.length = cs1.length ∧ w.length = w1.length ∧ ∀ (j : Nat) (h : j < cs.length) (h' : j < cs1.length), cs[j] = .junk ∨ (cs[j] = cs1[j] ∧ Old n cs[j])
 | .frame tmps ps asg body st pend _, o => ∃ ctx, o = .frame tmps ps asg body st pend ctx ∧ ∀ v ∈ tmps, Old n v
 | .iter _ s pos, o => (∃ w, o = .iter w s pos) ∨ o = .lost
 | .lost, o => o = .lost
theorem BO.kw {n : Nat} {o1 o : TObj} (h : BO n o1 o) : KW o1 o := by
 cases o1 with
 | row w t l tid => rcases h with ⟨w', rfl⟩ | rfl; exact .inl ⟨w', l, rfl, rfl⟩; exact .inr (.inl rfl)
 | fro t l => exact h
 | mat w t l tid nt ver hole =>
  rcases h with ⟨w', rfl⟩ | rfl | rfl
  ·exact .inl ⟨ver, rfl, Nat.le_refl _⟩
  ·exact .inr (.inr (.inl rfl))
  ·exact .inl ⟨ver, rfl, Nat.le_refl _⟩
 | hid t tid nt ver => cases (show o = _ from h); exact .inl ⟨ver, rfl, Nat.le_refl _⟩
 | dead => exact h
 | box w cs tid => obtain ⟨w', cs', rfl, _⟩ := h; trivial
 | frame tmps ps asg body st pend ctx => obtain ⟨c, rfl, _⟩ := h; exact .inl ⟨_, _, _, _, _, _, _, rfl⟩
 | iter w s pos => rcases h with ⟨w', rfl⟩ | rfl <;> trivial
 | lost => cases (show o = _ from h); trivial
theorem base_sound {m : Mp} {os : List TObj} {H : AH} (hR : HR m os H) {osB : List TObj} (hle : osB.length ≤ os.length) (hB : ∀ (i : Nat) o, osB[i]? = some o → ∃ o1, os[i]? = some o1 ∧ BO osB.length o1 o) :
  ∃ m1 : Mp, m1.G = m.G ∧ (m1.μ = m.μ ∧ m1.ν = m.ν) ∧ (∀ (i : Key) b, m1.ρ i = some b → m.ρ i = some b ∧ ∃ o, osB[i.top]? = some o ∧ o ≠ .dead) ∧ (∀ (i : Key) o, osB[i.top]? = some o → o ≠ .dead → m1.ρ i = m.ρ i) ∧ HR m1 osB H ∧ ∀ v x, Old osB.length v → RV m os v x → RV m1 osB v x := by
 classical
 let m1 : Mp := ⟨fun i => if ∃ o, osB[i.top]? = some o ∧ o ≠ .dead then m.ρ i else none, m.G, m.μ, m.ν⟩
 have hsub : ∀ (i : Key) b, m1.ρ i = some b → m.ρ i = some b ∧ ∃ o, osB[i.top]? = some o ∧ o ≠ .dead := fun i b hi => by
  simp only [m1] at hi
  split at hi
  ·exact ⟨hi, ‹_›⟩
  ·cases hi
 have hkeep : ∀ (i : Key) o, osB[i.top]? = some o → o ≠ .dead → m1.ρ i = m.ρ i := fun i o h1 h2 => by
  simp only [m1]
  rw [if_pos ⟨o, h1, h2⟩]
 have hkw : KeepW (os.take osB.length) osB := fun i o ho => by
  have hi : i < osB.length := by have := lt_of_get ho; simp at this; omega
  obtain ⟨o1, h1, h2⟩ := hB i osB[i] (List.getElem?_eq_getElem hi)
  rw [take_get hi, h1] at ho
  cases ho
  exact ⟨_, List.getElem?_eq_getElem hi, h2.kw⟩
 have getB : ∀ {i : Nat} {o : TObj}, (os.take osB.length)[i]? = some o → os[i]? = some o ∧ ∃ o', osB[i]? = some o' ∧ BO osB.length o o' := fun {i o} ho => by
  have hi : i < osB.length := by have := lt_of_get ho; simp at this; omega
  obtain ⟨o1, h1, h2⟩ := hB i osB[i] (List.getElem?_eq_getElem hi)
  rw [take_get hi, h1] at ho
  cases ho
  exact ⟨h1, _, List.getElem?_eq_getElem hi, h2⟩
 have hm : MapLe m (os.take osB.length) m1 osB := by
  have hmk := mats_keepI (m := m) (m' := m1) (os := os.take osB.length) (os' := osB) fun i o x h1 h2 => by
   obtain ⟨_, o', g1, g2⟩ := getB h1
   cases o with
   | mat w t l tid nt ver hole =>
    rcases g2 with ⟨w', rfl⟩ | rfl | rfl
    ·exact .inl ⟨_, g1, h2, hkeep i _ g1 (by simp), rfl, rfl⟩
    ·exact .inr g1
    ·exact .inl ⟨_, g1, h2, hkeep i _ g1 (by simp), rfl, rfl⟩
   | hid t tid nt ver => cases (show o' = _ from g2); exact .inl ⟨_, g1, h2, hkeep i _ g1 (by simp), rfl, rfl⟩
   | _ => cases h2
  refine ⟨.refl _, hkw, fun i b hb hf => ?_, fun i a b c d e f g a' b' c' d' e' f' g' h1 h2 => ?_, fun i w t l tid w' t' l' tid' h1 h2 => ?_, fun i w t l tid t' l' h1 h2 => ?_, hmk.1, hmk.2.1, hmk.2.2⟩
  ·have hf2 := hf.keep hkw
   unfold isFix at hf2
   cases e : osB[i]? with
   | none => rw [e] at hf2; exact hf2.elim
   | some o =>
    rw [e] at hf2
    rw [hkeep i o e (by intro q; subst q; exact hf2)]; exact hb
  ·exact hkeep i _ h2 (by simp)
  ·exact hkeep i _ h2 (by simp)
  ·obtain ⟨_, o', g1, g2⟩ := getB h1
   rw [h2] at g1; cases g1
   rcases g2 with ⟨w, e⟩ | e <;> cases e
 have tr : ∀ v x, Old osB.length v → RV m os v x → RV m1 osB v x := fun v x ho hv => by
  obtain ⟨m0, os0, v0, e, h0⟩ := ho
  have := hv.restrict h0
  rw [e] at this
  exact this.mono hm
 refine ⟨m1, rfl, ⟨rfl, rfl⟩, hsub, hkeep, ⟨fun i j b hi hj => hR.inj i j b (hsub i b hi).1 (hsub j b hj).1, fun i b hi => ⟨(hR.lt i b (hsub i b hi).1).1, ?_⟩, fun i b hi => hR.disj i b (hsub i b hi).1, hR.gr, fun i o ho => ?_⟩, tr⟩
 ·obtain ⟨o, h1, -⟩ := (hsub i b hi).2
  exact lt_of_get h1
 ·obtain ⟨o1, h1, h2⟩ := hB i o ho
  have hobj := hR.obj i o1 h1
  cases o1 with
  | row w t l tid =>
   rcases h2 with ⟨w', rfl⟩ | rfl
   ·rcases hobj with ⟨a1, a2⟩ | ⟨b, c, a1, a2⟩
    ·exact .inl ⟨(hkeep i _ ho (by simp)).trans a1, a2⟩
    ·exact .inr ⟨b, c, (hkeep i _ ho (by simp)).trans a1, a2⟩
   ·trivial
  | fro t l =>
   rcases h2 with rfl | rfl
   ·exact (hkeep i _ ho (by simp)).trans hobj
   ·trivial
  | mat w t l tid nt ver hole =>
   rcases h2 with ⟨w', rfl⟩ | rfl | rfl
   rotate_right
   ·trivial
   ·exact MR.mono (m := m) (m' := m1) (.refl _) ⟨rfl, rfl⟩ (fun k hk => hkeep k _ (by rw [hk]; exact ho) (by simp)) (fun _ _ _ _ => rfl) hobj
   ·trivial
  | hid t tid nt ver => cases (show o = _ from h2); trivial
  | dead => cases (show o = _ from h2); trivial
  | box w cs tid =>
   obtain ⟨w', cs', rfl, g1, g2, g3⟩ := h2
   obtain ⟨b, c, a1, a2, a3, a4⟩ := hobj
   refine ⟨b, c, (hkeep i _ ho (by simp)).trans a1, a2, by omega, by rw [g1]; exact a4.1, fun j p q => ?_⟩
   rcases g3 j p (by omega) with e | ⟨e, ho'⟩
   ·rw [e]; exact .junk _
   ·refine tr _ _ ho' ?_
    rw [e]; exact a4.2 j (by omega) q
  | frame tmps ps asg body st pend ctx =>
   obtain ⟨ctx', rfl, g1⟩ := h2
   obtain ⟨b, tm', a1, a2, a3⟩ := hobj
   refine ⟨b, tm', (hkeep i _ ho (by simp)).trans a1, a2, a3.1, fun j p q => tr _ _ (g1 _ (List.getElem_mem _)) (a3.2 j p q)⟩
  | iter w s pos =>
   rcases h2 with ⟨w', rfl⟩ | rfl
   ·obtain ⟨b, a1, a2⟩ := hobj
    exact ⟨b, (hkeep i _ ho (by simp)).trans a1, a2⟩
   ·trivial
  | lost => cases (show o = _ from h2); trivial

def SvR (G : Nat → Option (List Value)) (s : Sv) (v : s.den) (x : Value) : Prop := ∀ (m : Mp) (os : List TObj), m.G = G → RV m os (s.put v) x
def RowV' (G : Nat → Option (List Value)) (H : AH) (t : Ty) (l : List t.den) (tid : Nat) (r : Option Nat) (x : Value) : Prop :=
 (r = none ∧ l = [] ∧ x = .slice none 0 0) ∨ ∃ b c, r = some b ∧ x = .slice (some ⟨b, 0, none⟩) l.length t.size ∧ b < H.next ∧ G b = none ∧ H.get b = .cells c true t.size tid ∧ l.length * t.size ≤ c.length ∧ Rows (DC G t) t.size c l
def RowZ (G : Nat → Option (List Value)) (H : AH) (l : List Int) (tid : Nat) (r : Option Nat) (x : Value) : Prop := RowV' G H (.int .u8) l tid r x ∧ (r ≠ none → l ≠ [])
structure Rk where
 r : Option Nat
 f : Nat → Option Nat
 c : List Value
def Rk.of (r : Option Nat) : Rk := ⟨r, fun _ => none, []⟩
abbrev Rk.no : Rk := .of none
def Rk.has (k : Rk) (b : Nat) : Prop := k.r = some b ∨ ∃ j, k.f j = some b
theorem Rk.has_of {r : Option Nat} {b : Nat} (h : (Rk.of r).has b) : r = some b := by
 rcases h with h | ⟨j, h⟩
 ·exact h
 ·cases h
theorem Rk.no_has {b : Nat} (h : Rk.no.has b) : False := by have := Rk.has_of h; cases this
def matM (G : Nat → Option (List Value)) (k : Rk) (n : Nat) : Mp :=
 ⟨fun q => match q with | .o _ => k.r | .n _ j => k.f j, G, fun _ => some k.c, fun _ => n⟩
def MatV (G : Nat → Option (List Value)) (H : AH) (t : Ty) (l : List t.den) (tid : Nat) (nt : List Nat) (k : Rk) (x : Value) : Prop :=
 MR (matM G k l.length) H 0 t l tid nt none ∧ ((k.r = none ∧ l = [] ∧ x = .slice none 0 0) ∨ ∃ b, k.r = some b ∧ x = .slice (some ⟨b, 0, none⟩) l.length t.size) ∧
 (∀ b, k.has b → b < H.next ∧ G b = none) ∧ (∀ b j, k.r = some b → k.f j ≠ some b) ∧ ∀ j j' b, k.f j = some b → k.f j' = some b → j = j'
def Sat (m : Mp) (H : AH) (a : Env) : (x : RSh) → x.den → Rk → Prop
 | .val i s, v, k => k = .no ∧ ∀ x, a[i]? = some x → SvR m.G s v x
 | .cell id j s, v, k => k = .no ∧ ∃ b c tid, m.ρ id = some b ∧ H.get b = .cells c true 0 tid ∧ ∀ x, c[j]? = some x → SvR m.G s v x
 | .own i t tid, l, k => ∃ r, k = .of r ∧ (∃ x, RowV' m.G H t l tid r x) ∧ ∀ x, a[i]? = some x → RowV' m.G H t l tid r x
 | .ownC id j t tid, l, k => ∃ r, k = .of r ∧ (∃ x, RowV' m.G H t l tid r x) ∧ ∃ b c tid', m.ρ id = some b ∧ H.get b = .cells c true 0 tid' ∧ ∀ x, c[j]? = some x → RowV' m.G H t l tid r x
 | .iter id s, n, k => k = .no ∧ ∃ b, m.ρ id = some b ∧ H.get b = .iter ⟨s.toArray⟩ n
 | .selfp id j, v, k => k = .no ∧ ∃ b c tid, m.ρ id = some b ∧ H.get b = .cells c true 0 tid ∧ ∀ x, c[j]? = some x → (v = true ∧ x = .pointer none) ∨ (v = false ∧ x = .pointer (some ⟨b, 0, none⟩))
 | .bufC id j tid, l, k => ∃ r, k = .of r ∧ (∃ x, RowZ m.G H l tid r x) ∧ ∃ b c tid', m.ρ id = some b ∧ H.get b = .cells c true 0 tid' ∧ ∀ x, c[j]? = some x → RowZ m.G H l tid r x
 | .ownM i t tid nt, l, k => (∃ x, MatV m.G H t l tid nt k x) ∧ ∀ x, a[i]? = some x → MatV m.G H t l tid nt k x
 | .ownMC id j t tid nt, l, k => (∃ x, MatV m.G H t l tid nt k x) ∧ ∃ b c tid', m.ρ id = some b ∧ H.get b = .cells c true 0 tid' ∧ ∀ x, c[j]? = some x → MatV m.G H t l tid nt k x
 | .mat id t tid nt ver, l, k => k = .no ∧ MR m H id t l tid nt none
theorem mapLe_set {m : Mp} {os : List TObj} {id : Nat} {o o' : TObj} (ho : os[id]? = some o) (hk : KW o o') (h1 : matI o = none) (h2 : ∀ w t l tid, o ≠ .row w t l tid) : MapLe m os m (os.set id o') := by
 have hid := lt_of_get ho
 have hmk := mats_keep (m := m) (m' := m) (os := os) (os' := os.set id o') fun i x y g1 g2 => by
  by_cases e : id = i
  ·subst e; rw [ho] at g1; cases g1; rw [h1] at g2; cases g2
  ·exact .inl ⟨by rw [List.getElem?_set_ne e]; exact g1, rfl, rfl, rfl⟩
 refine ⟨.refl _, fun i x g1 => ?_, fun _ _ hb _ => hb, fun _ _ _ _ _ _ _ _ _ _ _ _ _ _ _ _ _ => rfl, fun _ _ _ _ _ _ _ _ _ _ _ => rfl, fun i w' t l tid' t' l' g1 g2 => ?_, hmk.1, hmk.2.1, hmk.2.2⟩
 ·by_cases e : id = i
  ·subst e; rw [ho] at g1; cases g1; exact ⟨o', by simp [hid], hk⟩
  ·exact ⟨x, by rw [List.getElem?_set_ne e]; exact g1, (KeepO.refl x).kw⟩
 ·by_cases e : id = i
  ·subst e; rw [ho] at g1; cases g1; exact absurd rfl (h2 _ _ _ _)
  ·rw [List.getElem?_set_ne e, g1] at g2; cases g2
theorem setCell_some {os : List TObj} {id : Nat} {w : List Bool} {cs : List TV} {tid : Nat} (h : os[id]? = some (.box w cs tid)) (j : Nat) (v : TV) : setCell os id j v = os.set id (.box w (cs.set j v) tid) := by
 unfold setCell
 rw [show os.getD id .dead = .box w cs tid by rw [List.getD_eq_getElem?_getD, h]; rfl]
theorem rl_keep {m : Mp} {os : List TObj} {env : List TV} {a : Env} (h : RL m os env a) (i : Nat) {v : TV} (hv : ∀ x, a[i]? = some x → RV m os v x) : RL m os (env.set i v) a := by
 refine ⟨by simp [h.1], fun j p q => ?_⟩
 simp only [List.getElem_set]
 split
 ·rename_i e; subst e
  exact hv _ (List.getElem?_eq_getElem q)
 ·exact h.2 j (by simpa using p) q
theorem hr_cell {m : Mp} {os : List TObj} {H : AH} (hR : HR m os H) {id j : Nat} {w : List Bool} {cs : List TV} {tid : Nat} (ho : os[id]? = some (.box w cs tid)) {v : TV} (hv : ∀ b c, m.ρ id = some b → H.get b = .cells c true 0 tid → ∀ x, c[j]? = some x → RV m os v x) :
  HR m (os.set id (.box w (cs.set j v) tid)) H ∧ MapLe m os m (os.set id (.box w (cs.set j v) tid)) := by
 have hid := lt_of_get ho
 have hm : MapLe m os m (os.set id (.box w (cs.set j v) tid)) := by
  exact mapLe_set ho trivial rfl fun _ _ _ _ e => by cases e
 refine ⟨⟨hR.inj, fun i b hb => by simpa using hR.lt i b hb, hR.disj, hR.gr, fun i o h1 => ?_⟩, hm⟩
 by_cases e : id = i
 ·subst e
  simp [hid] at h1
  subst h1
  obtain ⟨b, c, a1, a2, a3, a4⟩ := hR.obj id _ ho
  exact ⟨b, c, a1, a2, by simpa using a3, (rl_keep a4 j (hv b c a1 a2)).mono hm⟩
 ·rw [List.getElem?_set_ne e] at h1
  exact (hR.obj i o h1).mono hm ⟨rfl, rfl⟩ (fun _ _ => rfl) fun _ _ _ _ => rfl
theorem hr_row {m : Mp} {os : List TObj} {H : AH} (hR : HR m os H) {t : Ty} {l : List t.den} {tid : Nat} {r : Option Nat} {x : Value} (hx : RowV' m.G H t l tid r x) (hun : ∀ b, r = some b → ∀ i : Key, m.ρ i ≠ some b) :
  HR (updM m os.length r) (os ++ [.row true t l tid]) H ∧ MapLe m os (updM m os.length r) (os ++ [.row true t l tid]) ∧ RV (updM m os.length r) (os ++ [.row true t l tid]) (.own os.length) x := by
 have hm := mapLe_push hR (.row true t l tid) r
 have hsub : ∀ (i : Key) b, (updM m os.length r).ρ i = some b → (i = os.length ∧ r = some b) ∨ (i ≠ os.length ∧ m.ρ i = some b) := fun i b hi => by
  by_cases e : i = os.length
  ·subst e; rw [updM_self] at hi; exact .inl ⟨rfl, hi⟩
  ·rw [updM_ne _ _ e] at hi; exact .inr ⟨e, hi⟩
 refine ⟨⟨fun i j b hi hj => ?_, fun i b hi => ?_, fun i b hi => ?_, hR.gr, fun i o ho => ?_⟩, hm, .own _ _ ?_⟩
 ·rcases hsub i b hi with ⟨e1, h1⟩ | ⟨e1, h1⟩ <;> rcases hsub j b hj with ⟨e2, h2⟩ | ⟨e2, h2⟩
  ·rw [e1, e2]
  ·exact absurd h2 (hun b h1 j)
  ·exact absurd h1 (hun b h2 i)
  ·exact hR.inj i j b h1 h2
 ·rcases hsub i b hi with ⟨e1, h1⟩ | ⟨e1, h1⟩
  ·subst e1
   rcases hx with ⟨e, _⟩ | ⟨b', c, e, _, h2, _⟩
   ·rw [e] at h1; cases h1
   ·rw [e] at h1; cases h1; exact ⟨h2, by simp [Key.top]⟩
  ·have := hR.lt i b h1; simp; omega
 ·rcases hsub i b hi with ⟨e1, h1⟩ | ⟨e1, h1⟩
  ·rcases hx with ⟨e, _⟩ | ⟨b', c, e, _, _, h2, _⟩
   ·rw [e] at h1; cases h1
   ·rw [e] at h1; cases h1; exact h2
  ·exact hR.disj i b h1
 ·rcases get_append ho with ho | ⟨rfl, rfl⟩
  ·exact (hR.obj i o ho).mono hm ⟨rfl, rfl⟩ (fun k hk => updM_ne _ _ (kt hk (by have := lt_of_get ho; omega))) fun _ _ _ _ => rfl
  ·rcases hx with ⟨e, h1, _⟩ | ⟨b', c, e, _, _, _, h1, h2, h3⟩
   ·exact .inl ⟨by rw [updM_self]; exact e, h1⟩
   ·exact .inr ⟨b', c, by rw [updM_self]; exact e, h1, h2, h3⟩
 ·unfold OwnR
  simp only [List.getElem?_concat_length]
  rcases hx with ⟨e, h1, h2⟩ | ⟨b', c, e, h1, _⟩
  ·exact .inl ⟨by rw [updM_self]; exact e, h1, h2⟩
  ·exact .inr ⟨b', by rw [updM_self]; exact e, h1⟩
theorem hr_buf {m : Mp} {os : List TObj} {H : AH} (hR : HR m os H) {l : List Int} {tid : Nat} {r : Option Nat} {x : Value} (hx : RowZ m.G H l tid r x) (hun : ∀ b, r = some b → ∀ i : Key, m.ρ i ≠ some b) :
  RV (updM m os.length r) (os ++ [.row true (.int .u8) l tid]) (.buf os.length) x := by
 have := (hr_row hR hx.1 hun).2.2
 refine .buf _ _ ?_
 cases this with
 | own _ _ h =>
 unfold OwnR at h
 unfold BufR
 simp only [List.getElem?_concat_length] at h ⊢
 rcases h with h | ⟨b, h1, h2⟩
 ·exact .inl h
 ·rw [updM_self] at h1
  exact .inr ⟨b, by rw [updM_self]; exact h1, hx.2 (by rw [h1]; simp), h2⟩
theorem hr_iter {m : Mp} {os : List TObj} {H : AH} (hR : HR m os H) {id : Nat} (ho : os[id]? = some .lost) {s : List UInt8} {n : Nat} (hi : ∃ b, m.ρ id = some b ∧ H.get b = .iter ⟨s.toArray⟩ n) :
  HR m (os.set id (.iter true s n)) H ∧ MapLe m os m (os.set id (.iter true s n)) := by
 have hid := lt_of_get ho
 have hm : MapLe m os m (os.set id (.iter true s n)) := by
  exact mapLe_set ho trivial rfl fun _ _ _ _ e => by cases e
 refine ⟨⟨hR.inj, fun i b hb => by simpa using hR.lt i b hb, hR.disj, hR.gr, fun i o h1 => ?_⟩, hm⟩
 by_cases e : id = i
 ·subst e; simp [hid] at h1; subst h1; exact hi
 ·rw [List.getElem?_set_ne e] at h1
  exact (hR.obj i o h1).mono hm ⟨rfl, rfl⟩ (fun _ _ => rfl) fun _ _ _ _ => rfl

def updK (m : Mp) (n : Nat) (k : Rk) (len : Nat) : Mp := ⟨fun q => match q with | .o i => if i = n then k.r else m.ρ (.o i) | .n i j => if i = n then k.f j else m.ρ (.n i j), m.G, fun q => if q = n then some k.c else m.μ q, fun q => if q = n then len else m.ν q⟩
theorem updK_ne (m : Mp) {n : Nat} {i : Key} (k : Rk) (len : Nat) (h : i.top ≠ n) : (updK m n k len).ρ i = m.ρ i := by
 cases i with
 | o i => exact if_neg h
 | n i j => exact if_neg h
theorem updK_src (m : Mp) {n : Nat} {i : Key} {k : Rk} {len b : Nat} (h : (updK m n k len).ρ i = some b) : (i = .o n ∧ k.r = some b) ∨ (∃ j, i = .n n j ∧ k.f j = some b) ∨ (i.top ≠ n ∧ m.ρ i = some b) := by
 by_cases e : i.top = n
 ·cases i with
  | o i =>
   cases (show i = n from e)
   exact .inl ⟨rfl, by rw [← h]; exact (if_pos rfl).symm⟩
  | n i j =>
   cases (show i = n from e)
   exact .inr (.inl ⟨j, rfl, by rw [← h]; exact (if_pos rfl).symm⟩)
 ·rw [updK_ne m k len e] at h; exact .inr (.inr ⟨e, h⟩)
theorem mapLe_pushK {m : Mp} {os : List TObj} {H : AH} (hR : HR m os H) (o : TObj) (k : Rk) (len : Nat) : MapLe m os (updK m os.length k len) (os ++ [o]) := by
 have hk : ∀ i x, os[i]? = some x → ∀ q : Key, q.top = i → (updK m os.length k len).ρ q = m.ρ q := fun i x h q hq => updK_ne m k len (by have := lt_of_get h; omega)
 have hmk := mats_keep (m := m) (m' := updK m os.length k len) (os := os) (os' := os ++ [o]) fun i x y h1 h2 => by
  have := lt_of_get h1
  exact .inl ⟨by rw [List.getElem?_append_left this]; exact h1, hk i x h1 _ rfl, if_neg (by omega), if_neg (by omega)⟩
 refine ⟨.refl _, (keep_push os o).kw, fun i b hb hf => ?_, fun i a b c d e f g a' b' c' d' e' f' g' h1 h2 => hk i _ h1 _ rfl, fun i w t l tid w' t' l' tid' h1 h2 => hk i _ h1 _ rfl, fun i w t l tid t' l' h1 h2 => ?_, hmk.1, hmk.2.1, hmk.2.2⟩
 ·rw [updK_ne m k len (fun e => by have := (hR.lt _ b hb).2; simp only [Key.top] at this e; omega)]; exact hb
 ·rw [List.getElem?_append_left (lt_of_get h1), h1] at h2; cases h2
theorem hr_mat {m : Mp} {os : List TObj} {H : AH} (hR : HR m os H) {t : Ty} {l : List t.den} {tid : Nat} {nt : List Nat} {k : Rk} {x : Value} (hx : MatV m.G H t l tid nt k x) (hun : ∀ b, k.has b → ∀ i : Key, m.ρ i ≠ some b) :
  HR (updK m os.length k l.length) (os ++ [.mat true t l tid nt 0 none]) H ∧ MapLe m os (updK m os.length k l.length) (os ++ [.mat true t l tid nt 0 none]) ∧ RV (updK m os.length k l.length) (os ++ [.mat true t l tid nt 0 none]) (.own os.length) x := by
 have hm := mapLe_pushK hR (.mat true t l tid nt 0 none) k l.length
 obtain ⟨x1, x2, x3, x4, x5⟩ := hx
 have n0 : (updK m os.length k l.length).ρ os.length = k.r := if_pos rfl
 have nj : ∀ j, (updK m os.length k l.length).ρ (.n os.length j) = k.f j := fun j => if_pos rfl
 refine ⟨⟨fun i j b hi hj => ?_, fun i b hi => ?_, fun i b hi => ?_, hR.gr, fun i o ho => ?_⟩, hm, .own _ _ ?_⟩
 ·rcases updK_src m hi with ⟨e1, h1⟩ | ⟨j1, e1, h1⟩ | ⟨e1, h1⟩ <;> rcases updK_src m hj with ⟨e2, h2⟩ | ⟨j2, e2, h2⟩ | ⟨e2, h2⟩
  ·rw [e1, e2]
  ·exact absurd h2 (x4 _ _ h1)
  ·exact absurd h2 (hun b (.inl h1) j)
  ·exact absurd h1 (x4 _ _ h2)
  ·rw [e1, e2, x5 _ _ _ h1 h2]
  ·exact absurd h2 (hun b (.inr ⟨_, h1⟩) j)
  ·exact absurd h1 (hun b (.inl h2) i)
  ·exact absurd h1 (hun b (.inr ⟨_, h2⟩) i)
  ·exact hR.inj i j b h1 h2
 ·rcases updK_src m hi with ⟨e1, h1⟩ | ⟨j1, e1, h1⟩ | ⟨e1, h1⟩
  ·subst e1; exact ⟨(x3 b (.inl h1)).1, by simp [Key.top]⟩
  ·subst e1; exact ⟨(x3 b (.inr ⟨_, h1⟩)).1, by simp [Key.top]⟩
  ·have := hR.lt i b h1; simp; omega
 ·rcases updK_src m hi with ⟨e1, h1⟩ | ⟨j1, e1, h1⟩ | ⟨e1, h1⟩
  ·exact (x3 b (.inl h1)).2
  ·exact (x3 b (.inr ⟨_, h1⟩)).2
  ·exact hR.disj i b h1
 ·rcases get_append ho with ho | ⟨rfl, rfl⟩
  ·have hlt := lt_of_get ho
   exact (hR.obj i o ho).mono hm ⟨if_neg (by omega), if_neg (by omega)⟩ (fun q hq => updK_ne _ _ _ (by omega)) fun _ _ _ _ => rfl
  ·obtain ⟨q1, q2⟩ := x1
   refine ⟨(if_pos rfl).symm, ?_⟩
   rcases q2 with ⟨h1, h2⟩ | ⟨b, c, h1, h2, h3, h4, h5⟩
   ·exact .inl ⟨n0.trans h1, h2⟩
   ·refine .inr ⟨b, c, n0.trans h1, (if_pos rfl).trans h2, h3, h4, fun i hi => NC.map (m := matM m.G k l.length) (m' := updK m os.length k l.length) (H := H) (id := 0) (.refl _) (fun e => e) _ _ _ _ (fun p d _ _ hd => ⟨(nj _).trans hd, rfl⟩) (h5 i hi)⟩
 ·rw [OwnR_mat (o := .mat true t l tid nt 0 none) (by simp) rfl]
  rcases x2 with ⟨h1, h2, h3⟩ | ⟨b, h1, h2⟩
  ·exact .inl ⟨n0.trans h1, (if_pos rfl).trans (by rw [h2]; rfl), h3⟩
  ·exact .inr ⟨b, n0.trans h1, by rw [h2]; exact congrArg (fun z => Value.slice _ z _) (if_pos rfl).symm⟩

theorem hr_mset {m : Mp} {os : List TObj} {H : AH} (hR : HR m os H) {id : Nat} {t : Ty} {l : List t.den} {tid : Nat} {nt : List Nat} {ver : Nat} (ho : os[id]? = some (.hid t tid nt ver)) (hM : MR m H id t l tid nt none) :
  HR m (os.set id (.mat true t l tid nt ver none)) H ∧ MapLe m os m (os.set id (.mat true t l tid nt ver none)) := by
 have hid := lt_of_get ho
 have hmk := mats_keepI (m := m) (m' := m) (os := os) (os' := os.set id (.mat true t l tid nt ver none)) fun i x y h1 h2 => by
  by_cases e : id = i
  ·subst e; rw [ho] at h1; cases h1; exact .inl ⟨.mat true t l tid nt ver none, by simp [hid], h2, rfl, rfl, rfl⟩
  ·exact .inl ⟨x, by rw [List.getElem?_set_ne e]; exact h1, h2, rfl, rfl, rfl⟩
 have hm : MapLe m os m (os.set id (.mat true t l tid nt ver none)) := by
  refine ⟨.refl _, fun i o h1 => ?_, fun _ _ hb _ => hb, fun _ _ _ _ _ _ _ _ _ _ _ _ _ _ _ _ _ => rfl, fun _ _ _ _ _ _ _ _ _ _ _ => rfl, fun i w' t l tid' t' l' h1 h2 => ?_, hmk.1, hmk.2.1, hmk.2.2⟩
  ·by_cases e : id = i
   ·subst e; rw [ho] at h1; cases h1; exact ⟨.mat true t l tid nt ver none, by simp [hid], .inl ⟨ver, rfl, Nat.le_refl _⟩⟩
   ·exact ⟨o, by rw [List.getElem?_set_ne e]; exact h1, (KeepO.refl o).kw⟩
  ·by_cases e : id = i
   ·subst e; rw [ho] at h1; cases h1
   ·rw [List.getElem?_set_ne e, h1] at h2; cases h2
 refine ⟨⟨hR.inj, fun i b hb => by simpa using hR.lt i b hb, hR.disj, hR.gr, fun i o h1 => ?_⟩, hm⟩
 by_cases e : id = i
 ·subst e; simp [hid] at h1; subst h1; exact hM
 ·rw [List.getElem?_set_ne e] at h1
  exact (hR.obj i o h1).mono hm ⟨rfl, rfl⟩ (fun _ _ => rfl) fun _ _ _ _ => rfl

def FO (l : List RSh) (id : Nat) : TObj → TObj → Prop
 | .box w cs tid, o' => ∃ cs', o' = .box w cs' tid ∧ cs'.length = cs.length ∧ ∀ j, j ∉ cellsOf id l → cs'[j]? = cs[j]?
 | .lost, o' => o' = .lost ∨ (id ∈ itersOf l ∧ ∃ s n, o' = .iter true s n)
 | .hid t tid nt ver, o' => o' = .hid t tid nt ver ∨ (id ∈ matsOf l ∧ ∃ r, o' = .mat true t r tid nt ver none)
 | o, o' => o' = o
theorem FO.refl (l : List RSh) (id : Nat) (o : TObj) : FO l id o o := by
 cases o <;> first | rfl | exact ⟨_, rfl, rfl, fun _ _ => rfl⟩ | exact .inl rfl
theorem FO.trans {l : List RSh} {id : Nat} {a b c : TObj} (h : FO l id a b) (k : FO l id b c) : FO l id a c := by
 cases a with
 | box w cs tid =>
  obtain ⟨cs1, rfl, h1, h2⟩ := h
  obtain ⟨cs2, rfl, k1, k2⟩ := k
  exact ⟨cs2, rfl, k1.trans h1, fun j hj => (k2 j hj).trans (h2 j hj)⟩
 | lost =>
  rcases h with rfl | ⟨hi, s, n, rfl⟩
  ·exact k
  ·exact .inr ⟨hi, s, n, k⟩
 | hid t tid nt ver =>
  rcases h with rfl | ⟨hi, r, rfl⟩
  ·exact k
  ·exact .inr ⟨hi, r, k⟩
 | _ => cases (show b = _ from h); exact k
theorem cellsOf_cons {id j : Nat} {x : RSh} {l : List RSh} (h : j ∉ cellsOf id (x :: l)) : j ∉ cellsOf id l := by
 intro hj
 apply h
 cases x <;> simp only [cellsOf] <;> first | exact hj | (split <;> first | exact List.mem_cons_of_mem _ hj | exact hj)
theorem itersOf_cons {id : Nat} {x : RSh} {l : List RSh} (h : id ∈ itersOf l) : id ∈ itersOf (x :: l) := by
 cases x <;> simp only [itersOf] <;> first | exact h | exact List.mem_cons_of_mem _ h
theorem matsOf_cons {id : Nat} {x : RSh} {l : List RSh} (h : id ∈ matsOf l) : id ∈ matsOf (x :: l) := by
 cases x <;> simp only [matsOf] <;> first | exact h | exact List.mem_cons_of_mem _ h
theorem FO.cons {l : List RSh} {id : Nat} {a b : TObj} (x : RSh) (h : FO l id a b) : FO (x :: l) id a b := by
 cases a with
 | box w cs tid =>
  obtain ⟨cs1, rfl, h1, h2⟩ := h
  exact ⟨cs1, rfl, h1, fun j hj => h2 j (cellsOf_cons hj)⟩
 | lost =>
  rcases h with rfl | ⟨hi, s, n, rfl⟩
  ·exact .inl rfl
  ·exact .inr ⟨itersOf_cons hi, s, n, rfl⟩
 | hid t tid nt ver =>
  rcases h with rfl | ⟨hi, r, rfl⟩
  ·exact .inl rfl
  ·exact .inr ⟨matsOf_cons hi, r, rfl⟩
 | _ => exact h

def PlOk (os : List TObj) : RSh → Prop
 | .cell id _ _ | .ownC id _ _ _ | .selfp id _ | .bufC id _ _ | .ownMC id _ _ _ _ => ∃ w cs tid, os[id]? = some (.box w cs tid)
 | .iter id _ => os[id]? = some .lost
 | .mat id t tid nt ver => os[id]? = some (.hid t tid nt ver)
 | _ => True
def SatL (m : Mp) (H : AH) (a : Env) : (l : List RSh) → St l → List Rk → Prop
 | [], _, rs => rs = []
 | x :: l, v, rs => ∃ r rs', rs = r :: rs' ∧ Sat m H a x v.1 r ∧ (∀ b, r.has b → ∀ k ∈ rs', ¬ k.has b) ∧ SatL m H a l v.2 rs'

def plId : RSh → Option Nat
 | .cell id _ _ | .ownC id _ _ _ | .iter id _ | .selfp id _ | .bufC id _ _ | .ownMC id _ _ _ _ | .mat id _ _ _ _ => some id
 | _ => none
theorem Sat.rho {m m' : Mp} {H : AH} {a : Env} {x : RSh} {v : x.den} {r : Rk} (h : Sat m H a x v r) (hG : m'.G = m.G) (hρ : ∀ id, plId x = some id → (∀ b, m.ρ id = some b → m'.ρ id = some b) ∧ (id ∈ matsOf [x] → (∀ k : Key, k.top = id → m'.ρ k = m.ρ k) ∧ m'.μ id = m.μ id ∧ m'.ν id = m.ν id)) : Sat m' H a x v r := by
 unfold Sat at *
 simp only [hG]
 cases x with
 | val i s => exact h
 | mat id t tid nt ver => obtain ⟨h1, h2⟩ := h; obtain ⟨k1, k2, k3⟩ := (hρ id rfl).2 (List.mem_singleton_self _); exact ⟨h1, MR.mono (m := m) (by rw [hG]; exact .refl _) ⟨k2, k3⟩ k1 (fun _ _ _ _ => rfl) h2⟩
 | own i t tid => exact h
 | cell id j s => obtain ⟨h1, b, c, tid, h2, h3⟩ := h; exact ⟨h1, b, c, tid, (hρ id rfl).1 b h2, h3⟩
 | ownM i t tid nt => exact h
 | ownC id j t tid => obtain ⟨r, h0, h1, b, c, tid', h2, h3⟩ := h; exact ⟨r, h0, h1, b, c, tid', (hρ id rfl).1 b h2, h3⟩
 | ownMC id j t tid nt => obtain ⟨h1, b, c, tid', h2, h3⟩ := h; exact ⟨h1, b, c, tid', (hρ id rfl).1 b h2, h3⟩
 | selfp id j => obtain ⟨h1, b, c, tid', h2, h3⟩ := h; exact ⟨h1, b, c, tid', (hρ id rfl).1 b h2, h3⟩
 | bufC id j tid => obtain ⟨r, h0, h1, b, c, tid', h2, h3⟩ := h; exact ⟨r, h0, h1, b, c, tid', (hρ id rfl).1 b h2, h3⟩
 | iter id s => obtain ⟨h1, b, h2, h3⟩ := h; exact ⟨h1, b, (hρ id rfl).1 b h2, h3⟩
theorem SatL.rho {m m' : Mp} {H : AH} {a : Env} : ∀ {l : List RSh} {v : St l} {rs : List Rk}, SatL m H a l v rs → m'.G = m.G → (∀ x ∈ l, ∀ id, plId x = some id → (∀ b, m.ρ id = some b → m'.ρ id = some b) ∧ (id ∈ matsOf [x] → (∀ k : Key, k.top = id → m'.ρ k = m.ρ k) ∧ m'.μ id = m.μ id ∧ m'.ν id = m.ν id)) → SatL m' H a l v rs := by
 intro l
 induction l with
 | nil => intro v rs h _ _; exact h
 | cons x l ih =>
  intro v rs h hG hρ
  obtain ⟨r, rs', h1, h2, h3, h4⟩ := h
  exact ⟨r, rs', h1, h2.rho hG (hρ x (List.mem_cons_self ..)), h3, ih h4 hG fun y hy => hρ y (List.mem_cons_of_mem _ hy)⟩

theorem iters_mem {id : Nat} {s : List UInt8} : ∀ {l : List RSh}, RSh.iter id s ∈ l → id ∈ itersOf l := by
 intro l
 induction l with
 | nil => intro h; cases h
 | cons z r ih =>
  intro h
  rcases List.mem_cons.1 h with rfl | h
  ·exact List.mem_cons_self ..
  ·exact itersOf_cons (ih h)
theorem mats_mem {id : Nat} {t : Ty} {tid : Nat} {nt : List Nat} {ver : Nat} : ∀ {l : List RSh}, RSh.mat id t tid nt ver ∈ l → id ∈ matsOf l := by
 intro l
 induction l with
 | nil => intro h; cases h
 | cons z r ih =>
  intro h
  rcases List.mem_cons.1 h with rfl | h
  ·exact List.mem_cons_self ..
  ·exact matsOf_cons (ih h)
theorem fill1_other {x : RSh} {v : x.den} {env : List TV} {os : List TObj} {id : Nat} {o : TObj} (ho : os[id]? = some o) (hx : plId x ≠ some id) (hp : PlOk os x) : (fill1 x v ⟨env, os⟩).os[id]? = some o := by
 have cell : ∀ {id' j : Nat} {u : TV}, id' ≠ id → (∃ w cs tid, os[id']? = some (.box w cs tid)) → (setCell os id' j u)[id]? = some o := fun hne ⟨w, cs, tid, h2⟩ => by
  rw [setCell_some h2, List.getElem?_set_ne hne]; exact ho
 cases x with
 | val _ _ => exact ho
 | own _ _ _ => simp only [fill1]; rw [List.getElem?_append_left (lt_of_get ho)]; exact ho
 | ownM _ _ _ _ => simp only [fill1]; rw [List.getElem?_append_left (lt_of_get ho)]; exact ho
 | cell id' j s => exact cell (fun e => hx (by simp [plId, e])) hp
 | selfp id' j => exact cell (fun e => hx (by simp [plId, e])) hp
 | ownC id' j t tid => simp only [fill1]; have := cell (j := j) (u := .own os.length) (fun e => hx (by simp [plId, e])) hp; rw [List.getElem?_append_left (lt_of_get this)]; exact this
 | ownMC id' j t tid nt => simp only [fill1]; have := cell (j := j) (u := .own os.length) (fun e => hx (by simp [plId, e])) hp; rw [List.getElem?_append_left (lt_of_get this)]; exact this
 | bufC id' j tid => simp only [fill1]; have := cell (j := j) (u := .buf os.length) (fun e => hx (by simp [plId, e])) hp; rw [List.getElem?_append_left (lt_of_get this)]; exact this
 | iter id' s => simp only [fill1]; rw [List.getElem?_set_ne fun e => hx (by simp [plId, e])]; exact ho
 | mat id' t tid nt ver => simp only [fill1]; rw [List.getElem?_set_ne fun e => hx (by simp [plId, e])]; exact ho
theorem fill_all {H : AH} {a : Env} : ∀ (l : List RSh) (v : St l) (rs : List Rk) {m : Mp} {env : List TV} {os : List TObj}, HR m os H → RL m os env a → (∀ x ∈ l, PlOk os x) → (itersOf l).Nodup → (matsOf l).Nodup → SatL m H a l v rs → (∀ k ∈ rs, ∀ b, k.has b → ∀ i : Key, m.ρ i ≠ some b) →
  ∃ m' : Mp, HR m' (fill l v ⟨env, os⟩).os H ∧ RL m' (fill l v ⟨env, os⟩).os (fill l v ⟨env, os⟩).env a ∧ m'.G = m.G ∧ MapLe m os m' (fill l v ⟨env, os⟩).os ∧ (∀ (i : Key) b, m'.ρ i = some b → m.ρ i = some b ∨ ∃ k ∈ rs, k.has b) ∧
   (∀ (i : Nat) o, os[i]? = some o → ∃ o', (fill l v ⟨env, os⟩).os[i]? = some o' ∧ FO l i o o') ∧ (∀ i, i ∉ slotsOf l → (fill l v ⟨env, os⟩).env[i]? = env[i]?) ∧ (fill l v ⟨env, os⟩).env.length = env.length ∧
   ∀ id t tid nt ver, RSh.mat id t tid nt ver ∈ l → ∃ r, (fill l v ⟨env, os⟩).os[id]? = some (.mat true t r tid nt ver none) := by
 intro l
 induction l with
 | nil =>
  intro v rs m env os hR ha hp hn hnm hs hu
  exact ⟨m, hR, ha, rfl, .refl _ _ H hR, fun i b hb => .inl hb, fun i o ho => ⟨o, ho, .refl _ _ _⟩, fun _ _ => rfl, rfl, fun _ _ _ _ _ h => by cases h⟩
 | cons x l ih =>
  intro v rs m env os hR ha hp hn hnm hs hu
  obtain ⟨r, rs', rfl, s1, s2, s3⟩ := hs
  have one : ∃ m1 : Mp, HR m1 (fill1 x v.1 ⟨env, os⟩).os H ∧ RL m1 (fill1 x v.1 ⟨env, os⟩).os (fill1 x v.1 ⟨env, os⟩).env a ∧ m1.G = m.G ∧ MapLe m os m1 (fill1 x v.1 ⟨env, os⟩).os ∧ (∀ (i : Key) b, m1.ρ i = some b → m.ρ i = some b ∨ r.has b) ∧ ((∀ (i : Key) b, m.ρ i = some b → m1.ρ i = some b) ∧ ∀ i, i < os.length → (∀ k : Key, k.top = i → m1.ρ k = m.ρ k) ∧ m1.μ i = m.μ i ∧ m1.ν i = m.ν i) ∧
    (∀ (i : Nat) o, os[i]? = some o → ∃ o', (fill1 x v.1 ⟨env, os⟩).os[i]? = some o' ∧ FO (x :: l) i o o') ∧ (∀ i, i ∉ slotsOf (x :: l) → (fill1 x v.1 ⟨env, os⟩).env[i]? = env[i]?) ∧ (fill1 x v.1 ⟨env, os⟩).env.length = env.length := by
   have keep0 : ∀ (i : Nat) o, os[i]? = some o → ∃ o', os[i]? = some o' ∧ FO (x :: l) i o o' := fun i o ho => ⟨o, ho, .refl _ _ _⟩
   have pushk : ∀ (os' : List TObj) (q : TObj), (∀ (i : Nat) o, os[i]? = some o → ∃ o', os'[i]? = some o' ∧ FO (x :: l) i o o') → ∀ (i : Nat) o, os[i]? = some o → ∃ o', (os' ++ [q])[i]? = some o' ∧ FO (x :: l) i o o' := fun os' q hk i o ho => by
    obtain ⟨o', h1, h2⟩ := hk i o ho
    exact ⟨o', by rw [List.getElem?_append_left (lt_of_get h1)]; exact h1, h2⟩
   have ru : ∀ b, r.has b → ∀ i : Key, m.ρ i ≠ some b := fun b hb => hu r (List.mem_cons_self ..) b hb
   have rn : ∀ {q : Option Nat}, r = .of q → ∀ b, q = some b → ∀ i : Key, m.ρ i ≠ some b := fun e b hb => ru b (by rw [e]; exact .inl hb)
   cases x with
   | val i s =>
    obtain ⟨-, h2⟩ := s1
    exact ⟨m, hR, rl_keep ha i fun y hy => h2 y hy m os rfl, rfl, .refl _ _ H hR, fun i b hb => .inl hb, ⟨fun _ _ hb => hb, fun _ _ => ⟨fun _ _ => rfl, rfl, rfl⟩⟩, keep0, fun j hj => List.getElem?_set_ne fun e => hj (by rw [← e]; exact List.mem_cons_self ..), by simp [fill1]⟩
   | own i t tid =>
    obtain ⟨r0, hr0, ⟨y, hy⟩, h2⟩ := s1
    obtain ⟨k1, k2, -⟩ := hr_row hR hy (rn hr0)
    refine ⟨_, k1, rl_keep (ha.mono k2) i fun z hz => (hr_row hR (h2 z hz) (rn hr0)).2.2, rfl, k2, fun j b hb => ?_, ⟨fun j b hb => ?_, fun q hq => ⟨fun k hk => updM_ne _ _ (kt hk (by omega)), rfl, rfl⟩⟩, pushk _ _ keep0, fun j hj => List.getElem?_set_ne fun e => hj (by rw [← e]; exact List.mem_cons_self ..), by simp [fill1]⟩
    ·by_cases e : j = os.length
     ·rw [e, updM_self] at hb; exact .inr (by rw [hr0]; exact .inl hb)
     ·rw [updM_ne _ _ e] at hb; exact .inl hb
    ·rw [updM_ne]; exact hb
     have := (hR.lt j b hb).2; intro q; subst q; exact absurd this (Nat.lt_irrefl _)
   | ownM i t tid nt =>
    obtain ⟨⟨y, hy⟩, h2⟩ := s1
    obtain ⟨k1, k2, -⟩ := hr_mat hR hy ru
    refine ⟨_, k1, rl_keep (ha.mono k2) i fun z hz => (hr_mat hR (h2 z hz) ru).2.2, rfl, k2, fun j b hb => ?_, ⟨fun j b hb => ?_, fun q hq => ⟨fun k hk => updK_ne _ _ _ (by omega), if_neg (by omega), if_neg (by omega)⟩⟩, pushk _ _ keep0, fun j hj => List.getElem?_set_ne fun e => hj (by rw [← e]; exact List.mem_cons_self ..), by simp [fill1]⟩
    ·rcases updK_src m hb with ⟨_, h⟩ | ⟨j1, _, h⟩ | ⟨_, h⟩
     ·exact .inr (.inl h)
     ·exact .inr (.inr ⟨_, h⟩)
     ·exact .inl h
    ·rw [updK_ne]; exact hb
     have := (hR.lt j b hb).2; omega
   | ownMC id j t tid nt =>
    obtain ⟨⟨y, hy⟩, b, c, tid0, h1, h2, h3⟩ := s1
    obtain ⟨w, cs, tid', ho⟩ := hp _ (List.mem_cons_self ..)
    obtain ⟨k1, k2, -⟩ := hr_mat hR hy ru
    have ho' : (os ++ [TObj.mat true t v.1 tid nt 0 none])[id]? = some (.box w cs tid') := by rw [List.getElem?_append_left (lt_of_get ho)]; exact ho
    obtain ⟨q1, q2⟩ := hr_cell (j := j) k1 ho' (v := .own os.length) fun b' c' e1 e2 x hx => by
     rw [updK_ne _ _ _ (by have := lt_of_get ho; simp only [Key.top]; omega), h1] at e1; cases e1
     rw [h2] at e2; cases e2
     exact (hr_mat hR (h3 x hx) ru).2.2
    have e0 : (fill1 (.ownMC id j t tid nt) v.1 ⟨env, os⟩).os = (os ++ [TObj.mat true t v.1 tid nt 0 none]).set id (.box w (cs.set j (.own os.length)) tid') := by
     simp only [fill1, setCell_some ho]
     rw [List.set_append_left _ _ (lt_of_get ho)]
    rw [e0]
    refine ⟨_, q1, (ha.mono k2).mono q2, rfl, k2.trans q2, fun i b hb => ?_, ⟨fun i b hb => ?_, fun q hq => ⟨fun k hk => updK_ne _ _ _ (by omega), if_neg (by omega), if_neg (by omega)⟩⟩, fun i o h => ?_, fun _ _ => rfl, rfl⟩
    ·rcases updK_src m hb with ⟨_, h⟩ | ⟨j1, _, h⟩ | ⟨_, h⟩
     ·exact .inr (.inl h)
     ·exact .inr (.inr ⟨_, h⟩)
     ·exact .inl h
    ·rw [updK_ne]; exact hb
     have := (hR.lt i b hb).2; omega
    ·by_cases e : id = i
     ·subst e; rw [ho] at h; cases h
      refine ⟨.box w (cs.set j (.own os.length)) tid', ?_, _, rfl, by simp, fun q hq => List.getElem?_set_ne fun e => hq (by simp [cellsOf, e])⟩
      rw [List.getElem?_set_self (by have := lt_of_get ho; simp; omega)]
     ·exact ⟨o, by rw [List.getElem?_set_ne e, List.getElem?_append_left (lt_of_get h)]; exact h, .refl _ _ _⟩
   | cell id j s =>
    obtain ⟨-, b, c, tid0, h1, h2, h3⟩ := s1
    obtain ⟨w, cs, tid, ho⟩ := hp _ (List.mem_cons_self ..)
    obtain ⟨k1, k2⟩ := hr_cell (j := j) hR ho (v := s.put v.1) fun b' c' e1 e2 x hx => by
     rw [h1] at e1; cases e1
     rw [h2] at e2; cases e2
     exact h3 x hx m os rfl
    simp only [fill1, setCell_some ho]
    refine ⟨m, k1, ha.mono k2, rfl, k2, fun i b hb => .inl hb, ⟨fun _ _ hb => hb, fun _ _ => ⟨fun _ _ => rfl, rfl, rfl⟩⟩, fun i o h => ?_, fun _ _ => (by first | rfl | trivial), (by first | rfl | trivial)⟩
    by_cases e : id = i
    ·subst e; rw [ho] at h; cases h
     exact ⟨.box w (cs.set j (s.put v.1)) tid, by simp [lt_of_get ho], _, rfl, by simp, fun q hq => List.getElem?_set_ne fun e => hq (by rw [← e]; simp [cellsOf])⟩
    ·exact ⟨o, by rw [List.getElem?_set_ne e]; exact h, .refl _ _ _⟩
   | ownC id j t tid =>
    obtain ⟨r0, hr0, ⟨y, hy⟩, b, c, tid0, h1, h2, h3⟩ := s1
    obtain ⟨w, cs, tid', ho⟩ := hp _ (List.mem_cons_self ..)
    obtain ⟨k1, k2, -⟩ := hr_row hR hy (rn hr0)
    have ho' : (os ++ [TObj.row true t v.1 tid])[id]? = some (.box w cs tid') := by rw [List.getElem?_append_left (lt_of_get ho)]; exact ho
    obtain ⟨q1, q2⟩ := hr_cell (j := j) k1 ho' (v := .own os.length) fun b' c' e1 e2 x hx => by
     rw [updM_ne _ _ (ko (by have := lt_of_get ho; omega)), h1] at e1; cases e1
     rw [h2] at e2; cases e2
     exact (hr_row hR (h3 x hx) (rn hr0)).2.2
    have e0 : (fill1 (.ownC id j t tid) v.1 ⟨env, os⟩).os = (os ++ [TObj.row true t v.1 tid]).set id (.box w (cs.set j (.own os.length)) tid') := by
     simp only [fill1, setCell_some ho]
     rw [List.set_append_left _ _ (lt_of_get ho)]
    rw [e0]
    refine ⟨_, q1, (ha.mono k2).mono q2, rfl, k2.trans q2, fun i b hb => ?_, ⟨fun i b hb => ?_, fun q hq => ⟨fun k hk => updM_ne _ _ (kt hk (by omega)), rfl, rfl⟩⟩, fun i o h => ?_, fun _ _ => rfl, rfl⟩
    ·by_cases e : i = os.length
     ·rw [e, updM_self] at hb; exact .inr (by rw [hr0]; exact .inl hb)
     ·rw [updM_ne _ _ e] at hb; exact .inl hb
    ·rw [updM_ne]; exact hb
     have := (hR.lt i b hb).2; intro q; subst q; exact absurd this (Nat.lt_irrefl _)
    ·by_cases e : id = i
     ·subst e; rw [ho] at h; cases h
      refine ⟨.box w (cs.set j (.own os.length)) tid', ?_, _, rfl, by simp, fun q hq => List.getElem?_set_ne fun e => hq (by simp [cellsOf, e])⟩
      rw [List.getElem?_set_self (by have := lt_of_get ho; simp; omega)]
     ·exact ⟨o, by rw [List.getElem?_set_ne e, List.getElem?_append_left (lt_of_get h)]; exact h, .refl _ _ _⟩
   | selfp id j =>
    obtain ⟨-, b, c, tid0, h1, h2, h3⟩ := s1
    obtain ⟨w, cs, tid, ho⟩ := hp _ (List.mem_cons_self ..)
    obtain ⟨k1, k2⟩ := hr_cell (j := j) hR ho (v := .nilOr id v.1) fun b' c' e1 e2 x hx => by
     rw [h1] at e1; cases e1
     rw [h2] at e2; cases e2
     refine .nilOr _ _ _ ((h3 x hx).imp _root_.id fun ⟨q, e⟩ => ⟨q, b, h1, e⟩) ?_
     unfold isFix; rw [ho]; trivial
    simp only [fill1, setCell_some ho]
    refine ⟨m, k1, ha.mono k2, rfl, k2, fun i b hb => .inl hb, ⟨fun _ _ hb => hb, fun _ _ => ⟨fun _ _ => rfl, rfl, rfl⟩⟩, fun i o h => ?_, fun _ _ => (by first | rfl | trivial), (by first | rfl | trivial)⟩
    by_cases e : id = i
    ·subst e; rw [ho] at h; cases h
     exact ⟨.box w (cs.set j (.nilOr id v.1)) tid, by simp [lt_of_get ho], _, rfl, by simp, fun q hq => List.getElem?_set_ne fun e => hq (by rw [← e]; simp [cellsOf])⟩
    ·exact ⟨o, by rw [List.getElem?_set_ne e]; exact h, .refl _ _ _⟩
   | bufC id j tid =>
    obtain ⟨r0, hr0, ⟨y, hy⟩, b, c, tid0, h1, h2, h3⟩ := s1
    obtain ⟨w, cs, tid', ho⟩ := hp _ (List.mem_cons_self ..)
    obtain ⟨k1, k2, -⟩ := hr_row hR hy.1 (rn hr0)
    have ho' : (os ++ [TObj.row true (.int .u8) v.1 tid])[id]? = some (.box w cs tid') := by rw [List.getElem?_append_left (lt_of_get ho)]; exact ho
    obtain ⟨q1, q2⟩ := hr_cell (j := j) k1 ho' (v := .buf os.length) fun b' c' e1 e2 x hx => by
     rw [updM_ne _ _ (ko (by have := lt_of_get ho; omega)), h1] at e1; cases e1
     rw [h2] at e2; cases e2
     exact hr_buf hR (h3 x hx) (rn hr0)
    have e0 : (fill1 (.bufC id j tid) v.1 ⟨env, os⟩).os = (os ++ [TObj.row true (.int .u8) v.1 tid]).set id (.box w (cs.set j (.buf os.length)) tid') := by
     simp only [fill1, setCell_some ho]
     rw [List.set_append_left _ _ (lt_of_get ho)]
    rw [e0]
    refine ⟨_, q1, (ha.mono k2).mono q2, rfl, k2.trans q2, fun i b hb => ?_, ⟨fun i b hb => ?_, fun q hq => ⟨fun k hk => updM_ne _ _ (kt hk (by omega)), rfl, rfl⟩⟩, fun i o h => ?_, fun _ _ => rfl, rfl⟩
    ·by_cases e : i = os.length
     ·rw [e, updM_self] at hb; exact .inr (by rw [hr0]; exact .inl hb)
     ·rw [updM_ne _ _ e] at hb; exact .inl hb
    ·rw [updM_ne]; exact hb
     have := (hR.lt i b hb).2; intro q; subst q; exact absurd this (Nat.lt_irrefl _)
    ·by_cases e : id = i
     ·subst e; rw [ho] at h; cases h
      refine ⟨.box w (cs.set j (.buf os.length)) tid', ?_, _, rfl, by simp, fun q hq => List.getElem?_set_ne fun e => hq (by simp [cellsOf, e])⟩
      rw [List.getElem?_set_self (by have := lt_of_get ho; simp; omega)]
     ·exact ⟨o, by rw [List.getElem?_set_ne e, List.getElem?_append_left (lt_of_get h)]; exact h, .refl _ _ _⟩
   | mat id t tid nt ver =>
    obtain ⟨-, h2⟩ := s1
    have ho : os[id]? = some (.hid t tid nt ver) := hp _ (List.mem_cons_self ..)
    obtain ⟨k1, k2⟩ := hr_mset hR ho h2
    refine ⟨m, k1, ha.mono k2, rfl, k2, fun i b hb => .inl hb, ⟨fun _ _ hb => hb, fun _ _ => ⟨fun _ _ => rfl, rfl, rfl⟩⟩, fun i o h => ?_, fun _ _ => rfl, rfl⟩
    by_cases e : id = i
    ·subst e; rw [ho] at h; cases h
     exact ⟨.mat true t v.1 tid nt ver none, by simp [fill1, lt_of_get ho], .inr ⟨List.mem_cons_self .., v.1, rfl⟩⟩
    ·exact ⟨o, by simp only [fill1]; rw [List.getElem?_set_ne e]; exact h, .refl _ _ _⟩
   | iter id s =>
    obtain ⟨-, h2⟩ := s1
    have ho : os[id]? = some .lost := hp _ (List.mem_cons_self ..)
    obtain ⟨k1, k2⟩ := hr_iter (s := s) (n := v.1) hR ho h2
    refine ⟨m, k1, ha.mono k2, rfl, k2, fun i b hb => .inl hb, ⟨fun _ _ hb => hb, fun _ _ => ⟨fun _ _ => rfl, rfl, rfl⟩⟩, fun i o h => ?_, fun _ _ => rfl, rfl⟩
    by_cases e : id = i
    ·subst e; rw [ho] at h; cases h
     exact ⟨.iter true s v.1, by simp [fill1, lt_of_get ho], .inr ⟨List.mem_cons_self .., s, v.1, rfl⟩⟩
    ·exact ⟨o, by simp only [fill1]; rw [List.getElem?_set_ne e]; exact h, .refl _ _ _⟩
  obtain ⟨m1, a1, a2, a3, a4, a5, a6, a7, a8, a9⟩ := one
  have hp2 : ∀ y ∈ l, PlOk (fill1 x v.1 ⟨env, os⟩).os y := fun y hy => by
   have h0 := hp y (List.mem_cons_of_mem _ hy)
   cases y with
   | val _ _ => trivial
   | own _ _ _ => trivial
   | cell id _ _ =>
    obtain ⟨w, cs, tid, ho⟩ := h0
    obtain ⟨o', h1, cs', rfl, _⟩ := a7 _ _ ho
    exact ⟨w, cs', tid, h1⟩
   | ownC id _ _ _ =>
    obtain ⟨w, cs, tid, ho⟩ := h0
    obtain ⟨o', h1, cs', rfl, _⟩ := a7 _ _ ho
    exact ⟨w, cs', tid, h1⟩
   | ownM _ _ _ _ => trivial
   | ownMC id _ _ _ _ =>
    obtain ⟨w, cs, tid, ho⟩ := h0
    obtain ⟨o', h1, cs', rfl, _⟩ := a7 _ _ ho
    exact ⟨w, cs', tid, h1⟩
   | selfp id _ =>
    obtain ⟨w, cs, tid, ho⟩ := h0
    obtain ⟨o', h1, cs', rfl, _⟩ := a7 _ _ ho
    exact ⟨w, cs', tid, h1⟩
   | bufC id _ _ =>
    obtain ⟨w, cs, tid, ho⟩ := h0
    obtain ⟨o', h1, cs', rfl, _⟩ := a7 _ _ ho
    exact ⟨w, cs', tid, h1⟩
   | iter id s =>
    have ho : os[id]? = some .lost := h0
    have hmem : id ∈ itersOf l := iters_mem hy
    refine fill1_other ho (fun q => ?_) (hp _ (List.mem_cons_self ..))
    have hx := hp x (List.mem_cons_self ..)
    cases x <;> simp only [plId, reduceCtorEq, Option.some.injEq] at q <;> subst q <;> simp only [PlOk] at hx
    all_goals first
     | (simp only [itersOf, List.nodup_cons] at hn; exact hn.1 hmem)
     | (obtain ⟨w, cs, tid, hx⟩ := hx; rw [ho] at hx; cases hx)
     | (rw [ho] at hx; cases hx)
   | mat id t tid nt ver =>
    have ho : os[id]? = some (.hid t tid nt ver) := h0
    have hmem : id ∈ matsOf l := mats_mem hy
    refine fill1_other ho (fun q => ?_) (hp _ (List.mem_cons_self ..))
    have hx := hp x (List.mem_cons_self ..)
    cases x <;> simp only [plId, reduceCtorEq, Option.some.injEq] at q <;> subst q <;> simp only [PlOk] at hx
    all_goals first
     | (simp only [matsOf, List.nodup_cons] at hnm; exact hnm.1 hmem)
     | (obtain ⟨w, cs, tid, hx⟩ := hx; rw [ho] at hx; cases hx)
     | (rw [ho] at hx; cases hx)
  have hn2 : (itersOf l).Nodup := by
   cases x <;> simp only [itersOf] at hn <;> first | exact hn | exact (List.nodup_cons.1 hn).2
  have hnm2 : (matsOf l).Nodup := by
   cases x <;> simp only [matsOf] at hnm <;> first | exact hnm | exact (List.nodup_cons.1 hnm).2
  have s3' : SatL m1 H a l v.2 rs' := s3.rho a3 fun y hy id hid => ⟨fun b hb => a6.1 id b hb, fun hm => by
   refine a6.2 id ?_
   have h0 := hp y (List.mem_cons_of_mem _ hy)
   cases y <;> simp only [matsOf, List.not_mem_nil, List.mem_singleton] at hm
   subst hm
   exact lt_of_get h0⟩
  obtain ⟨m2, b1, b2, b3, b4, b5, b6, b7, b8, b9⟩ := ih v.2 rs' a1 a2 hp2 hn2 hnm2 s3' fun k hk b hb i hi => by
   rcases a5 i b hi with h | h
   ·exact hu k (List.mem_cons_of_mem _ hk) b hb i h
   ·exact s2 b h k hk hb
  refine ⟨m2, b1, b2, b3.trans a3, a4.trans b4, fun i b hb => ?_, fun i o ho => ?_, fun i hi => ?_, b8.trans a9, fun id t tid nt ver hm => ?_⟩
  ·rcases b5 i b hb with h | h
   ·rcases a5 i b h with h | h
    ·exact .inl h
    ·exact .inr ⟨r, List.mem_cons_self .., h⟩
   ·obtain ⟨k, h1, h2⟩ := h; exact .inr ⟨k, List.mem_cons_of_mem _ h1, h2⟩
  ·obtain ⟨o1, h1, h2⟩ := a7 i o ho
   obtain ⟨o2, h3, h4⟩ := b6 i o1 h1
   exact ⟨o2, h3, h2.trans (h4.cons x)⟩
  ·exact (b7 i fun h => hi (by cases x <;> simp only [slotsOf] <;> first | exact h | exact List.mem_cons_of_mem _ h)).trans (a8 i hi)
  ·rcases List.mem_cons.1 hm with rfl | hm
   ·have ho : os[id]? = some (.hid t tid nt ver) := hp _ (List.mem_cons_self ..)
    have h1 : (fill1 (.mat id t tid nt ver) v.1 ⟨env, os⟩).os[id]? = some (.mat true t v.1 tid nt ver none) := by simp [fill1, lt_of_get ho]
    obtain ⟨o', h2, h3⟩ := b6 id _ h1
    cases (show o' = _ from h3)
    exact ⟨_, h2⟩
   ·exact b9 id t tid nt ver hm

theorem get_sv {m : Mp} {os : List TObj} {s : Sv} {tv : TV} {v : s.den} {x : Value} (h : s.get tv = some v) (hx : RV m os tv x) : SvR m.G s v x := by
 intro m2 os2 hG
 cases s with
 | int k =>
  cases tv with
  | int k' n =>
   simp only [Sv.get] at h
   split at h
   ·rename_i e; subst e; cases h; cases hx; exact .int _ _
   ·cases h
  | _ => cases h
 | bool => cases tv with
  | bool b => cases h; cases hx; exact .bool (.v b.get)
  | _ => cases h
 | str => cases tv with
  | str b => cases h; cases hx; exact .str _
  | _ => cases h
 | deep t => cases tv with
  | deep t' l =>
   simp only [Sv.get] at h
   obtain ⟨e, rfl⟩ := castL_some h
   subst e
   cases hx with
   | deep _ _ _ hd => exact .deep _ _ _ (by rw [hG]; exact hd)
  | nilS => cases h; cases hx; exact .deep _ _ _ (.inl ⟨rfl, rfl⟩)
  | _ => cases h
theorem getO_sv {m : Mp} {os : List TObj} {s : Sv} {tv : TV} {v : s.den} {x : Value} (h : s.getO os tv = some v) (hx : RV m os tv x) : SvR m.G s v x := by
 unfold Sv.getO at h
 split at h
 ·rename_i t id
  split at h
  ·rename_i t' l hat
   have ho := os_getD hat (by simp)
   obtain ⟨e, rfl⟩ := castL_some h
   subst e
   intro m2 os2 hG
   cases hx with
   | own _ _ hx =>
   unfold OwnR at hx
   rw [ho] at hx
   exact .deep _ _ _ (by rw [hG]; exact hx)
  ·cases h
 ·rename_i t id lo n
  split at h
  ·rename_i t' l hat
   have ho := os_getD hat (by simp)
   obtain ⟨e, rfl⟩ := castL_some h
   subst e
   intro m2 os2 hG
   cases hx with
   | sub _ _ _ _ hx =>
   unfold SubR at hx
   rw [ho] at hx
   exact .deep _ _ _ (by rw [hG]; exact hx)
  ·cases h
 ·exact get_sv h hx
theorem backO_sound {m : Mp} {os : List TObj} {H : AH} (hR : HR m os H) {t : Ty} {tid : Nat} {tv : TV} {oid : Option Nat} {l : List t.den} {x : Value} (h : backO os t tid tv = some (oid, l)) (hx : RV m os tv x) :
  ∃ r, RowV' m.G H t l tid r x ∧ (∀ b, r = some b → ∃ id, oid = some id ∧ m.ρ id = some b) ∧ (∀ id, oid = some id → ∃ t' l' tid', os[id]? = some (.row true t' l' tid')) ∧ (oid = none → r = none) ∧ ∀ id, oid = some id → r = m.ρ id := by
 unfold backO at h
 split at h
 ·rename_i id
  split at h
  ·rename_i t' l' tid' hat
   have ho := os_getD hat (by simp)
   split at h
   ·rename_i e; subst e
    split at h
    ·rename_i l2 hl2
     obtain ⟨e, rfl⟩ := castL_some hl2
     subst e
     cases h
     cases hx with
     | own _ _ hx =>
     unfold OwnR at hx
     rw [ho] at hx
     refine ⟨m.ρ id, ?_, fun b hb => ⟨id, rfl, hb⟩, fun i hi => (by cases hi; exact ⟨_, _, _, ho⟩), fun e => (by cases e), fun i hi => (by cases hi; rfl)⟩
     rcases hx with ⟨a1, a2, a3⟩ | ⟨b, a1, a2⟩
     ·exact .inl ⟨a1, a2, a3⟩
     ·rcases hR.obj id _ ho with ⟨e1, _⟩ | ⟨b', c, e1, e2, e3, e4⟩
      ·rw [a1] at e1; cases e1
      ·rw [a1] at e1; cases e1
       exact .inr ⟨b, c, a1, a2, (hR.lt id b a1).1, hR.disj id b a1, e2, e3, e4⟩
    ·cases h
   ·cases h
  ·cases h
 ·rename_i id n
  split at h
  ·rename_i t' l' tid' hat
   have ho := os_getD hat (by simp)
   split at h
   ·rename_i e; subst e
    split at h
    ·rename_i l2 hl2
     obtain ⟨e, rfl⟩ := castL_some hl2
     subst e
     cases h
     cases hx with
     | sub _ _ _ _ hx =>
     unfold SubR at hx
     rw [ho] at hx
     refine ⟨m.ρ id, ?_, fun b hb => ⟨id, rfl, hb⟩, fun i hi => (by cases hi; exact ⟨_, _, _, ho⟩), fun e => (by cases e), fun i hi => (by cases hi; rfl)⟩
     rcases hx with ⟨a1, -, rfl, a2, a3⟩ | ⟨b, a1, hle, a2⟩
     ·exact .inl ⟨a1, by simp [cut], a3⟩
     ·rcases hR.obj id _ ho with ⟨e1, _⟩ | ⟨b', c, e1, e2, e3, e4⟩
      ·rw [a1] at e1; cases e1
      ·rw [a1] at e1; cases e1
       have hlen : (cut l' 0 n).length = n := by simp [cut]; omega
       have hmul : n * t'.size ≤ l'.length * t'.size := Nat.mul_le_mul_right _ (by omega)
       have hr := drop_mul_rows e4 0 n (by omega)
       rw [Nat.zero_mul, List.drop_zero] at hr
       exact .inr ⟨b, c, a1, by rw [a2, hlen, Nat.zero_mul], (hR.lt id b a1).1, hR.disj id b a1, e2, by rw [hlen]; omega, hr⟩
    ·cases h
   ·cases h
  ·cases h
 ·cases h
  cases hx
  exact ⟨none, .inl ⟨rfl, rfl, rfl⟩, fun b hb => (by cases hb), fun i hi => (by cases hi), fun _ => rfl, fun i hi => (by cases hi)⟩
 ·cases h
theorem backM_sound {m : Mp} {os : List TObj} {H : AH} (hR : HR m os H) {t : Ty} {tid : Nat} {nt : List Nat} {tv : TV} {oid : Option Nat} {l : List t.den} {x : Value} (h : backM os t tid nt tv = some (oid, l)) (hx : RV m os tv x) :
  ∃ k, MatV m.G H t l tid nt k x ∧ (∀ b, k.has b → ∃ key : Key, oid = some key.top ∧ m.ρ key = some b) ∧ (∀ id, oid = some id → ∃ t' l' tid' nt' ver', os[id]? = some (.mat true t' l' tid' nt' ver' none)) := by
 unfold backM at h
 split at h
 ·rename_i id
  split at h
  ·rename_i t' l' tid' nt' ver' hat
   have ho := os_getD hat (by simp)
   split at h
   ·rename_i e; obtain ⟨rfl, rfl⟩ := e
    split at h
    ·rename_i l2 hl2
     obtain ⟨e, rfl⟩ := castL_some hl2
     subst e
     cases h
     cases hx with
     | own _ _ hx =>
     rw [OwnR_mat ho rfl] at hx
     obtain ⟨h0, hobj⟩ := hR.obj id _ ho
     refine ⟨⟨m.ρ id, fun j => m.ρ (.n id j), (m.μ id).getD []⟩, ⟨⟨rfl, ?_⟩, ?_, fun b hb => ?_, fun b j h1 h2 => ?_, fun j j' b h1 h2 => ?_⟩, fun b hb => ?_, fun i hi => by cases hi; exact ⟨_, _, _, _, _, ho⟩⟩
     ·rcases hobj with ⟨a1, a2⟩ | ⟨b, c, a1, a2, a3, a4, a5⟩
      ·exact .inl ⟨a1, a2⟩
      ·exact .inr ⟨b, c, a1, by show some ((m.μ id).getD []) = _; rw [a2]; rfl, a3, a4, fun i hi => NC.map (m := m) (m' := matM m.G _ _) (H := H) (id := id) (id' := 0) (.refl _) (fun e => e) _ _ _ _ (fun p d _ _ hd => ⟨hd, rfl⟩) (a5 i hi)⟩
     ·rcases hx with ⟨a1, a2, a3⟩ | ⟨b, a1, a2⟩
      ·exact .inl ⟨a1, List.eq_nil_of_length_eq_zero (h0.trans a2), a3⟩
      ·exact .inr ⟨b, a1, by rw [a2, h0]⟩
     ·rcases hb with hb | ⟨j, hb⟩
      ·exact ⟨(hR.lt _ b hb).1, hR.disj _ b hb⟩
      ·exact ⟨(hR.lt _ b hb).1, hR.disj _ b hb⟩
     ·have := hR.inj _ _ _ h1 h2; cases this
     ·have := hR.inj _ _ _ h1 h2; cases this; rfl
     ·rcases hb with hb | ⟨j, hb⟩
      ·exact ⟨_, rfl, hb⟩
      ·exact ⟨.n id j, rfl, hb⟩
    ·cases h
   ·cases h
  ·cases h
 ·cases h
  cases hx
  exact ⟨.no, ⟨⟨rfl, .inl ⟨rfl, rfl⟩⟩, .inl ⟨rfl, rfl, rfl⟩, fun b hb => (Rk.no_has hb).elim, fun b j h1 h2 => (by cases h2), fun j j' b h1 h2 => (by cases h2)⟩, fun b hb => (Rk.no_has hb).elim, fun i hi => (by cases hi)⟩
 ·cases h
theorem backS_sound {m : Mp} {os : List TObj} {id : Nat} {tv : TV} {v : Bool} {x : Value} {k : Nat} (hk : m.ρ id = some k) (h : backS id tv = some v) (hx : RV m os tv x) : (v = true ∧ x = .pointer none) ∨ (v = false ∧ x = .pointer (some ⟨k, 0, none⟩)) := by
 unfold backS at h
 split at h
 ·rename_i i b
  split at h
  ·rename_i e; subst e
   cases h
   cases hx with
   | nilOr _ _ _ hh hf =>
   rcases hh with hh | ⟨q, b, hb, rfl⟩
   ·exact .inl hh
   ·rw [hk] at hb; cases hb; exact .inr ⟨q, rfl⟩
  ·cases h
 ·rename_i i
  split at h
  ·rename_i e; subst e
   cases h
   cases hx with
   | ptr _ _ b hb hf => rw [hk] at hb; cases hb; exact .inr ⟨rfl, rfl⟩
  ·cases h
 ·cases h
theorem backB_sound {m : Mp} {os : List TObj} {H : AH} (hR : HR m os H) {tid : Nat} {tv : TV} {i : Nat} {l : List Int} {x : Value} (h : backB os tid tv = some (i, l)) (hx : RV m os tv x) :
  RowZ m.G H l tid (m.ρ i) x ∧ os[i]? = some (.row true (.int .u8) l tid) := by
 unfold backB at h
 split at h
 ·rename_i id
  split at h
  ·rename_i l0 tid' hat
   have ho := os_getD hat (by simp)
   split at h
   ·rename_i e; subst e
    cases h
    cases hx with
    | buf _ _ hx =>
    unfold BufR at hx
    rw [ho] at hx
    refine ⟨?_, ho⟩
    rcases hx with ⟨h1, h2, h3⟩ | ⟨b, h1, h2, h3⟩
    ·exact ⟨.inl ⟨h1, h2, h3⟩, fun q => absurd h1 q⟩
    ·refine ⟨.inr ?_, fun _ => h2⟩
     rcases hR.obj _ _ ho with ⟨e1, -⟩ | ⟨b', c, e1, e2, e3, e4⟩
     ·rw [h1] at e1; cases e1
     ·rw [h1] at e1; cases e1
      exact ⟨b, c, h1, h3, (hR.lt _ _ h1).1, hR.disj _ _ h1, e2, e3, e4⟩
   ·cases h
  ·cases h
 ·cases h
theorem cellOf_box {m : Mp} {os : List TObj} {H : AH} (hR : HR m os H) {id j : Nat} (h : cellOf os id j ≠ .junk) : ∃ b c tid, m.ρ id = some b ∧ H.get b = .cells c true 0 tid ∧ (∃ x, c[j]? = some x) ∧ ∀ x, c[j]? = some x → RV m os (cellOf os id j) x := by
 unfold cellOf at *
 split at h
 ·rename_i w cs tid hat
  have ho := os_getD hat (by simp)
  obtain ⟨b, c, a1, a2, a3, a4⟩ := hR.obj id _ ho
  by_cases hj : j < cs.length
  ·have e : cs.getD j .junk = cs[j] := by rw [List.getD_eq_getElem?_getD, List.getElem?_eq_getElem hj]; rfl
   have hc : j < c.length := by rw [← a4.1]; exact hj
   refine ⟨b, c, tid, a1, a2, ⟨c[j], List.getElem?_eq_getElem hc⟩, fun x hx => ?_⟩
   rw [e]
   rw [List.getElem?_eq_getElem hc] at hx; cases hx
   exact a4.2 j hj hc
  ·rw [List.getD_eq_getElem?_getD, List.getElem?_eq_none (by omega)] at h
   exact absurd rfl h
 ·exact absurd rfl h
theorem nodupN_cons {x : Nat} {r : List Nat} (h : nodupN (x :: r) = true) : x ∉ r ∧ nodupN r = true := by
 simp only [nodupN, Bool.and_eq_true, Bool.not_eq_true'] at h
 exact ⟨by simpa using h.1, h.2⟩
theorem nodupN_nodup : ∀ {l : List Nat}, nodupN l = true → l.Nodup := by
 intro l
 induction l with
 | nil => intro _; exact List.nodup_nil
 | cons x r ih => intro h; obtain ⟨h1, h2⟩ := nodupN_cons h; exact List.nodup_cons.2 ⟨h1, ih h2⟩
def Mov : TObj → Prop
 | .row w _ _ _ => w = true
 | .mat w _ _ _ _ _ hole => w = true ∧ hole = none
 | _ => False
theorem nodupN_parts : ∀ {a b : List Nat}, nodupN (a ++ b) = true → nodupN a = true ∧ nodupN b = true ∧ ∀ x ∈ a, x ∉ b := by
 intro a
 induction a with
 | nil => intro b h; exact ⟨rfl, h, fun x hx => (by cases hx)⟩
 | cons x r ih =>
  intro b h
  obtain ⟨h1, h2⟩ := nodupN_cons (x := x) (r := r ++ b) h
  obtain ⟨k1, k2, k3⟩ := ih h2
  simp only [List.mem_append, not_or] at h1
  refine ⟨?_, k2, fun y hy => ?_⟩
  ·simp only [nodupN, Bool.and_eq_true, Bool.not_eq_true']
   exact ⟨by simpa using h1.1, k1⟩
  ·rcases List.mem_cons.1 hy with rfl | hy
   ·exact h1.2
   ·exact k3 y hy
theorem matsOf_mem {id : Nat} : ∀ {l : List RSh}, id ∈ matsOf l → ∃ t tid nt ver, RSh.mat id t tid nt ver ∈ l := by
 intro l
 induction l with
 | nil => intro h; cases h
 | cons z r ih =>
  intro h
  cases z with
  | mat id' t tid nt ver =>
   simp only [matsOf, List.mem_cons] at h
   rcases h with rfl | h
   ·exact ⟨t, tid, nt, ver, List.mem_cons_self ..⟩
   ·obtain ⟨t, tid, nt, ver, hs⟩ := ih h; exact ⟨t, tid, nt, ver, List.mem_cons_of_mem _ hs⟩
  | _ => obtain ⟨t, tid, nt, ver, hs⟩ := ih h; exact ⟨t, tid, nt, ver, List.mem_cons_of_mem _ hs⟩
theorem backL_mat {env : List TV} {os : List TObj} {id : Nat} {t : Ty} {tid : Nat} {nt : List Nat} {ver : Nat} : ∀ (l : List RSh) (ids : List Nat) (st : St l), backL env os l = some (ids, st) → RSh.mat id t tid nt ver ∈ l → ∃ r, os[id]? = some (.mat true t r tid nt ver none) := by
 intro l
 induction l with
 | nil => intro ids st _ h; cases h
 | cons x l ih =>
  intro ids st h hm
  simp only [backL] at h
  split at h
  ·rename_i oi v hv
   split at h
   ·rename_i ids' st' hst
    rcases List.mem_cons.1 hm with hm | hm
    ·subst hm
     simp only [back1] at hv
     split at hv
     ·rename_i t' l' tid' nt' ver' hat
      have ho := os_getD hat (by simp)
      split at hv
      ·rename_i e; obtain ⟨rfl, rfl, rfl⟩ := e
       split at hv
       ·rename_i l2 hl2
        obtain ⟨e, -⟩ := castL_some hl2
        subst e
        exact ⟨_, ho⟩
       ·cases hv
      ·cases hv
     ·cases hv
    ·exact ih ids' st' hst hm
   ·cases h
  ·cases h
theorem vary_mat {os : List TObj} {l : List RSh} (hv : l.all (varyOk os) = true) {id : Nat} {t : Ty} {tid : Nat} {nt : List Nat} {ver : Nat} (hm : RSh.mat id t tid nt ver ∈ l) : ∃ r, os[id]? = some (.mat true t r tid nt ver none) := by
 have h := List.all_eq_true.1 hv _ hm
 simp only [varyOk] at h
 split at h
 ·rename_i t' r tid' nt' ver' hat
  have ho := os_getD hat (by simp)
  obtain ⟨e1, e2, e3, e4⟩ := of_decide_eq_true h
  subst e1; subst e2; subst e3; subst e4
  exact ⟨r, ho⟩
 ·cases h
theorem backL_sat {m : Mp} {os : List TObj} {H : AH} {env : List TV} {a : Env} (hR : HR m os H) (ha : RL m os env a) : ∀ (l : List RSh) (ids : List Nat) (st : St l), backL env os l = some (ids, st) → nodupN ids = true →
  (∀ id s, RSh.iter id s ∈ l → ∀ w s' n, os[id]? = some (.iter w s' n) → s' = s) → ∃ rs, SatL m H a l st rs ∧ (∀ k ∈ rs, ∀ b, k.has b → ∃ key : Key, key.top ∈ ids ∧ m.ρ key = some b) ∧ ∀ id ∈ ids, ∃ o, os[id]? = some o ∧ Mov o := by
 intro l
 induction l with
 | nil => intro ids st h _ _; cases h; exact ⟨[], rfl, fun b hb => (by cases hb), fun id hi => (by cases hi)⟩
 | cons x l ih =>
  intro ids st h hn hit
  simp only [backL] at h
  split at h
  ·rename_i oi v hv
   split at h
   ·rename_i ids' st' hst
    cases h
    have hn' : nodupN ids' = true := by
     cases oi with
     | none => exact hn
     | some i => exact (nodupN_cons hn).2
    obtain ⟨rs', g1, g2, g3⟩ := ih ids' st' hst hn' fun id s hm => hit id s (List.mem_cons_of_mem _ hm)
    have quiet : oi = none → Sat m H a x v .no → ∃ rs, SatL m H a (x :: l) (v, st') rs ∧ (∀ k ∈ rs, ∀ b, k.has b → ∃ key : Key, key.top ∈ oi.toList ++ ids' ∧ m.ρ key = some b) ∧ ∀ id ∈ oi.toList ++ ids', ∃ o, os[id]? = some o ∧ Mov o := fun e hs => by
     subst e
     refine ⟨.no :: rs', ⟨.no, rs', rfl, hs, fun b hb => (Rk.no_has hb).elim, g1⟩, fun k hk b hb => ?_, g3⟩
     rcases List.mem_cons.1 hk with hk | hk
     ·subst hk; exact (Rk.no_has hb).elim
     ·exact g2 k hk b hb
    have rowk : ∀ k, Sat m H a x v k → (∀ b, k.has b → ∃ key : Key, oi = some key.top ∧ m.ρ key = some b) → (∀ id, oi = some id → ∃ o, os[id]? = some o ∧ Mov o) → ∃ rs, SatL m H a (x :: l) (v, st') rs ∧ (∀ k ∈ rs, ∀ b, k.has b → ∃ key : Key, key.top ∈ oi.toList ++ ids' ∧ m.ρ key = some b) ∧ ∀ id ∈ oi.toList ++ ids', ∃ o, os[id]? = some o ∧ Mov o := fun k hs hr hrow => by
     refine ⟨k :: rs', ⟨k, rs', rfl, hs, fun b hb k' hk' hb' => ?_, g1⟩, fun k' hk' b hb => ?_, fun id hid => ?_⟩
     ·obtain ⟨id, e1, e2⟩ := hr b hb
      obtain ⟨id', e3, e4⟩ := g2 k' hk' b hb'
      have := hR.inj _ _ _ e2 e4
      subst this
      subst e1
      exact (nodupN_cons hn).1 e3
     ·rcases List.mem_cons.1 hk' with hk' | hk'
      ·subst hk'
       obtain ⟨id, e1, e2⟩ := hr b hb
       exact ⟨id, by rw [e1]; simp, e2⟩
      ·obtain ⟨id, e1, e2⟩ := g2 k' hk' b hb
       exact ⟨id, List.mem_append_right _ e1, e2⟩
     ·rcases List.mem_append.1 hid with hid | hid
      ·cases oi with
       | none => cases hid
       | some i => simp at hid; subst hid; exact hrow id rfl
      ·exact g3 id hid
    have rowc : ∀ r, Sat m H a x v (.of r) → (∀ b, r = some b → ∃ id : Nat, oi = some id ∧ m.ρ id = some b) → (∀ id, oi = some id → ∃ t' l' tid', os[id]? = some (.row true t' l' tid')) → ∃ rs, SatL m H a (x :: l) (v, st') rs ∧ (∀ k ∈ rs, ∀ b, k.has b → ∃ key : Key, key.top ∈ oi.toList ++ ids' ∧ m.ρ key = some b) ∧ ∀ id ∈ oi.toList ++ ids', ∃ o, os[id]? = some o ∧ Mov o := fun r hs hr hrow =>
     rowk (.of r) hs (fun b hb => by obtain ⟨id, e1, e2⟩ := hr b (Rk.has_of hb); exact ⟨.o id, e1, e2⟩) fun id hid => by obtain ⟨t', l', tid', e⟩ := hrow id hid; exact ⟨_, e, rfl⟩
    have aget : ∀ i x, a[i]? = some x → a.getD i undef = x := fun i x hx => by rw [List.getD_eq_getElem?_getD, hx]; rfl
    cases x with
    | val i s =>
     simp only [back1] at hv
     split at hv
     ·rename_i u hu
      cases hv
      exact quiet rfl ⟨rfl, fun x hx => getO_sv hu (by have := ha.getD i; rwa [aget i x hx] at this)⟩
     ·cases hv
    | cell id j s =>
     simp only [back1] at hv
     split at hv
     ·rename_i u hu
      cases hv
      obtain ⟨b, c, tid, a1, a2, -, a4⟩ := cellOf_box hR (id := id) (j := j) (fun e => by rw [e] at hu; cases s <;> cases hu)
      exact quiet rfl ⟨rfl, b, c, tid, a1, a2, fun x hx => getO_sv hu (a4 x hx)⟩
     ·cases hv
    | own i t tid =>
     simp only [back1] at hv
     obtain ⟨r, q1, q2, q3, q4, q5⟩ := backO_sound hR hv (ha.getD i)
     refine rowc r ⟨r, rfl, ⟨_, q1⟩, fun x hx => ?_⟩ q2 q3
     rw [← aget i x hx]; exact q1
    | ownC id j t tid =>
     simp only [back1] at hv
     obtain ⟨b, c, tid', a1, a2, ⟨x0, a3⟩, a4⟩ := cellOf_box hR (id := id) (j := j) (fun e => by rw [e] at hv; cases hv)
     obtain ⟨r, q1, q2, q3, q4, q5⟩ := backO_sound hR hv (a4 x0 a3)
     refine rowc r ⟨r, rfl, ⟨_, q1⟩, b, c, tid', a1, a2, fun x hx => ?_⟩ q2 q3
     rw [a3] at hx; cases hx; exact q1
    | ownM i t tid nt =>
     simp only [back1] at hv
     obtain ⟨k, q1, q2, q3⟩ := backM_sound hR hv (ha.getD i)
     refine rowk k ⟨⟨_, q1⟩, fun x hx => ?_⟩ q2 fun id hid => by obtain ⟨_, _, _, _, _, e⟩ := q3 id hid; exact ⟨_, e, rfl, rfl⟩
     rw [← aget i x hx]; exact q1
    | ownMC id j t tid nt =>
     simp only [back1] at hv
     obtain ⟨b, c, tid', a1, a2, ⟨x0, a3⟩, a4⟩ := cellOf_box hR (id := id) (j := j) (fun e => by rw [e] at hv; cases hv)
     obtain ⟨k, q1, q2, q3⟩ := backM_sound hR hv (a4 x0 a3)
     refine rowk k ⟨⟨_, q1⟩, b, c, tid', a1, a2, fun x hx => ?_⟩ q2 fun id hid => by obtain ⟨_, _, _, _, _, e⟩ := q3 id hid; exact ⟨_, e, rfl, rfl⟩
     rw [a3] at hx; cases hx; exact q1
    | mat id t tid nt ver =>
     simp only [back1] at hv
     split at hv
     ·rename_i t' l' tid' nt' ver' hat
      have ho := os_getD hat (by simp)
      split at hv
      ·rename_i e; obtain ⟨rfl, rfl, rfl⟩ := e
       split at hv
       ·rename_i l2 hl2
        obtain ⟨e, rfl⟩ := castL_some hl2
        subst e
        cases hv
        exact quiet rfl ⟨rfl, hR.obj id _ ho⟩
       ·cases hv
      ·cases hv
     ·cases hv
    | selfp id j =>
     simp only [back1] at hv
     split at hv
     ·rename_i b hb
      cases hv
      obtain ⟨k, c, tid, a1, a2, -, a4⟩ := cellOf_box hR (id := id) (j := j) (fun e => by rw [e] at hb; cases hb)
      exact quiet rfl ⟨rfl, k, c, tid, a1, a2, fun x hx => backS_sound a1 hb (a4 x hx)⟩
     ·cases hv
    | bufC id j tid =>
     simp only [back1] at hv
     split at hv
     ·rename_i i l hb
      cases hv
      obtain ⟨k, c, tid', a1, a2, ⟨x0, a3⟩, a4⟩ := cellOf_box hR (id := id) (j := j) (fun e => by rw [e] at hb; cases hb)
      obtain ⟨q1, q2⟩ := backB_sound hR hb (a4 x0 a3)
      refine rowc (m.ρ i) ⟨_, rfl, ⟨_, q1⟩, k, c, tid', a1, a2, fun x hx => ?_⟩ (fun b hb => ⟨i, rfl, hb⟩) fun id' e => by cases e; exact ⟨_, _, _, q2⟩
      rw [a3] at hx; cases hx; exact q1
     ·cases hv
    | iter id s =>
     simp only [back1] at hv
     split at hv
     ·rename_i s' n hat
      cases hv
      have ho := os_getD hat (by simp)
      have := hit id s (List.mem_cons_self ..) _ _ _ ho
      subst this
      obtain ⟨b, a1, a2⟩ := hR.obj id _ ho
      exact quiet rfl ⟨rfl, b, a1, a2⟩
     ·cases hv
   ·cases h
  ·cases h
end Go.TM
