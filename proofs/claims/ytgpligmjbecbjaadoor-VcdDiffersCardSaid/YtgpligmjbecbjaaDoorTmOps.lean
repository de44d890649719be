/- The operations that only look. -/

import Derived.Test.YtgpligmjbecbjaaDoorTmRel
set_option linter.unusedVariables false
set_option linter.unusedSimpArgs false
set_option linter.unusedSectionVars false
namespace Go.TM
open Go Go.AM

def cOK (c : List Bool) : Prop := ∀ b ∈ c, b = true
theorem cOK.nil : cOK [] := fun _ h => by cases h
theorem cOK.head {b : Bool} {r : List Bool} (h : cOK (b :: r)) : b = true := h b (List.mem_cons_self ..)
theorem cOK.tail {b : Bool} {r : List Bool} (h : cOK (b :: r)) : cOK r := fun x hx => h x (List.mem_cons_of_mem _ hx)

def RP (m : Mp) (os : List TObj) (cs : List TV) (vs : List Value) : Prop := cs.length ≤ vs.length ∧ ∀ (i : Nat) (h : i < cs.length) (h' : i < vs.length), RV m os cs[i] vs[i]
theorem RL.rp {m : Mp} {os : List TObj} {cs : List TV} {vs : List Value} (h : RL m os cs vs) : RP m os cs vs := ⟨Nat.le_of_eq h.1, h.2⟩
theorem RL.of_rp {m : Mp} {os : List TObj} {cs : List TV} {vs : List Value} (h : RP m os cs vs) (e : cs.length = vs.length) : RL m os cs vs := ⟨e, h.2⟩
theorem RL.nil {m : Mp} {os : List TObj} : RL m os [] [] := ⟨rfl, fun i h => by simp at h⟩
theorem RL.cons {m : Mp} {os : List TObj} {c : TV} {v : Value} {cs : List TV} {vs : List Value} (h : RV m os c v) (k : RL m os cs vs) : RL m os (c :: cs) (v :: vs) := by
 refine ⟨by simp [k.1], fun i a b => ?_⟩
 cases i with
 | zero => exact h
 | succ i => exact k.2 i (by simpa using a) (by simpa using b)
theorem RL.cons_inv {m : Mp} {os : List TObj} {c : TV} {cs : List TV} {vs : List Value} (h : RL m os (c :: cs) vs) : ∃ v r, vs = v :: r ∧ RV m os c v ∧ RL m os cs r := by
 cases vs with
 | nil => have := h.1; simp at this
 | cons v r => exact ⟨v, r, rfl, h.2 0 (by simp) (by simp), by have := h.1; simpa using this, fun i a b => by have := h.2 (i + 1) (by simpa using a) (by simpa using b); simpa only [List.getElem_cons_succ] using this⟩
theorem RL.nil_inv {m : Mp} {os : List TObj} {vs : List Value} (h : RL m os [] vs) : vs = [] := by
 have := h.1; simp at this; exact List.eq_nil_of_length_eq_zero this.symm
theorem RL.append {m : Mp} {os : List TObj} {a b : List TV} {x y : List Value} (h : RL m os a x) (k : RL m os b y) : RL m os (a ++ b) (x ++ y) := by
 refine ⟨by simp [h.1, k.1], fun i p q => ?_⟩
 have e := h.1
 by_cases hi : i < a.length
 ·rw [List.getElem_append_left hi, List.getElem_append_left (by omega)]; exact h.2 i hi (by omega)
 ·rw [List.getElem_append_right (by omega), List.getElem_append_right (by omega)]
  have := k.2 (i - a.length) (by simp at p; omega) (by rw [← k.1]; simp at p; omega)
  simpa only [e] using this
theorem RP.drop {m : Mp} {os : List TObj} {a : List TV} {x : List Value} (h : RP m os a x) (n : Nat) : RP m os (a.drop n) (x.drop n) := by
 refine ⟨by have := h.1; simp; omega, fun i p q => ?_⟩
 simp only [List.getElem_drop]
 exact h.2 _ (by simp at p; omega) (by simp at q; omega)
theorem RP.take {m : Mp} {os : List TObj} {a : List TV} {x : List Value} (h : RP m os a x) (n : Nat) : RP m os (a.take n) (x.take n) := by
 refine ⟨by have := h.1; simp; omega, fun i p q => ?_⟩
 simp only [List.getElem_take]
 exact h.2 _ (by simp at p; omega) (by simp at q; omega)
theorem RL.drop {m : Mp} {os : List TObj} {a : List TV} {x : List Value} (h : RL m os a x) (n : Nat) : RL m os (a.drop n) (x.drop n) :=
 .of_rp (h.rp.drop n) (by have := h.1; simp; omega)
theorem RL.take {m : Mp} {os : List TObj} {a : List TV} {x : List Value} (h : RL m os a x) (n : Nat) : RL m os (a.take n) (x.take n) :=
 .of_rp (h.rp.take n) (by have := h.1; simp; omega)
theorem RP.get? {m : Mp} {os : List TObj} {a : List TV} {x : List Value} (h : RP m os a x) {n : Nat} {v : TV} (hv : a[n]? = some v) : ∃ v', x[n]? = some v' ∧ RV m os v v' := by
 obtain ⟨hn, rfl⟩ := List.getElem?_eq_some_iff.1 hv
 have : n < x.length := Nat.lt_of_lt_of_le hn h.1
 exact ⟨x[n], List.getElem?_eq_getElem this, h.2 n hn this⟩
theorem RL.ofArr {m : Mp} {os : List TObj} {cs : List TV} {arr : Array Value} (hl : cs.length = arr.size) (h : ∀ (i : Nat) (h : i < cs.length) (h' : i < arr.size), RV m os cs[i] arr[i]) : RL m os cs arr.toList :=
 ⟨by simpa using hl, fun i a b => by simpa using h i a (by simpa using b)⟩
theorem RV.ofRL_agg {m : Mp} {os : List TObj} {cs : List TV} {vs : List Value} (h : RL m os cs vs) : RV m os (.agg cs) (.agg vs.toArray) :=
 .agg cs _ (by simpa using h.1) fun i a b => by simpa using h.2 i a (by simpa using b)
theorem RL.map {m : Mp} {os : List TObj} {α : Type} (l : List α) (f : α → TV) (g : α → Value) (h : ∀ x ∈ l, RV m os (f x) (g x)) : RL m os (l.map f) (l.map g) :=
 ⟨by simp, fun i a b => by simp only [List.getElem_map]; exact h _ (List.getElem_mem _)⟩
theorem RL.set {m : Mp} {os : List TObj} {a : List TV} {x : List Value} (h : RL m os a x) (i : Nat) {v : TV} {v' : Value} (hv : RV m os v v') : RL m os (a.set i v) (x.set i v') := by
 refine ⟨by simp [h.1], fun j p q => ?_⟩
 simp only [List.getElem_set]
 split
 ·exact hv
 ·exact h.2 j (by simpa using p) (by simpa using q)
theorem RL.getD {m : Mp} {os : List TObj} {a : List TV} {x : List Value} (h : RL m os a x) (i : Nat) : RV m os (a.getD i .junk) (x.getD i undef) := by
 by_cases hi : i < a.length
 ·have hx : i < x.length := by rw [← h.1]; exact hi
  rw [List.getD_eq_getElem?_getD, List.getD_eq_getElem?_getD, List.getElem?_eq_getElem hi, List.getElem?_eq_getElem hx]
  exact h.2 i hi hx
 ·rw [List.getD_eq_getElem?_getD, List.getElem?_eq_none (by omega)]; exact .junk _

theorem part_rp {P : Program} {m : Mp} {os : List TObj} {cs : List TV} {c : List Value} (h : RP m os cs c) {t off : Nat} {v : TV} (hp : partT P t cs off = some v) : ∃ v', part? P t c off = some v' ∧ RV m os v v' := by
 unfold partT at hp
 unfold part?
 have hl := h.1
 split at hp
 ·rename_i n h1 h2
  split at hp
  ·rename_i hle
   cases hp
   refine ⟨.agg ((c.drop off).take n).toArray, by simp only [h1, h2]; rw [if_pos (by omega)], .ofRL_agg (.of_rp ((h.drop off).take n) ?_)⟩
   simp; omega
  ·cases hp
 ·rename_i h1
  obtain ⟨v', e1, e2⟩ := h.get? hp
  exact ⟨v', by simp only [h1]; exact e1, e2⟩
 ·cases hp
theorem part_drop {P : Program} {c : List Value} {t k off : Nat} {v : Value} (hk : k ≤ c.length) (h : part? P t (c.drop k) off = some v) : part? P t c (k + off) = some v := by
 unfold part? at *
 split at h
 ·rename_i n h1 h2
  split at h
  ·rename_i hle
   cases h
   rw [if_pos (by simp at hle; omega), List.drop_drop]
  ·cases h
 ·rw [List.getElem?_drop] at h
  exact h
 ·cases h
theorem RP.of_take {m : Mp} {os : List TObj} {cs : List TV} {c : List Value} {n : Nat} (h : RL m os cs (c.take n)) : RP m os cs c := by
 have h1 := h.1
 simp at h1
 refine ⟨by omega, fun i a b => ?_⟩
 have := h.2 i a (by simp; omega)
 simpa using this
theorem rd_eq {α : Type} {l : List α} {i : Nat} (h : i < l.length) (d : α) : rd l i d = l[i] := by
 simp [rd, List.getD_eq_getElem?_getD, List.getElem?_eq_getElem h]
theorem Rows.at {m : Mp} {os : List TObj} {G : Nat → Option (List Value)} (hG : m.G = G) {T : Ty} {c : List Value} {l : List T.den} (h : Rows (DC G T) T.size c l) {i : Nat} (hi : i < l.length) : RP m os (cellsT T (rd l i T.dflt)) (c.drop (i * T.size)) ∧ i * T.size ≤ c.length := by
 rw [rd_eq hi]
 exact ⟨.of_take (RV.of_DC hG _ _ _ (h i hi).2), by have := (h i hi).1; omega⟩

def RowV (x : Value) (n : Nat) : Prop := (∃ a c, x = .slice a n c) ∨ ∃ s a b, x = .func (.methodOf n s) a b
theorem DS.rowV {G : Nat → Option (List Value)} {α : Type} {sz : Nat} {R : α → List Value → Prop} {l : List α} {v : Value} (h : DS G sz R l v) : RowV v l.length := by
 rcases h with ⟨rfl, rfl⟩ | ⟨s, cs, x, rfl, -, -⟩ | ⟨b, off, z, c, rfl, -⟩
 ·exact .inl ⟨_, _, rfl⟩
 ·exact .inr ⟨_, _, _, rfl⟩
 ·exact .inl ⟨_, _, rfl⟩
theorem RowV.len {x : Value} {n : Nat} (h : RowV x n) : alenOf x = some n := by
 rcases h with ⟨a, c, rfl⟩ | ⟨s, a, b, rfl⟩ <;> rfl
theorem mat_i {w : Bool} {t : Ty} {l : List t.den} {tid : Nat} {nt : List Nat} {ver : Nat} {hole : Option Nat} : matI (.mat w t l tid nt ver hole) = some (t, tid, nt, ver) := rfl
theorem NestR_at {m : Mp} {os : List TObj} {id i pos ver : Nat} {ct : Option Nat} {v : Value} {w : Bool} {t : Ty} {l : List t.den} {tid : Nat} {nt : List Nat} {ver' : Nat} {hole : Option Nat} (ho : os[id]? = some (.mat w t l tid nt ver' hole)) (e : ver' = ver) (h : NestR m os id i pos ver ct v) :
  i < m.ν id ∧ pos < t.size ∧ ∃ c u, m.μ id = some c ∧ c[i * t.size + pos]? = some u ∧ cutR ct u v := by
 obtain ⟨o, h1, h2⟩ := h
 rw [ho] at h1; cases h1
 exact h2.2 e
theorem Elt2R_at {m : Mp} {os : List TObj} {id i pos j off ver : Nat} {v : Value} {w : Bool} {t : Ty} {l : List t.den} {tid : Nat} {nt : List Nat} {ver' : Nat} {hole : Option Nat} (ho : os[id]? = some (.mat w t l tid nt ver' hole)) (e : ver' = ver) (h : Elt2R m os id i pos j off ver v) :
  i < m.ν id ∧ pos < t.size ∧ ∃ c b n z, m.μ id = some c ∧ c[i * t.size + pos]? = some (.slice (some ⟨b, 0, none⟩) n z) ∧ j < n ∧ v = .pointer (some ⟨b, j * z + off, none⟩) := by
 obtain ⟨o, h1, h2⟩ := h
 rw [ho] at h1; cases h1
 exact h2.2 e
theorem NC.length {m : Mp} {H : AH} {id j0 : Nat} {nt : List Nat} {free : Bool} : ∀ (t : Ty) (pos : Nat) (x : t.den) (cs : List Value), NC m H id j0 nt free t pos x cs → cs.length = t.size := by
 intro t
 induction t with
 | int k => intro pos x cs h; rw [show cs = _ from h]; rfl
 | bool => intro pos x cs h; rw [show cs = _ from h]; rfl
 | str => intro pos x cs h; rw [show cs = _ from h]; rfl
 | slice t ih => intro pos x cs h; obtain ⟨v, h1, h2⟩ := h; rw [h1]; rfl
 | unit => intro pos x cs h; rw [show cs = _ from h]; rfl
 | pair a b iha ihb => intro pos x cs h; obtain ⟨c1, c2, h1, h2, h3⟩ := h; rw [h1, List.length_append, iha _ _ _ h2, ihb _ _ _ h3]; rfl
 | st a ih => intro pos x cs h; exact ih _ _ _ h
theorem NC.get {m : Mp} {H : AH} {id j0 : Nat} {nt : List Nat} : ∀ (t : Ty) (pos p : Nat) (x : t.den) (cs : List Value) (u : Ty) (c : List u.den), NC m H id j0 nt false t pos x cs → getN t p x = some ⟨u, c⟩ →
  ∃ v, cs[p]? = some v ∧ NS m H id (j0 + (pos + p)) (nt.getD (pos + p) 0) u c v := by
 intro t
 induction t with
 | slice t ih =>
  intro pos p x cs u c h hg
  cases p with
  | zero =>
   cases hg
   obtain ⟨v, rfl, h2⟩ := h
   exact ⟨v, rfl, h2.resolve_left (by simp)⟩
  | succ p => cases hg
 | pair a b iha ihb =>
  intro pos p x cs u c h hg
  obtain ⟨c1, c2, rfl, h2, h3⟩ := h
  have e1 := NC.length _ _ _ _ h2
  simp only [getN] at hg
  cases hb : Nat.blt p a.size with
  | true =>
   rw [hb] at hg
   obtain ⟨v, g1, g2⟩ := iha _ _ _ _ _ _ h2 hg
   exact ⟨v, by rw [List.getElem?_append_left (by rw [e1]; simpa using hb)]; exact g1, g2⟩
  | false =>
   rw [hb] at hg
   have hle : a.size ≤ p := Nat.le_of_not_lt fun q => by rw [show Nat.blt p a.size = true from by simpa using q] at hb; cases hb
   obtain ⟨v, g1, g2⟩ := ihb _ _ _ _ _ _ h3 hg
   refine ⟨v, by rw [List.getElem?_append_right (by omega), e1]; exact g1, ?_⟩
   rw [show pos + a.size + (p - a.size) = pos + p by omega] at g2
   exact g2
 | st a ih => intro pos p x cs u c h hg; exact ih _ _ _ _ _ _ h hg
 | _ => intro pos p x cs u c h hg; cases p <;> cases hg
theorem NS.sl {m : Mp} {H : AH} {id j ty : Nat} {t : Ty} {l : List t.den} {v : Value} (h : NS m H id j ty t l v) : ∃ p k z, v = .slice p k z := by
 rcases h with ⟨rfl, rfl⟩ | ⟨b, c, h1, rfl, -⟩
 ·exact ⟨_, _, _, rfl⟩
 ·exact ⟨_, _, _, rfl⟩
theorem NC.rl {m : Mp} {os : List TObj} {H : AH} {id i : Nat} {T : Ty} {w : Bool} {l : List T.den} {tid : Nat} {nt : List Nat} {ver : Nat} {hole : Option Nat} (ho : os[id]? = some (.mat w T l tid nt ver hole)) (hi : i < m.ν id) {c : List Value} (hc : m.μ id = some c) :
  ∀ (t : Ty) (pos : Nat) (x : t.den) (cs : List Value), NC m H id (i * T.size) nt false t pos x cs → pos + t.size ≤ T.size → (∀ k, k < cs.length → c[i * T.size + (pos + k)]? = cs[k]?) → RL m os (cellsN id i ver t pos x) cs := by
 intro t
 induction t with
 | int k => intro pos x cs h hp hk; rw [show cs = _ from h]; exact .cons (.int _ _) .nil
 | bool => intro pos x cs h hp hk; rw [show cs = _ from h]; exact .cons (.bool (.v x)) .nil
 | str => intro pos x cs h hp hk; rw [show cs = _ from h]; exact .cons (.str _) .nil
 | slice t ih =>
  intro pos x cs h hp hk
  obtain ⟨v, rfl, h2⟩ := h
  refine .cons (.nest _ _ _ _ _ _ ⟨_, ho, Nat.le_refl _, fun _ => ⟨hi, by simp only [Ty.size] at hp; omega, c, v, hc, by have := hk 0 (by simp); simpa using this, rfl, (h2.resolve_left (by simp)).sl⟩⟩) .nil
 | unit => intro pos x cs h hp hk; rw [show cs = _ from h]; exact .nil
 | pair a b iha ihb =>
  intro pos x cs h hp hk
  obtain ⟨c1, c2, rfl, h2, h3⟩ := h
  have e1 := NC.length _ _ _ _ h2
  simp only [Ty.size] at hp
  refine (iha _ _ _ h2 (by omega) fun k hk' => ?_).append (ihb _ _ _ h3 (by omega) fun k hk' => ?_)
  ·rw [hk k (by simp; omega), List.getElem?_append_left hk']
  ·have := hk (a.size + k) (by simp; omega)
   rw [show pos + a.size + k = pos + (a.size + k) by omega, this, List.getElem?_append_right (by omega)]
   congr 1; omega
 | st a ih => intro pos x cs h hp hk; exact ih _ _ _ h hp hk
theorem MR.at {m : Mp} {H : AH} {id : Nat} {T : Ty} {l : List T.den} {tid : Nat} {nt : List Nat} {hole : Option Nat} (h : MR m H id T l tid nt hole) {i : Nat} (hi : i < m.ν id) : i < l.length ∧ ∃ b c, m.ρ id = some b ∧ m.μ id = some c ∧ H.get b = .cells c true T.size tid ∧ l.length * T.size ≤ c.length ∧
  i * T.size + T.size ≤ c.length ∧ NC m H id (i * T.size) nt (hole == some i) T 0 (rd l i T.dflt) ((c.drop (i * T.size)).take T.size) := by
 obtain ⟨e, h⟩ := h
 have hl : i < l.length := by omega
 refine ⟨hl, ?_⟩
 rcases h with ⟨-, rfl⟩ | ⟨b, c, h1, h2, h3, h4, h5⟩
 ·simp at hl
 ·refine ⟨b, c, h1, h2, h3, h4, ?_, by rw [rd_eq hl]; exact h5 i hl⟩
  have := Nat.mul_le_mul_right T.size (show i + 1 ≤ l.length from hl)
  rw [Nat.add_mul, Nat.one_mul] at this
  omega
theorem MR.rp {m : Mp} {os : List TObj} {H : AH} {id : Nat} {w : Bool} {T : Ty} {l : List T.den} {tid : Nat} {nt : List Nat} {ver : Nat} (ho : os[id]? = some (.mat w T l tid nt ver none)) (h : MR m H id T l tid nt none) {i : Nat} (hi : i < m.ν id) :
  ∃ b c, m.ρ id = some b ∧ m.μ id = some c ∧ H.get b = .cells c true T.size tid ∧ i * T.size + T.size ≤ c.length ∧ RP m os (cellsN id i ver T 0 (rd l i T.dflt)) (c.drop (i * T.size)) := by
 obtain ⟨hl, b, c, h1, h2, h3, h4, h5, h6⟩ := h.at hi
 refine ⟨b, c, h1, h2, h3, h5, .of_take (NC.rl ho hi h2 T 0 _ _ h6 (by omega) fun k hk => ?_)⟩
 simp only [List.length_take, List.length_drop] at hk
 rw [List.getElem?_take_of_lt (by omega), List.getElem?_drop]
 congr 1; omega
theorem NS.rowV {m : Mp} {H : AH} {id j ty : Nat} {t : Ty} {l : List t.den} {v : Value} (h : NS m H id j ty t l v) : RowV v l.length := by
 rcases h with ⟨rfl, rfl⟩ | ⟨b, c, h1, rfl, -⟩
 ·exact .inl ⟨_, _, rfl⟩
 ·exact .inl ⟨_, _, rfl⟩
theorem nestOf_sound {m : Mp} {h : THp} {H : AH} (hR : HR m h.os H) {id i pos ver : Nat} {ct : Option Nat} {v : Value} (hx : RV m h.os (.nest id i pos ver ct) v) {u : Ty} {c : List u.den} (he : nestOf h (.nest id i pos ver ct) = some ⟨u, c⟩) :
  ∃ w T l tid nt, h.os[id]? = some (.mat w T l tid nt ver none) ∧ i < m.ν id ∧ pos < T.size ∧ NS m H id (i * T.size + pos) (nt.getD pos 0) u c v ∧ ∃ c0, getN T pos (rd l i T.dflt) = some ⟨u, c0⟩ ∧ c = cutO ct c0 := by
 simp only [nestOf] at he
 split at he
 ·rename_i w T l tid nt ver' hat
  have ho := at_some hat (by simp)
  split at he
  ·rename_i e; subst e
   split at he
   ·rename_i u' c' hg
    cases he
    cases hx with
    | nest _ _ _ _ _ _ hx =>
    obtain ⟨hi, hp, cc, u0, e1, e2, e3⟩ := NestR_at ho rfl hx
    obtain ⟨hl, b, c1, h1, h2, h3, h4, h5, h6⟩ := (hR.obj id _ ho).at hi
    rw [e1] at h2; cases h2
    obtain ⟨v0, g1, g2⟩ := NC.get T 0 pos _ _ _ _ h6 hg
    rw [List.getElem?_take_of_lt hp, List.getElem?_drop, e2] at g1
    cases g1
    simp only [Nat.zero_add] at g2
    refine ⟨w, T, l, tid, nt, ho, hi, hp, ?_, c', hg, rfl⟩
    cases ct with
    | none => cases e3.1; exact g2
    | some n =>
     obtain ⟨p, k, z, q1, q2, q3⟩ := e3
     subst q1; subst q3
     rcases g2 with ⟨g2, rfl⟩ | ⟨b2, c2, g2, g3, g4, g5, g6⟩
     ·cases g2
      obtain rfl : n = 0 := by omega
      exact .inl ⟨rfl, by simp [cutO, cut]⟩
     ·cases g3
      have hlen : (cutO (some n) c').length = n := by simp [cutO, cut]; omega
      have hmul : n * u.size ≤ c'.length * u.size := Nat.mul_le_mul_right _ q2
      refine .inr ⟨b2, c2, g2, by rw [hlen], g4, by rw [hlen]; omega, ?_⟩
      have := drop_mul_rows g6 0 n (by omega)
      rw [Nat.zero_mul, List.drop_zero] at this
      exact this
   ·cases he
  ·cases he
 ·cases he

variable {P : Program}
theorem tload_sound {m : Mp} {h : THp} {H : AH} (hR : HR m h.os H) {t : Nat} {x : TV} {x' : Value} (hx : RV m h.os x x') {c : List Bool} {v : TV} {h' : THp} (he : tload P t x h = some (c, v, h')) :
  c = [] ∧ h' = h ∧ ∃ v', aload P t x' H = some v' ∧ RV m h.os v v' := by
 unfold tload at he
 split at he
 ·rename_i id off
  split at he
  ·rename_i w cs tid hat
   split at he
   ·rename_i u hu
    cases he
    refine ⟨rfl, rfl, ?_⟩
    cases hx with
    | ptr _ _ b hb hf =>
     have ho := hR.obj id _ (at_some hat (by simp))
     obtain ⟨b', cc, e1, e2, e3, e4⟩ := ho
     rw [hb] at e1; cases e1
     obtain ⟨v', p1, p2⟩ := part_rp e4.rp hu
     exact ⟨v', by simp only [aload, e2]; exact p1, p2⟩
   ·cases he
  ·cases he
 ·rename_i id i off
  split at he
  ·rename_i w T l tid hat
   split at he
   ·rename_i u hu
    cases he
    refine ⟨rfl, rfl, ?_⟩
    have hs := at_some hat (by simp)
    cases hx with
    | elt _ _ _ _ he =>
     unfold EltR at he
     rw [hs] at he
     obtain ⟨b, hb, hi, rfl⟩ := he
     have ho := hR.obj id _ hs
     rcases ho with ⟨e1, -⟩ | ⟨b', cc, e1, e2, e3, e4⟩
     ·rw [hb] at e1; cases e1
     ·rw [hb] at e1; cases e1
      obtain ⟨g1, g2⟩ := e4.at (m := m) (os := h.os) rfl hi
      obtain ⟨v', p1, p2⟩ := part_rp g1 hu
      exact ⟨v', by simp only [aload, e2]; exact part_drop g2 p1, p2⟩
   ·cases he
  ·rename_i w T l tid nt ver hat
   split at he
   ·rename_i u hu
    cases he
    refine ⟨rfl, rfl, ?_⟩
    have hs := at_some hat (by simp)
    cases hx with
    | elt _ _ _ _ he =>
     rw [EltR_mat hs mat_i] at he
     obtain ⟨b, hb, hi, rfl⟩ := he
     obtain ⟨b', cc, e1, e2, e3, e4, e5⟩ := MR.rp hs (hR.obj id _ hs) hi
     rw [hb] at e1; cases e1
     obtain ⟨v', p1, p2⟩ := part_rp e5 hu
     exact ⟨v', by simp only [aload, e3]; exact part_drop (by omega) p1, p2⟩
   ·cases he
  ·cases he
 ·rename_i id i pos j off ver
  split at he
  ·rename_i w T l tid nt ver' hat
   split at he
   ·rename_i e; subst e
    split at he
    ·rename_i u c' hg
     split at he
     ·rename_i u' hu
      cases he
      refine ⟨rfl, rfl, ?_⟩
      have hs := at_some hat (by simp)
      cases hx with
      | elt2 _ _ _ _ _ _ _ he =>
       obtain ⟨hi, hp, c0, b, n, z, q1, q2, q3, rfl⟩ := Elt2R_at hs rfl he
       obtain ⟨hl, b0, c1, h1, h2, h3, h4, h5, h6⟩ := MR.at (hR.obj id _ hs) hi
       rw [q1] at h2; cases h2
       obtain ⟨v0, g1, g2⟩ := NC.get T 0 pos _ _ _ _ h6 hg
       rw [List.getElem?_take_of_lt hp, List.getElem?_drop, q2] at g1
       cases g1
       rcases g2 with ⟨g2, -⟩ | ⟨b2, c2, g2, g3, g4, g5, g6⟩
       ·cases g2
       ·cases g3
        obtain ⟨r1, r2⟩ := g6.at (m := m) (os := h.os) rfl q3
        obtain ⟨v', p1, p2⟩ := part_rp r1 hu
        exact ⟨v', by simp only [aload, g4]; exact part_drop r2 p1, p2⟩
     ·cases he
    ·cases he
   ·cases he
  ·cases he
 ·rename_i cs
  split at he
  ·rename_i u hu
   cases he
   refine ⟨rfl, rfl, ?_⟩
   cases hx with
   | dptrM _ s arr y hl hh =>
    obtain ⟨v', p1, p2⟩ := part_rp (m := m) (os := h.os) (c := arr.toList) ⟨by simpa using hl, fun i a b => by simpa using hh i a (by simpa using b)⟩ hu
    exact ⟨v', by simp only [aload]; exact p1, p2⟩
   | dptrP _ b off cc hG hl hh =>
    obtain ⟨-, own, sz, ty, e⟩ := hR.gr b cc hG
    obtain ⟨v', p1, p2⟩ := part_rp (m := m) (os := h.os) (c := cc.drop off) ⟨by simp; omega, fun i a b => by simp only [List.getElem_drop]; exact hh i a _⟩ hu
    exact ⟨v', by simp only [aload, e]; exact part_drop (by omega) p1, p2⟩
  ·cases he
 ·cases he

theorem tfieldAddr_sound {m : Mp} {h : THp} {H : AH} (hR : HR m h.os H) {s f : Nat} {x : TV} {x' : Value} (hx : RV m h.os x x') {v : TV} (he : tfieldAddr P s x f h = some v) :
  ∃ v', afieldAddr P s x' f = some v' ∧ RV m h.os v v' := by
 unfold tfieldAddr at he
 split at he
 ·rename_i fs hfs
  split at he
  ·rename_i fl hfl
   split at he
   ·rename_i n hn
    split at he
    ·rename_i id off
     cases he
     cases hx with
     | ptr _ _ b hb hf => exact ⟨.pointer (some ⟨b, off + fl.offset, none⟩), by simp only [afieldAddr, hfs, hfl, hn], .ptr id _ b hb hf⟩
    ·rename_i id i off
     split at he
     ·rename_i w t l tid hat
      cases he
      have ho := at_some hat (by simp)
      cases hx with
      | elt _ _ _ _ he =>
       unfold EltR at he
       rw [ho] at he
       obtain ⟨b, hb, hi, rfl⟩ := he
       exact ⟨.pointer (some ⟨b, i * t.size + off + fl.offset, none⟩), by simp only [afieldAddr, hfs, hfl, hn], .elt _ _ _ _ (by unfold EltR; rw [ho]; exact ⟨b, hb, hi, by rw [Nat.add_assoc]⟩)⟩
     ·rename_i w t l tid nt ver hat
      cases he
      have ho := at_some hat (by simp)
      cases hx with
      | elt _ _ _ _ he =>
       rw [EltR_mat ho mat_i] at he
       obtain ⟨b, hb, hi, rfl⟩ := he
       exact ⟨.pointer (some ⟨b, i * t.size + off + fl.offset, none⟩), by simp only [afieldAddr, hfs, hfl, hn], .elt _ _ _ _ ((EltR_mat ho mat_i).2 ⟨b, hb, hi, by rw [Nat.add_assoc]⟩)⟩
     ·cases he
    ·rename_i id i pos j off ver
     split at he
     ·rename_i w t l tid nt ver' hat
      split at he
      ·rename_i e; subst e
       cases he
       have ho := at_some hat (by simp)
       cases hx with
       | elt2 _ _ _ _ _ _ _ he =>
        obtain ⟨hi, hp, c0, b, n', z, q1, q2, q3, rfl⟩ := Elt2R_at ho rfl he
        exact ⟨.pointer (some ⟨b, j * z + off + fl.offset, none⟩), by simp only [afieldAddr, hfs, hfl, hn], .elt2 _ _ _ _ _ _ _ ⟨_, ho, Nat.le_refl _, fun _ => ⟨hi, hp, c0, b, n', z, q1, q2, q3, by rw [Nat.add_assoc]⟩⟩⟩
      ·cases he
     ·cases he
    ·rename_i cs
     split at he
     ·rename_i hle
      cases he
      cases hx with
      | dptrM _ s arr y hl hh =>
       refine ⟨DPTR (arr.toList.drop fl.offset).toArray, by simp only [afieldAddr, hfs, hfl, hn]; rw [if_pos (by omega)], .dptrM _ _ _ _ (by simp; omega) fun i a b => ?_⟩
       have := hh (fl.offset + i) (by simp at a; omega) (by simp at b; omega)
       simpa using this
      | dptrP _ b off cc hG hl hh =>
       refine ⟨.pointer (some ⟨b, off + fl.offset, none⟩), by simp only [afieldAddr, hfs, hfl, hn], .dptrP _ b _ cc hG (by simp; omega) fun i a b => ?_⟩
       have := hh (fl.offset + i) (by simp at a; omega) (by omega)
       simpa [Nat.add_assoc] using this
     ·cases he
    ·cases he
   ·cases he
  ·cases he
 ·cases he

theorem tfield_sound {m : Mp} {h : THp} {t f : Nat} {x : TV} {x' : Value} (hx : RV m h.os x x') {v : TV} (he : tfield P t x f = some v) : ∃ v', afield P t x' f = some v' ∧ RV m h.os v v' := by
 unfold tfield at he
 split at he
 ·rename_i fs cs hfs
  split at he
  ·rename_i fl hfl
   cases hx with
   | agg _ arr hl hh =>
    obtain ⟨v', p1, p2⟩ := part_rp (RL.ofArr hl hh).rp he
    exact ⟨v', by simp only [afield, hfs, hfl]; exact p1, p2⟩
  ·cases he
 ·cases he

theorem elemTy_some {e : Nat} {T : Ty} (h : elemTy P e = some T) : sizeOf? P e = some T.size ∧ isAgg? P e = some T.isSt ∧ T.size ≠ 0 := by
 unfold elemTy at h
 split at h
 ·split at h
  ·rename_i hh; cases h; exact hh
  ·cases h
 ·cases h
theorem ix_true {n m : Int} (h : ix n m = true) : 0 ≤ n ∧ n < m := of_decide_eq_true h
theorem rg_true {a b m : Int} (h : rg a b m = true) : 0 ≤ a ∧ a ≤ b ∧ b ≤ m := of_decide_eq_true h
theorem fits_true {a b m : Nat} (h : fits a b m = true) : a + b ≤ m := of_decide_eq_true h
theorem le_true {a b : Int} (h : le a b = true) : a ≤ b := of_decide_eq_true h
theorem lt_true {a b : Int} (h : lt a b = true) : a < b := of_decide_eq_true h
theorem ne_true {a b : Int} (h : ne a b = true) : a ≠ b := of_decide_eq_true h
theorem eq_true' {a b : Int} (h : eq a b = true) : a = b := of_decide_eq_true h

theorem index_DS {m : Mp} {os : List TObj} {H : AH} (hR : HR m os H) {t e : Nat} {T : Ty} {k : IntKind} {n : Int} {l : List T.den} {v : Value} (hu : P.underlying t = some (.slice e)) (hs : sizeOf? P e = some T.size) (hz : T.size ≠ 0)
  (hv : DS m.G T.size (DC m.G T) l v) (h0 : 0 ≤ n) (h1 : n < (l.length : Int)) : ∃ v', aindexAddr P t v (.int k n) = some v' ∧ RV m os (.dptr (cellsT T (rd l (tn n) T.dflt))) v' := by
 have hi : n.toNat < l.length := by omega
 rcases hv with ⟨-, rfl⟩ | ⟨s, cs, x, rfl, hl, hr⟩ | ⟨b, off, z, c, rfl, hz', hG, hl, hr⟩
 ·simp at h1; omega
 ·obtain ⟨g1, g2⟩ := hr.at (m := m) (os := os) rfl hi
  have hlt : n.toNat * T.size < cs.size := by
   have := (hr _ hi).1; simp at this; omega
  refine ⟨DPTR (cs.toList.drop (n.toNat * T.size)).toArray, by simp only [aindexAddr, hu, hs]; rw [if_pos ⟨h0, h1, hlt⟩], .dptrM _ _ _ _ (by have := g1.1; simpa using this) fun i a b => ?_⟩
  have := g1.2 i a (by simpa using b)
  simpa using this
 ·obtain ⟨g1, g2⟩ := hr.at (m := m) (os := os) rfl hi
  refine ⟨.pointer (some ⟨b, off + n.toNat * T.size, none⟩), by simp only [aindexAddr, hu, hs]; rw [if_pos ⟨h0, h1⟩], .dptrP _ b _ c hG (by have := g1.1; rw [List.length_drop, List.length_drop, cellsT_length] at this; rw [List.length_drop] at g2; rw [cellsT_length]; omega) fun i a b => ?_⟩
  have := g1.2 i a (by simp; omega)
  simpa [Nat.add_assoc] using this

theorem tindexAddr_sound {m : Mp} {h : THp} {H : AH} (hR : HR m h.os H) {t : Nat} {x i : TV} {x' i' : Value} (hx : RV m h.os x x') (hi : RV m h.os i i') {c : List Bool} {v : TV} {h' : THp} (he : tindexAddr P t x i h = some (c, v, h')) (hc : cOK c) :
  h' = h ∧ ∃ v', aindexAddr P t x' i' = some v' ∧ RV m h.os v v' := by
 unfold tindexAddr at he
 split at he
 ·rename_i e k n hu
  cases hi with
  | int _ _ =>
  split at he
  ·rename_i T hT
   obtain ⟨hs, ha, hz⟩ := elemTy_some hT
   split at he
   ·rename_i T' l
    split at he
    ·rename_i e'; subst e'
     cases he
     obtain ⟨c1, c2⟩ := ix_true hc.head
     cases hx with
     | deep _ _ _ hd => exact ⟨rfl, index_DS hR hu hs hz hd c1 c2⟩
    ·cases he
   ·cases he
   ·rename_i id
    split at he
    ·rename_i w T' l tid hat
     split at he
     ·rename_i e'; subst e'
      cases he
      obtain ⟨c1, c2⟩ := ix_true hc.head
      have ho := at_some hat (by simp)
      cases hx with
      | own _ _ hx =>
       unfold OwnR at hx
       rw [ho] at hx
       rcases hx with ⟨-, rfl, -⟩ | ⟨b, hb, rfl⟩
       ·simp [ni, len] at c2; omega
       ·refine ⟨rfl, .pointer (some ⟨b, 0 + n.toNat * T'.size, none⟩), by simp only [aindexAddr, hu, hs]; rw [if_pos ⟨c1, c2⟩], .elt _ _ _ _ ?_⟩
        unfold EltR
        rw [ho]
        exact ⟨b, hb, by simp only [ni, len, tn] at *; omega, by simp⟩
     ·cases he
    ·rename_i T' l hat
     split at he
     ·rename_i e'; subst e'
      cases he
      obtain ⟨c1, c2⟩ := ix_true hc.head
      have ho := at_some hat (by simp)
      cases hx with
      | own _ _ hx =>
       unfold OwnR at hx
       rw [ho] at hx
       exact ⟨rfl, index_DS hR hu hs hz hx c1 c2⟩
     ·cases he
    ·rename_i w T' l tid nt ver hat
     split at he
     ·rename_i e'; subst e'
      cases he
      obtain ⟨c1, c2⟩ := ix_true hc.head
      have ho := at_some hat (by simp)
      have hlen := (hR.obj id _ ho).1
      cases hx with
      | own _ _ hx =>
       rw [OwnR_mat ho mat_i] at hx
       rcases hx with ⟨-, e0, -⟩ | ⟨b, hb, rfl⟩
       ·simp only [ni, len] at c2; omega
       ·refine ⟨rfl, .pointer (some ⟨b, 0 + n.toNat * T'.size, none⟩), by simp only [aindexAddr, hu, hs]; rw [if_pos ⟨c1, by simp only [ni, len] at c2; omega⟩], .elt _ _ _ _ ?_⟩
        exact (EltR_mat ho mat_i).2 ⟨b, hb, by simp only [ni, len, tn] at *; omega, by simp⟩
     ·cases he
    ·cases he
   ·rename_i id i pos ver ct
    split at he
    ·rename_i u c' hg
     split at he
     ·rename_i e'; subst e'
      cases he
      obtain ⟨c1, c2⟩ := ix_true hc.head
      obtain ⟨w, T', l, tid, nt, ho, hi, hp, hns, -⟩ := nestOf_sound hR hx hg
      cases hx with
      | nest _ _ _ _ _ _ hx =>
      obtain ⟨-, -, cc, u0, q1, q2, q3⟩ := NestR_at ho rfl hx
      rcases hns with ⟨-, rfl⟩ | ⟨b, c0, g1, rfl, g3, g4, g5⟩
      ·simp only [ni, len, List.length_nil] at c2; omega
      ·have hu0 : ∃ k, u0 = .slice (some ⟨b, 0, none⟩) k u.size ∧ c'.length ≤ k := by
        cases ct with
        | none => cases q3.1; exact ⟨_, rfl, Nat.le_refl _⟩
        | some n' =>
         obtain ⟨p, k, z, r1, r2, r3⟩ := q3
         cases r3
         exact ⟨k, r1, r2⟩
       obtain ⟨k, rfl, hk⟩ := hu0
       refine ⟨rfl, .pointer (some ⟨b, 0 + n.toNat * u.size, none⟩), by simp only [aindexAddr, hu, hs]; rw [if_pos ⟨c1, c2⟩], .elt2 _ _ _ _ _ _ _ ⟨_, ho, Nat.le_refl _, fun _ => ⟨hi, hp, cc, b, k, u.size, q1, q2, by simp only [ni, len, tn] at *; omega, by simp⟩⟩⟩
     ·cases he
    ·cases he
   ·rename_i id o mm
    split at he
    ·rename_i w T' l tid hat
     split at he
     ·rename_i e'; subst e'
      cases he
      obtain ⟨c1, c2⟩ := ix_true hc.head
      have ho := at_some hat (by simp)
      cases hx with
      | sub _ _ _ _ hx =>
       unfold SubR at hx
       rw [ho] at hx
       rcases hx with ⟨-, -, rfl, -, -⟩ | ⟨b, hb, hle, rfl⟩
       ·simp [ni] at c2; omega
       ·refine ⟨rfl, .pointer (some ⟨b, o * T'.size + n.toNat * T'.size, none⟩), by simp only [aindexAddr, hu, hs]; rw [if_pos ⟨c1, c2⟩], .elt _ _ _ _ ?_⟩
        unfold EltR
        rw [ho]
        have e1 : addN o (tn n) = o + n.toNat := by cases o <;> simp [addN, nadd, tn]
        exact ⟨b, hb, by rw [e1]; simp only [ni] at *; omega, by rw [e1, Nat.add_mul]; simp⟩
     ·cases he
    ·cases he
   ·cases he
  ·cases he
 ·cases he

theorem str_get {s : List UInt8} {i : Nat} (h : i < s.length) : (⟨s.toArray⟩ : ByteArray)[i]? = some s[i] := by
 have hs : i < (⟨s.toArray⟩ : ByteArray).size := by simpa [ByteArray.size] using h
 rw [getElem?_pos (⟨s.toArray⟩ : ByteArray) i hs]
 simp [ByteArray.getElem_eq_getElem_data]
theorem tindex_sound {m : Mp} {h : THp} {t : Nat} {x i : TV} {x' i' : Value} (hx : RV m h.os x x') (hi : RV m h.os i i') {c : List Bool} {v : TV} {h' : THp} (he : tindex P t x i h = some (c, v, h')) (hc : cOK c) :
  h' = h ∧ ∃ v', aindex P t x' i' = some v' ∧ RV m h.os v v' := by
 unfold tindex at he
 split at he
 ·rename_i s k n hu
  cases he
  cases hx with
  | str _ =>
  cases hi with
  | int _ _ =>
  obtain ⟨c1, c2⟩ := ix_true hc.head
  have hlt : n.toNat < s.length := by simp only [ni, len] at c2; omega
  refine ⟨rfl, _, by simp only [aindex, hu]; rw [if_pos c1, str_get hlt]; rfl, ?_⟩
  rw [rd_eq hlt]
  exact .int _ _
 ·cases he

theorem tlenOf_sound {m : Mp} {h : THp} {H : AH} (hR : HR m h.os H) {x : TV} {x' : Value} (hx : RV m h.os x x') {n : Nat} (he : tlenOf h x = some n) : RowV x' n := by
 unfold tlenOf at he
 split at he
 ·cases he; cases hx with | nilS => exact .inl ⟨_, _, rfl⟩
 ·cases he; cases hx with | deep _ _ _ hd => exact hd.rowV
 ·rename_i id
  cases hx with
  | own _ _ hx =>
  unfold OwnR at hx
  split at he
  ·rename_i w t l tid hat
   cases he
   rw [at_some hat (by simp)] at hx
   rcases hx with ⟨-, rfl, rfl⟩ | ⟨b, -, rfl⟩ <;> exact .inl ⟨_, _, rfl⟩
  ·rename_i t l hat
   cases he
   rw [at_some hat (by simp)] at hx
   exact DS.rowV hx
  ·rename_i w t l tid nt ver hat
   cases he
   have ho := at_some hat (by simp)
   have hlen := (hR.obj id _ ho).1
   have hx : OwnR m h.os id x' := by unfold OwnR; exact hx
   rw [OwnR_mat ho mat_i] at hx
   rcases hx with ⟨-, e0, rfl⟩ | ⟨b, -, rfl⟩
   ·exact .inl ⟨none, 0, by simp only [len]; rw [hlen, e0]⟩
   ·exact .inl ⟨_, _, by simp only [len]; rw [hlen]⟩
  ·cases he
 ·rename_i id i pos ver ct
  split at he
  ·rename_i u c hg
   cases he
   obtain ⟨w, T', l, tid, nt, ho, hi, hp, hns, -⟩ := nestOf_sound hR hx hg
   exact hns.rowV
  ·cases he
 ·rename_i id lo n'
  cases hx with
  | sub _ _ _ _ hx =>
  unfold SubR at hx
  split at he
  ·rename_i w t l tid hat
   cases he
   rw [at_some hat (by simp)] at hx
   rcases hx with ⟨-, -, rfl, -, rfl⟩ | ⟨b, -, -, rfl⟩ <;> exact .inl ⟨_, _, rfl⟩
  ·cases he
 ·rename_i id
  cases hx with
  | buf _ _ hx =>
  unfold BufR at hx
  split at he
  ·rename_i w t l tid hat
   cases he
   rw [at_some hat (by simp)] at hx
   rcases hx with ⟨-, rfl, rfl⟩ | ⟨b, -, -, rfl⟩ <;> exact .inl ⟨_, _, rfl⟩
  ·cases he
 ·cases he
theorem tlen_sound {m : Mp} {h : THp} {H : AH} (hR : HR m h.os H) {ts : List TypeId} {args : List TV} {args' : List Value} (ha : RL m h.os args args') {c : List Bool} {v : TV} {h' : THp} (he : tlen P ts args h = some (c, v, h')) :
  h' = h ∧ ∃ v', alen P ts args' H = some v' ∧ RV m h.os v v' := by
 unfold tlen at he
 split at he
 ·rename_i t ts' x xs
  obtain ⟨x', r', rfl, hx, -⟩ := ha.cons_inv
  split at he
  ·rename_i hu
   split at he
   ·rename_i s
    cases he
    cases hx with
    | str _ => exact ⟨rfl, .int .i64 s.length, by simp only [alen, hu, ByteArray.size, List.size_toArray], .int _ _⟩
   ·cases he
  ·rename_i e hu
   split at he
   ·rename_i n hn
    cases he
    refine ⟨rfl, .int .i64 n, ?_, .int _ _⟩
    rcases tlenOf_sound hR hx hn with ⟨a, c, rfl⟩ | ⟨s, a, b, rfl⟩
    ·simp only [alen, hu]
    ·simp only [alen, hu, fnLen]
   ·cases he
  ·rename_i n e hu
   cases he
   exact ⟨rfl, .int .i64 n, by simp only [alen, hu], .int _ _⟩
  ·rename_i arr hu
   split at he
   ·rename_i n e hu2
    cases he
    exact ⟨rfl, .int .i64 n, by simp only [alen, hu, hu2], .int _ _⟩
   ·cases he
  ·cases he
 ·cases he

theorem DS.cut {m : Mp} {t e : Nat} {T : Ty} {l : List T.den} {v : Value} {lo' hi' : Option Value} {a r : Int} (hu : P.underlying t = some (.slice e)) (hs : sizeOf? P e = some T.size)
  (hv : DS m.G T.size (DC m.G T) l v) (hlo : boundOf 0 lo' = some a) (hhi : boundOf l.length hi' = some r) (h0 : 0 ≤ a) (h1 : a ≤ r) (h2 : r ≤ (l.length : Int)) :
  ∃ v', aslice P t v lo' hi' none = some v' ∧ DS m.G T.size (DC m.G T) ((l.drop a.toNat).take (r.toNat - a.toNat)) v' := by
 have hlen : ((l.drop a.toNat).take (r.toNat - a.toNat)).length = r.toNat - a.toNat := by simp; omega
 have hsum : a.toNat + (r.toNat - a.toNat) ≤ l.length := by omega
 have hmul : a.toNat * T.size + (r.toNat - a.toNat) * T.size ≤ l.length * T.size := by rw [← Nat.add_mul]; exact Nat.mul_le_mul_right _ hsum
 rcases hv with ⟨rfl, rfl⟩ | ⟨s, cs, x, rfl, hl, hr⟩ | ⟨b, off, z, c, rfl, hz', hG, hl, hr⟩
 ·have ea : a = 0 := by simp at h2; omega
  have er : r = 0 := by simp at h2; omega
  subst ea; subst er
  refine ⟨.slice none 0 0, ?_, .inl ⟨rfl, by simp⟩⟩
  simp only [aslice, hu, hlo, Option.bind_some, hs]
  rw [show boundOf 0 hi' = some 0 from hhi]
  simp
 ·refine ⟨LST (r.toNat - a.toNat) ((cs.toList.drop (a.toNat * T.size)).take ((r.toNat - a.toNat) * T.size)).toArray, ?_, .inr (.inl ⟨"s", _, #[], by rw [hlen], ?_, ?_⟩)⟩
  ·simp only [aslice, hu, hlo, hhi, Option.bind_some, hs]
   rw [if_pos ⟨h0, h1, h2⟩]
  ·rw [hlen]; simp; omega
  ·intro i hi
   have hi2 : i < r.toNat - a.toNat := by rw [hlen] at hi; exact hi
   have h3 := drop_mul_rows hr a.toNat (r.toNat - a.toNat) hsum i hi
   have h4 : i * T.size + T.size ≤ (r.toNat - a.toNat) * T.size := by
    have := Nat.mul_le_mul_right T.size (show i + 1 ≤ r.toNat - a.toNat by omega)
    rwa [Nat.add_mul, Nat.one_mul] at this
   refine ⟨by simp; omega, ?_⟩
   have e : (((List.drop (a.toNat * T.size) cs.toList).take ((r.toNat - a.toNat) * T.size)).drop (i * T.size)).take T.size = (((List.drop (a.toNat * T.size) cs.toList)).drop (i * T.size)).take T.size := by
    rw [List.drop_take, List.take_take, Nat.min_eq_left (by omega)]
   rw [e]
   exact h3.2
 ·refine ⟨.slice (some ⟨b, off + a.toNat * T.size, none⟩) (r.toNat - a.toNat) z, ?_, .inr (.inr ⟨b, off + a.toNat * T.size, z, c, by rw [hlen], hz', hG, ?_, ?_⟩)⟩
  ·simp only [aslice, hu, hlo, hhi, Option.bind_some, hs]
   rw [if_pos ⟨h0, h1, h2, hz'⟩]
  ·rw [hlen]; omega
  ·rw [← List.drop_drop]
   exact drop_mul_rows hr a.toNat (r.toNat - a.toNat) hsum

theorem bnd_sound {m : Mp} {os : List TObj} {d : Nat} {lo : Option TV} {lo' : Option Value} (h : match lo, lo' with | some a, some b => RV m os a b | none, none => True | _, _ => False) {a : Int} (hb : bnd d lo = some a) : boundOf d lo' = some a := by
 cases lo with
 | none => cases lo' with
  | none => cases hb; rfl
  | some b => exact h.elim
 | some x => cases lo' with
  | none => exact h.elim
  | some b =>
   cases x with
   | int k n => cases hb; cases h; rfl
   | _ => cases hb
theorem lowN_eq {d : Int} {lo : Option TV} {a : Int} (hb : bnd d lo = some a) (hd : d = 0) : lowN lo = a.toNat ∧ ∀ r : Int, subN lo r = r.toNat - a.toNat := by
 cases lo with
 | none => cases hb; subst hd; exact ⟨rfl, fun r => by simp [subN, tn]⟩
 | some x => cases x with
  | int k n => cases hb; exact ⟨rfl, fun r => rfl⟩
  | _ => cases hb
abbrev OR (m : Mp) (os : List TObj) (lo : Option TV) (lo' : Option Value) : Prop := match lo, lo' with | some a, some b => RV m os a b | none, none => True | _, _ => False
theorem tslice_sound {m : Mp} {h : THp} {H : AH} (hR : HR m h.os H) {t : Nat} {x : TV} {x' : Value} {lo hi mx : Option TV} {lo' hi' mx' : Option Value} (hx : RV m h.os x x') (hlo : OR m h.os lo lo') (hhi : OR m h.os hi hi') (hmx : OR m h.os mx mx')
  {c : List Bool} {v : TV} {h' : THp} (he : tslice P t x lo hi mx h = some (c, v, h')) (hc : cOK c) : h' = h ∧ ∃ v', aslice P t x' lo' hi' mx' = some v' ∧ RV m h.os v v' := by
 unfold tslice at he
 have emx : mx = none → mx' = none := fun e => by subst e; cases mx' with | none => rfl | some _ => exact hmx.elim
 split at he
 ·rename_i hu
  rw [emx rfl]
  split at he
  ·rename_i s
   split at he
   ·rename_i l r hl hr
    cases he
    obtain ⟨c1, c2, c3⟩ := rg_true hc.head
    cases hx with
    | str _ =>
    have b1 := bnd_sound hlo hl
    have b2 := bnd_sound (d := s.length) hhi hr
    obtain ⟨g1, g2⟩ := lowN_eq hl rfl
    refine ⟨rfl, .string ((⟨s.toArray⟩ : ByteArray).extract l.toNat r.toNat), ?_, ?_⟩
    ·simp only [aslice, hu, b1, Option.bind_some, ByteArray.size, List.size_toArray, b2]
     rw [if_pos ⟨c1, c2, c3⟩]
    ·rw [g1, g2]
     have : (⟨s.toArray⟩ : ByteArray).extract l.toNat r.toNat = ⟨(cut s l.toNat (r.toNat - l.toNat)).toArray⟩ := by
      have e := ByteArray.data_extract (a := ⟨s.toArray⟩) (b := l.toNat) (e := r.toNat)
      have e2 : ((⟨s.toArray⟩ : ByteArray).extract l.toNat r.toNat).data = (cut s l.toNat (r.toNat - l.toNat)).toArray := by
       rw [e]
       apply Array.ext'
       simp [cut, List.extract_eq_take_drop]
      exact congrArg ByteArray.mk e2
     rw [this]
     exact .str _
   ·cases he
  ·cases he
 ·rename_i e hu
  rw [emx rfl]
  split at he
  ·rename_i T hT
   obtain ⟨hs, ha, hz⟩ := elemTy_some hT
   split at he
   ·rename_i T' l
    split at he
    ·rename_i e'; subst e'
     split at he
     ·rename_i a r h1 h2
      cases he
      obtain ⟨c1, c2, c3⟩ := rg_true hc.head
      cases hx with
      | deep _ _ _ hd =>
      obtain ⟨g1, g2⟩ := lowN_eq h1 rfl
      obtain ⟨v', p1, p2⟩ := hd.cut hu hs (bnd_sound hlo h1) (bnd_sound hhi h2) c1 c2 c3
      refine ⟨rfl, v', p1, ?_⟩
      rw [g1, g2]
      exact .deep _ _ _ p2
     ·cases he
    ·cases he
   ·split at he
    ·rename_i a r h1 h2
     cases he
     have e1 := eq_true' hc.head
     have e2 := eq_true' hc.tail.head
     subst e1; subst e2
     cases hx with
     | nilS =>
     refine ⟨rfl, .slice none 0 0, ?_, .nilS⟩
     have b1 := bnd_sound (d := 0) hlo h1
     have b2 := bnd_sound (d := 0) hhi h2
     simp only [aslice, hu, b1, b2, Option.bind_some, hs]
     simp
    ·cases he
   ·rename_i id
    cases hx with
    | own _ _ hx =>
    unfold OwnR at hx
    split at he
    ·rename_i w T' l tid hat
     have ho := at_some hat (by simp)
     rw [ho] at hx
     split at he
     ·rename_i e'; subst e'
      split at he
      ·rename_i a r h1 h2
       cases he
       obtain ⟨c1, c2, c3⟩ := rg_true hc.head
       have b1 := bnd_sound (d := 0) hlo h1
       have b2 := bnd_sound (d := l.length) hhi h2
       obtain ⟨g1, g2⟩ := lowN_eq h1 rfl
       simp only [ni, len] at c3
       rw [g1, g2]
       rcases hx with ⟨hn, rfl, rfl⟩ | ⟨b, hb, rfl⟩
       ·have ea : a = 0 := by simp at c3; omega
        have er : r = 0 := by simp at c3; omega
        subst ea; subst er
        refine ⟨rfl, .slice none 0 0, ?_, .sub _ _ _ _ ?_⟩
        ·simp only [aslice, hu, b1, Option.bind_some, hs]
         rw [show boundOf 0 hi' = some 0 from b2]; simp
        ·unfold SubR; rw [ho]; exact .inl ⟨hn, rfl, rfl, rfl, rfl⟩
       ·refine ⟨rfl, .slice (some ⟨b, 0 + a.toNat * T'.size, none⟩) (r.toNat - a.toNat) T'.size, ?_, .sub _ _ _ _ ?_⟩
        ·simp only [aslice, hu, b1, b2, Option.bind_some, hs]
         rw [if_pos ⟨c1, c2, c3, by simp⟩]
        ·unfold SubR; rw [ho]; exact .inr ⟨b, hb, by omega, by rw [Nat.zero_add]⟩
      ·cases he
     ·cases he
    ·rename_i T' l hat
     have ho := at_some hat (by simp)
     rw [ho] at hx
     split at he
     ·rename_i e'; subst e'
      split at he
      ·rename_i a r h1 h2
       cases he
       obtain ⟨c1, c2, c3⟩ := rg_true hc.head
       obtain ⟨g1, g2⟩ := lowN_eq h1 rfl
       obtain ⟨v', p1, p2⟩ := DS.cut hu hs hx (bnd_sound hlo h1) (bnd_sound hhi h2) c1 c2 c3
       refine ⟨rfl, v', p1, ?_⟩
       rw [g1, g2]
       exact .deep _ _ _ p2
      ·cases he
     ·cases he
    ·cases he
   ·rename_i id i pos ver
    split at he
    ·rename_i u cc hg
     have elo : lo' = none := by cases lo' with | none => rfl | some _ => exact hlo.elim
     subst elo
     split at he
     ·rename_i e'; subst e'
      split at he
      ·rename_i r h2
       cases he
       obtain ⟨-, c2, c3⟩ := rg_true hc.head
       have b2 := bnd_sound (d := cc.length) hhi h2
       simp only [ni, len] at c3
       obtain ⟨w, T', l, tid, nt, ho, hii, hp, hns, -⟩ := nestOf_sound hR hx hg
       cases hx with
       | nest _ _ _ _ _ _ hx =>
       obtain ⟨-, -, c0, u0, q1, q2, q3⟩ := NestR_at ho rfl hx
       cases q3.1
       rcases hns with ⟨rfl, rfl⟩ | ⟨b, c1, g1, rfl, g3, g4, g5⟩
       ·have er : r = 0 := by simp at c3; omega
        subst er
        refine ⟨rfl, .slice none 0 0, ?_, .nest _ _ _ _ _ _ ⟨_, ho, Nat.le_refl _, fun _ => ⟨hii, hp, c0, _, q1, q2, none, 0, 0, rfl, Nat.zero_le _, rfl⟩⟩⟩
        simp only [aslice, hu, hs]
        rw [show boundOf 0 none = some 0 from rfl]
        simp only [Option.bind_some]
        rw [show boundOf 0 hi' = some 0 from b2]; simp
       ·refine ⟨rfl, .slice (some ⟨b, 0, none⟩) r.toNat u.size, ?_, .nest _ _ _ _ _ _ ⟨_, ho, Nat.le_refl _, fun _ => ⟨hii, hp, c0, _, q1, q2, _, _, _, rfl, by simp only [tn]; omega, rfl⟩⟩⟩
        simp only [aslice, hu, hs]
        rw [show boundOf 0 none = some 0 from rfl]
        simp only [Option.bind_some, b2]
        rw [if_pos ⟨by omega, by omega, by omega, by simp⟩]
        simp
      ·cases he
     ·cases he
    ·cases he
   ·rename_i id o n
    cases hx with
    | sub _ _ _ _ hx =>
    unfold SubR at hx
    split at he
    ·rename_i w T' l tid hat
     have ho := at_some hat (by simp)
     rw [ho] at hx
     split at he
     ·rename_i e'; subst e'
      split at he
      ·rename_i a r h1 h2
       cases he
       obtain ⟨c1, c2, c3⟩ := rg_true hc.head
       have b1 := bnd_sound (d := 0) hlo h1
       have b2 := bnd_sound (d := n) hhi h2
       obtain ⟨g1, g2⟩ := lowN_eq h1 rfl
       simp only [ni] at c3
       have e1 : addN o (lowN lo) = o + a.toNat := by rw [g1]; cases o <;> simp [addN, nadd]
       rw [e1, g2]
       rcases hx with ⟨hn, rfl, rfl, rfl, rfl⟩ | ⟨b, hb, hle, rfl⟩
       ·have ea : a = 0 := by omega
        have er : r = 0 := by omega
        subst ea; subst er
        refine ⟨rfl, .slice none 0 0, ?_, .sub _ _ _ _ ?_⟩
        ·simp only [aslice, hu, b1, Option.bind_some, hs]
         rw [show boundOf 0 hi' = some 0 from b2]; simp
        ·unfold SubR; rw [ho]; exact .inl ⟨hn, rfl, rfl, rfl, rfl⟩
       ·refine ⟨rfl, .slice (some ⟨b, o * T'.size + a.toNat * T'.size, none⟩) (r.toNat - a.toNat) T'.size, ?_, .sub _ _ _ _ ?_⟩
        ·simp only [aslice, hu, b1, b2, Option.bind_some, hs]
         rw [if_pos ⟨c1, c2, c3, by simp⟩]
        ·unfold SubR; rw [ho]; exact .inr ⟨b, hb, by omega, by rw [Nat.add_mul]⟩
      ·cases he
     ·cases he
    ·cases he
   ·cases he
  ·cases he
 ·cases he

theorem bytes_toList (l : List UInt8) : (⟨l.toArray⟩ : ByteArray).toList = l := by
 have key : ∀ (n : Nat) (i : Nat) (r : List UInt8), l.length - i = n → ByteArray.toList.loop ⟨l.toArray⟩ i r = r.reverse ++ l.drop i := by
  intro n
  induction n with
  | zero =>
   intro i r h
   rw [ByteArray.toList.loop]
   rw [if_neg (by simp [ByteArray.size]; omega), List.drop_eq_nil_of_le (by omega), List.append_nil]
  | succ n ih =>
   intro i r h
   have hi : i < l.length := by omega
   rw [ByteArray.toList.loop]
   rw [if_pos (by simp [ByteArray.size]; omega), ih (i + 1) _ (by omega), List.drop_eq_getElem_cons hi]
   have : (⟨l.toArray⟩ : ByteArray).get! i = l[i] := by
    simp [ByteArray.get!, hi]
   simp [this]
 unfold ByteArray.toList
 rw [key l.length 0 [] rfl]
 simp
theorem bytes_append (a b : List UInt8) : (⟨a.toArray⟩ : ByteArray) ++ ⟨b.toArray⟩ = ⟨(a ++ b).toArray⟩ := by
 have h := ByteArray.data_append (l := ⟨a.toArray⟩) (l' := ⟨b.toArray⟩)
 have e : ((⟨a.toArray⟩ : ByteArray) ++ ⟨b.toArray⟩).data = (a ++ b).toArray := by rw [h]; simp
 exact congrArg ByteArray.mk e

theorem pureV_pure {v : Value} (hv : flat1 v = true) : pureV P (pure v) = some v := by
 show (pureRun P (Sem.pure v)).bind _ = _
 simp only [pureRun, Option.bind_some]
 rw [if_pos hv]
theorem abin_int {op : BinOp} {t : Nat} {ox oy : Operand} {k k' : IntKind} {m n : Int} {v : Value} (h : binOp op t (.int k m) (.int k' n) = pure v) (hv : flat1 v = true) : abinOp P op t ox oy (.int k m) (.int k' n) = some v := by
 have e : (do eqGuard op t ox oy (.int k m) (.int k' n); binOp op t (.int k m) (.int k' n) : Sem Value) = pure v := by
  rw [h]
  unfold eqGuard
  split <;> rfl
 unfold abinOp
 rw [e]
 exact (if_pos rfl).trans (pureV_pure hv)
theorem abin_str {op : BinOp} {t : Nat} {ox oy : Operand} {a b : ByteArray} {v : Value} (h : Op.stringOp op a b = pure v) (hv : flat1 v = true) : abinOp P op t ox oy (.string a) (.string b) = some v := by
 have e : (do eqGuard op t ox oy (.string a) (.string b); binOp op t (.string a) (.string b) : Sem Value) = pure v := by
  have : binOp op t (.string a) (.string b) = pure v := by
   rw [← h]; cases op <;> rfl
  rw [this]
  unfold eqGuard
  split <;> rfl
 unfold abinOp
 rw [e]
 exact (if_pos rfl).trans (pureV_pure hv)
theorem intBin_sound {op : BinOp} {t : Nat} {ox oy : Operand} {k : IntKind} {m n : Int} {c : List Bool} {v : TV} {mm : Mp} {os : List TObj} (he : intBin op k m n = some (c, v)) (hc : cOK c) :
  ∃ v', abinOp P op t ox oy (.int k m) (.int k n) = some v' ∧ RV mm os v v' := by
 have hb : ∀ {v : Value}, (match op with | .add | .sub | .mul => Op.intArith op k m n | .quo | .rem => Op.intDiv op k m n | .and | .or | .xor | .andNot => Op.intBits op k m n | _ => Op.intCmp op m n) = pure v → op ≠ .shl → op ≠ .shr → binOp op t (.int k m) (.int k n) = pure v := by
  intro v h h1 h2
  cases op <;> first | (exact absurd rfl h1) | (exact absurd rfl h2) | (simp only [binOp, ne_eq, not_true_eq_false, if_false]; exact h)
 have ebool : ∀ (p q : Bool), p = q → RV mm os (.bool (.v p)) (.bool q) := fun p q e => by subst e; exact .bool (.v p)
 cases op <;> simp only [intBin] at he <;> (try cases he)
 ·exact ⟨_, abin_int (hb rfl (by simp) (by simp)) rfl, .int _ _⟩
 ·exact ⟨_, abin_int (hb rfl (by simp) (by simp)) rfl, .int _ _⟩
 ·exact ⟨_, abin_int (hb rfl (by simp) (by simp)) rfl, .int _ _⟩
 ·exact ⟨_, abin_int (hb (by simp only [Op.intDiv]; rw [if_neg (ne_true hc.head)]) (by simp) (by simp)) rfl, .int _ _⟩
 ·exact ⟨_, abin_int (hb (by simp only [Op.intDiv]; rw [if_neg (ne_true hc.head)]) (by simp) (by simp)) rfl, .int _ _⟩
 ·exact ⟨_, abin_int (hb rfl (by simp) (by simp)) rfl, .int _ _⟩
 ·exact ⟨_, abin_int (hb rfl (by simp) (by simp)) rfl, .int _ _⟩
 ·exact ⟨_, abin_int (hb rfl (by simp) (by simp)) rfl, .int _ _⟩
 ·exact ⟨_, abin_int (hb rfl (by simp) (by simp)) rfl, .int _ _⟩
 ·exact ⟨_, abin_int (hb rfl (by simp) (by simp)) rfl, ebool _ _ rfl⟩
 ·exact ⟨_, abin_int (hb rfl (by simp) (by simp)) rfl, ebool _ _ (by simp only [ne, bne]; by_cases h : m = n <;> simp [h])⟩
 ·exact ⟨_, abin_int (hb rfl (by simp) (by simp)) rfl, ebool _ _ rfl⟩
 ·exact ⟨_, abin_int (hb rfl (by simp) (by simp)) rfl, ebool _ _ rfl⟩
 ·exact ⟨_, abin_int (hb rfl (by simp) (by simp)) rfl, ebool _ _ rfl⟩
 ·exact ⟨_, abin_int (hb rfl (by simp) (by simp)) rfl, ebool _ _ rfl⟩

theorem SB.get_not (b : SB) : b.not.get = !b.get := by cases b <;> rfl
theorem pureRun_bind {α β : Type} (s : Sem α) (f : α → Sem β) {a : α} (h : pureRun P s = some a) : pureRun P (s >>= f) = pureRun P (f a) := by
 have key : ∀ (s : Sem α), pureRun P s = some a → pureRun P (s.bind f) = pureRun P (f a) := by
  intro s
  induction s with
  | pure b => intro h; simp only [pureRun, Option.some.injEq] at h; subst h; rfl
  | program k ih => intro h; simp only [pureRun] at h; exact ih P h
  | mark m k ih => intro h; simp only [pureRun] at h; exact ih h
  | _ => intro h; simp [pureRun] at h
 exact key s h
theorem pureRun_underlying {t : Nat} {u : TypeDesc} (h : P.underlying t = some u) : pureRun P (underlying t) = some u := by
 unfold underlying
 rw [pureRun_bind (a := P) _ _ rfl, h]
 rfl
theorem pureV_of {s : Sem Value} {v : Value} (h : pureRun P s = some v) (hv : flat1 v = true) : pureV P s = some v := by
 unfold pureV
 rw [h, Option.bind_some, if_pos hv]
theorem equal_bool {t : Nat} {a b : Bool} (hu : P.underlying t = some .bool) (d : Nat) : pureRun P (Op.equalIn (d + 1) t (.bool a) (.bool b)) = some (a == b) := by
 simp only [Op.equalIn]
 rw [pureRun_bind _ _ (pureRun_underlying hu)]
 rfl
theorem abin_bool_eq {t : Nat} {ox oy : Operand} {a b : Bool} (hu : P.underlying t = some .bool) : abinOp P .eql t ox oy (.bool a) (.bool b) = some (.bool (a == b)) := by
 unfold abinOp
 refine (if_pos rfl).trans (pureV_of ?_ rfl)
 show pureRun P (do pure (Value.bool (← Op.equal t (.bool a) (.bool b)))) = _
 rw [pureRun_bind (Op.equal t (.bool a) (.bool b)) _ (equal_bool hu 9999)]
 rfl
theorem abin_bool_ne {t : Nat} {ox oy : Operand} {a b : Bool} (hu : P.underlying t = some .bool) : abinOp P .neq t ox oy (.bool a) (.bool b) = some (.bool (!(a == b))) := by
 unfold abinOp
 refine (if_pos rfl).trans (pureV_of ?_ rfl)
 show pureRun P (do pure (Value.bool (!(← Op.equal t (.bool a) (.bool b))))) = _
 rw [pureRun_bind (Op.equal t (.bool a) (.bool b)) _ (equal_bool hu 9999)]
 rfl
theorem andL_cons (a : Bool) (r : List Bool) : andL (a :: r) = (a && andL r) := by
 cases r with
 | nil => simp [andL]
 | cons b r => rfl
theorem run_part {t off : Nat} {xs : Array Value} {v : Value} (ha : isAgg? P t = some false) (hv : xs[off]? = some v) : pureRun P (part t xs off) = some v := by
 unfold isAgg? at ha
 have hu : ∃ u, P.underlying t = some u ∧ (∀ fs, u ≠ .struct fs) ∧ ∀ n e, u ≠ .array n e := by
  cases h : P.underlying t with
  | none => rw [h] at ha; cases ha
  | some u => rw [h] at ha; refine ⟨u, rfl, fun fs e => ?_, fun n e' e => ?_⟩ <;> (subst e; cases ha)
 obtain ⟨u, h1, h2, h3⟩ := hu
 have hag : pureRun P (isAgg t) = some false := by
  unfold isAgg
  rw [pureRun_bind _ _ (pureRun_underlying h1)]
  cases u <;> first | rfl | exact absurd rfl (h2 _) | exact absurd rfl (h3 _ _)
 unfold part
 rw [pureRun_bind _ _ hag]
 simp only [Bool.false_eq_true, if_false, hv]
 rfl
theorem equal_int {t : Nat} {k k' : IntKind} {a b : Int} (hu : P.underlying t = some (.int k')) (d : Nat) : pureRun P (Op.equalIn (d + 1) t (.int k a) (.int k b)) = some (a == b) := by
 rw [Op.equalIn, pureRun_bind _ _ (pureRun_underlying hu)]
 simp only [if_true]
 rfl
theorem equal_string {t : Nat} {a b : ByteArray} (hu : P.underlying t = some .string) (d : Nat) : pureRun P (Op.equalIn (d + 1) t (.string a) (.string b)) = some (a == b) := by
 rw [Op.equalIn, pureRun_bind _ _ (pureRun_underlying hu)]
 rfl
theorem fieldEqs_sound {m : Mp} {os : List TObj} {xs ys : List TV} {ax ay : Array Value} (hx : RL m os xs ax.toList) (hy : RL m os ys ay.toList) (d : Nat) : ∀ (l : List Field) (bs : List Bool), fieldEqs P xs ys l = some bs →
  pureRun P (forIn l ((none : Option Bool), ()) fun f (__s : Option Bool × Unit) =>
   if f.name ≠ "_" then do
    let a ← part f.type ax f.offset
    let b ← part f.type ay f.offset
    let r ← Op.equalIn (d + 1) f.type a b
    if (!r) = true then pure (ForInStep.done (some false, ())) else pure (ForInStep.yield (none, ()))
   else pure (ForInStep.yield (none, ()))) = some (if andL bs then (none, ()) else (some false, ())) := by
 intro l
 induction l with
 | nil => intro bs h; cases h; rfl
 | cons f r ih =>
  intro bs h
  have at_ : ∀ {zs : List TV} {az : Array Value} {v : TV}, RL m os zs az.toList → zs[f.offset]? = some v → ∃ v', az[f.offset]? = some v' ∧ RV m os v v' := fun {zs az v} hz hv => by
   obtain ⟨v', e, h⟩ := hz.rp.get? hv
   exact ⟨v', by simpa using e, h⟩
  simp only [fieldEqs] at h
  split at h
  ·cases h
  ·rename_i hn
   have fin : ∀ (q : Bool) (l : List Bool) (va vb : Value), isAgg? P f.type = some false → ax[f.offset]? = some va → ay[f.offset]? = some vb → pureRun P (Op.equalIn (d + 1) f.type va vb) = some q → fieldEqs P xs ys r = some l → bs = q :: l →
     pureRun P (forIn (f :: r) ((none : Option Bool), ()) fun f (__s : Option Bool × Unit) =>
      if f.name ≠ "_" then do
       let a ← part f.type ax f.offset
       let b ← part f.type ay f.offset
       let r ← Op.equalIn (d + 1) f.type a b
       if (!r) = true then pure (ForInStep.done (some false, ())) else pure (ForInStep.yield (none, ()))
      else pure (ForInStep.yield (none, ()))) = some (if andL bs then (none, ()) else (some false, ())) := fun q l va vb h1 h2 h3 h4 h5 h6 => by
    rw [List.forIn_cons]
    have step : pureRun P (if f.name ≠ "_" then do
       let a ← part f.type ax f.offset
       let b ← part f.type ay f.offset
       let r ← Op.equalIn (d + 1) f.type a b
       if (!r) = true then pure (ForInStep.done ((some false : Option Bool), ())) else pure (ForInStep.yield (none, ()))
      else pure (ForInStep.yield (none, ()))) = some (if q then ForInStep.yield (none, ()) else ForInStep.done (some false, ())) := by
     rw [if_pos hn, pureRun_bind _ _ (run_part h1 h2), pureRun_bind _ _ (run_part h1 h3), pureRun_bind _ _ h4]
     cases q <;> rfl
    rw [pureRun_bind _ _ step, h6, andL_cons]
    cases q with
    | false => rfl
    | true => simpa using ih l h5
   split at h
   ·rename_i k0 k mm k' nn l hu ha hxa hya hl
    split at h
    ·rename_i e; subst e
     cases h
     obtain ⟨va, a1, a2⟩ := at_ hx hxa
     obtain ⟨vb, b1, b2⟩ := at_ hy hya
     cases a2; cases b2
     exact fin _ l _ _ ha a1 b1 (equal_int hu d) hl (by first | rfl | (congr 1))
    ·cases h
   ·rename_i a b l hu ha hxa hya hl
    cases h
    obtain ⟨va, a1, a2⟩ := at_ hx hxa
    obtain ⟨vb, b1, b2⟩ := at_ hy hya
    cases a2; cases b2
    exact fin _ l _ _ ha a1 b1 (equal_bool hu d) hl rfl
   ·rename_i a b l hu ha hxa hya hl
    cases h
    obtain ⟨va, a1, a2⟩ := at_ hx hxa
    obtain ⟨vb, b1, b2⟩ := at_ hy hya
    cases a2; cases b2
    refine fin _ l _ _ ha a1 b1 (equal_string hu d) hl ?_
    congr 1
    show decide (a = b) = (a.toArray == b.toArray)
    rw [Bool.eq_iff_iff, decide_eq_true_iff, beq_iff_eq]
    exact ⟨fun e => by rw [e], fun e => by simpa using congrArg Array.toList e⟩
   ·cases h
theorem flatT_flat {m : Mp} {os : List TObj} {v : TV} {v' : Value} (h : RV m os v v') (hf : flatT v = true) : flat1 v' = true := by
 cases h <;> first | rfl | cases hf
theorem aggEq_sound {m : Mp} {os : List TObj} {t : Nat} {xs ys : List TV} {ax ay : Array Value} (hx : RL m os xs ax.toList) (hy : RL m os ys ay.toList) {ox oy : Operand} {r : Bool} (hr : aggEq P t xs ys = some r) :
  abinOp P .eql t ox oy (.agg ax) (.agg ay) = some (.bool r) ∧ abinOp P .neq t ox oy (.agg ax) (.agg ay) = some (.bool (!r)) := by
 unfold aggEq at hr
 split at hr
 ·rename_i fs hu
  split at hr
  ·cases hr
  ·rename_i hno
   simp only [Bool.or_eq_true, Bool.not_eq_true', not_or, Bool.not_eq_true, Bool.not_eq_false, Bool.and_eq_true] at hno
   obtain ⟨⟨h1, h2⟩, h3, h4⟩ := hno
   split at hr
   ·rename_i l hl
    cases hr
    have fl : ∀ {zs : List TV} {az : Array Value}, RL m os zs az.toList → zs.all flatT = true → AM.flat (.agg az) = true := fun {zs az} hz hf => by
     show az.toList.all flat1 = true
     rw [List.all_eq_true]
     intro v hv
     obtain ⟨i, hi, rfl⟩ := List.getElem_of_mem hv
     have hi' : i < zs.length := by rw [hz.1]; exact hi
     exact flatT_flat (hz.2 i hi' hi) (List.all_eq_true.1 hf _ (List.getElem_mem hi'))
    have eqv : pureRun P (Op.equal t (.agg ax) (.agg ay)) = some (andL l) := by
     show pureRun P (Op.equalIn (9998 + 1 + 1) t (.agg ax) (.agg ay)) = _
     rw [Op.equalIn, pureRun_bind _ _ (pureRun_underlying hu)]
     show pureRun P (program >>= _) = _
     rw [pureRun_bind (a := P) _ _ rfl]
     simp only [h1, Bool.false_eq_true, if_false]
     rw [← Array.forIn_toList, pureRun_bind _ _ (fieldEqs_sound hx hy 9998 _ l hl)]
     cases andL l <;> rfl
    have guard : ∀ op, pureRun P (eqGuard op t ox oy (.agg ax) (.agg ay)) = some () := fun op => by
     unfold eqGuard
     have inner : pureRun P (do if (!(← program).eqGuardType (← program).depth t) = true then pure () else do
       if (← Op.eqGuardIn Op.maxDepth t (.agg ax) (.agg ay)) = true then
        unsupported (Unsupported.noEntry "binop/eql: two nil values of an interface type with methods, in a part of a struct or an array")
       else pure ()) = some () := by
      rw [pureRun_bind (a := P) _ _ rfl, pureRun_bind (a := P) _ _ rfl]
      simp only [h2]
      rfl
     cases op <;> first | rfl | exact inner
    constructor
    ·unfold abinOp
     rw [if_pos (by rw [fl hx h3, fl hy h4]; rfl)]
     refine pureV_of ?_ rfl
     rw [pureRun_bind _ _ (guard _)]
     show pureRun P (Op.equal t (.agg ax) (.agg ay) >>= _) = _
     rw [pureRun_bind _ _ eqv]
     rfl
    ·unfold abinOp
     rw [if_pos (by rw [fl hx h3, fl hy h4]; rfl)]
     refine pureV_of ?_ rfl
     rw [pureRun_bind _ _ (guard _)]
     show pureRun P (Op.equal t (.agg ax) (.agg ay) >>= _) = _
     rw [pureRun_bind _ _ eqv]
     rfl
   ·cases hr
 ·cases hr
theorem nil_eql {t e : Nat} {ox oy : Operand} (hu : P.underlying t = some (.pointer e)) : abinOp P .eql t ox oy (.pointer none) (.pointer none) = some (.bool true) ∧ abinOp P .neq t ox oy (.pointer none) (.pointer none) = some (.bool false) := by
 have run : pureRun P (Op.equal t (.pointer none) (.pointer none)) = some true := by
  show pureRun P (Op.equalIn (9999 + 1) t _ _) = _
  rw [Op.equalIn, pureRun_bind _ _ (pureRun_underlying hu)]
  rfl
 constructor
 ·unfold abinOp
  refine (if_pos rfl).trans (pureV_of ?_ rfl)
  show pureRun P (Op.equal t (.pointer none) (.pointer none) >>= _) = _
  rw [pureRun_bind _ _ run]
  rfl
 ·unfold abinOp
  refine (if_pos rfl).trans (pureV_of ?_ rfl)
  show pureRun P (Op.equal t (.pointer none) (.pointer none) >>= _) = _
  rw [pureRun_bind _ _ run]
  rfl
theorem tbin_sound {m : Mp} {h : THp} {op : BinOp} {t : Nat} {ox oy : Operand} {x y : TV} {x' y' : Value} (hx : RV m h.os x x') (hy : RV m h.os y y') {c : List Bool} {v : TV} {h' : THp} (he : tbin P op t x y h = some (c, v, h')) (hc : cOK c) :
  h' = h ∧ ∃ v', abinOp P op t ox oy x' y' = some v' ∧ RV m h.os v v' := by
 have ebool : ∀ (p q : Bool), p = q → RV m h.os (.bool (.v p)) (.bool q) := fun p q e => by subst e; exact .bool (.v p)
 unfold tbin at he
 split at he
 ·rename_i k mm k' nn
  cases hx with
  | int _ _ =>
  cases hy with
  | int _ _ =>
  split at he
  ·rename_i e; subst e
   cases he
   refine ⟨rfl, _, abin_int (v := .int k (k.wrap (mm * 2 ^ (min nn.toNat k.bits)))) ?_ rfl, .int _ _⟩
   simp only [binOp, Op.shift]
   rw [if_neg (by have := le_true hc.head; omega)]
  ·split at he
   ·rename_i e; subst e
    cases he
    refine ⟨rfl, _, abin_int (v := .int k (mm.fdiv (2 ^ (min nn.toNat k.bits)))) ?_ rfl, .int _ _⟩
    simp only [binOp, Op.shift]
    rw [if_neg (by have := le_true hc.head; omega)]
   ·split at he
    ·rename_i e; subst e
     split at he
     ·rename_i c' v' hv
      cases he
      exact ⟨rfl, intBin_sound hv hc⟩
     ·cases he
    ·cases he
 ·rename_i a b
  cases hx with
  | bool _ =>
  cases hy with
  | bool _ =>
  split at he
  ·rename_i hu
   split at he
   ·cases he
    exact ⟨rfl, _, abin_bool_eq hu, ebool _ _ rfl⟩
   ·cases he
    exact ⟨rfl, _, abin_bool_ne hu, ebool _ _ rfl⟩
   ·cases he
  ·cases he
 ·rename_i a b
  cases hx with
  | str _ =>
  cases hy with
  | str _ =>
  split at he
  ·cases he
   refine ⟨rfl, .string ⟨(a ++ b).toArray⟩, abin_str ?_ rfl, .str _⟩
   have := fits_true hc.head
   simp only [Op.stringOp, ByteArray.size, List.size_toArray]
   rw [if_neg (by simp only [IntKind.max, IntKind.signed, IntKind.bits, len] at *; simp; omega), bytes_append]
  ·cases he
   exact ⟨rfl, _, abin_str rfl rfl, ebool _ _ (by simp only [bytes_toList, sq]; rw [Bool.eq_iff_iff]; simp)⟩
  ·cases he
   exact ⟨rfl, _, abin_str rfl rfl, ebool _ _ (by simp only [bytes_toList, sq, nt]; congr 1; rw [Bool.eq_iff_iff]; simp)⟩
  ·cases he
   exact ⟨rfl, _, abin_str rfl rfl, ebool _ _ (by simp only [bytes_toList, slt])⟩
  ·cases he
   exact ⟨rfl, _, abin_str rfl rfl, ebool _ _ (by simp only [bytes_toList, slt, nt])⟩
  ·cases he
 ·cases hx with
  | agg cs ax hl1 hh1 =>
  cases hy with
  | agg ds ay hl2 hh2 =>
  split at he
  ·split at he
   ·rename_i r hr
    cases he
    exact ⟨rfl, _, (aggEq_sound (RL.ofArr hl1 hh1) (RL.ofArr hl2 hh2) hr).1, ebool _ _ rfl⟩
   ·cases he
  ·split at he
   ·rename_i r hr
    cases he
    exact ⟨rfl, _, (aggEq_sound (RL.ofArr hl1 hh1) (RL.ofArr hl2 hh2) hr).2, ebool _ _ rfl⟩
   ·cases he
  ·cases he
 ·cases hx with
  | nilP =>
  cases hy with
  | nilP =>
  split at he
  ·rename_i e hu
   have run : pureRun P (Op.equal t (.pointer none) (.pointer none)) = some true := by
    show pureRun P (Op.equalIn (9999 + 1) t _ _) = _
    rw [Op.equalIn, pureRun_bind _ _ (pureRun_underlying hu)]
    rfl
   split at he
   ·cases he
    refine ⟨rfl, .bool true, ?_, .bool .t⟩
    unfold abinOp
    refine (if_pos rfl).trans (pureV_of ?_ rfl)
    show pureRun P (Op.equal t (.pointer none) (.pointer none) >>= _) = _
    rw [pureRun_bind _ _ run]
    rfl
   ·cases he
    refine ⟨rfl, .bool false, ?_, .bool .f⟩
    unfold abinOp
    refine (if_pos rfl).trans (pureV_of ?_ rfl)
    show pureRun P (Op.equal t (.pointer none) (.pointer none) >>= _) = _
    rw [pureRun_bind _ _ run]
    rfl
   ·cases he
  ·cases he
 ·cases hx with
  | ptr id off b hb hf =>
  cases hy with
  | ptr id' off' b' hb' hf' =>
  split at he
  ·rename_i e hu
   split at he
   ·rename_i n hs
    split at he
    ·rename_i e0
     obtain ⟨rfl, rfl⟩ := e0
     rw [hb] at hb'; cases hb'
     split at he
     ·cases he
      exact ⟨rfl, .bool true, by simp [abinOp, flat, flat1, aeqNil, hu, hs], .bool .t⟩
     ·cases he
      exact ⟨rfl, .bool false, by simp [abinOp, flat, flat1, aeqNil, hu, hs], .bool .f⟩
     ·cases he
    ·cases he
   ·cases he
  ·cases he
 ·cases hx with
  | ptr id off b hb hf =>
  cases hy with
  | nilP =>
  split at he
  ·rename_i e hu
   split at he
   ·cases he
    exact ⟨rfl, .bool false, by simp [abinOp, flat, flat1, aeqNil, hu], .bool .f⟩
   ·cases he
    exact ⟨rfl, .bool true, by simp [abinOp, flat, flat1, aeqNil, hu], .bool .t⟩
   ·cases he
  ·cases he
 ·cases hx with
  | nilP =>
  cases hy with
  | ptr id off b hb hf =>
  split at he
  ·rename_i e hu
   split at he
   ·cases he
    exact ⟨rfl, .bool false, by simp [abinOp, flat, flat1, aeqNil, hu], .bool .f⟩
   ·cases he
    exact ⟨rfl, .bool true, by simp [abinOp, flat, flat1, aeqNil, hu], .bool .t⟩
   ·cases he
  ·cases he
 ·cases hx with
  | nilOr id q v hh hf =>
  cases hy with
  | nilP =>
  split at he
  ·rename_i e hu
   obtain ⟨n1, n2⟩ := nil_eql (ox := ox) (oy := oy) hu
   split at he
   ·cases he
    rcases hh with ⟨rfl, rfl⟩ | ⟨rfl, b, hb, rfl⟩
    ·exact ⟨rfl, _, n1, ebool _ _ rfl⟩
    ·exact ⟨rfl, .bool false, by simp [abinOp, flat, flat1, aeqNil, hu], ebool _ _ rfl⟩
   ·cases he
    rcases hh with ⟨rfl, rfl⟩ | ⟨rfl, b, hb, rfl⟩
    ·exact ⟨rfl, _, n2, ebool _ _ rfl⟩
    ·exact ⟨rfl, .bool true, by simp [abinOp, flat, flat1, aeqNil, hu], ebool _ _ rfl⟩
   ·cases he
  ·cases he
 ·cases hx with
  | nilOr id q v hh hf =>
  cases hy with
  | ptr id' off' b' hb' hf' =>
  split at he
  ·rename_i e hu
   split at he
   ·rename_i n hs
    split at he
    ·rename_i e0
     obtain ⟨rfl, rfl⟩ := e0
     split at he
     ·cases he
      rcases hh with ⟨rfl, rfl⟩ | ⟨rfl, b, hb, rfl⟩
      ·exact ⟨rfl, .bool false, by simp [abinOp, flat, flat1, aeqNil, hu], ebool _ _ rfl⟩
      ·rw [hb] at hb'; cases hb'
       exact ⟨rfl, .bool true, by simp [abinOp, flat, flat1, aeqNil, hu, hs], ebool _ _ rfl⟩
     ·cases he
      rcases hh with ⟨rfl, rfl⟩ | ⟨rfl, b, hb, rfl⟩
      ·exact ⟨rfl, .bool true, by simp [abinOp, flat, flat1, aeqNil, hu], ebool _ _ rfl⟩
      ·rw [hb] at hb'; cases hb'
       exact ⟨rfl, .bool false, by simp [abinOp, flat, flat1, aeqNil, hu, hs], ebool _ _ rfl⟩
     ·cases he
    ·cases he
   ·cases he
  ·cases he
 ·cases hx with
  | func f x y x' y' h1 h2 h3 h4 =>
  cases hy with
  | nilF =>
  split at he
  ·rename_i p r va hu
   split at he
   ·cases he
    exact ⟨rfl, .bool false, by simp [abinOp, flat, flat1, aeqNil, hu, fnKind], .bool .f⟩
   ·cases he
    exact ⟨rfl, .bool true, by simp [abinOp, flat, flat1, aeqNil, hu, fnKind], .bool .t⟩
   ·cases he
  ·cases he
 ·cases he

theorem tun_sound {m : Mp} {h : THp} {op : UnOp} {x : TV} {x' : Value} (hx : RV m h.os x x') {c : List Bool} {v : TV} {h' : THp} (he : tun op x h = some (c, v, h')) :
  h' = h ∧ flat1 x' = true ∧ ∃ v', pureV P (Op.unary op x') = some v' ∧ RV m h.os v v' := by
 unfold tun at he
 split at he
 ·rename_i b
  cases he
  cases hx
  refine ⟨rfl, rfl, .bool (!b.get), pureV_pure rfl, ?_⟩
  rw [← SB.get_not]; exact .bool _
 ·rename_i k n
  cases he
  cases hx
  refine ⟨rfl, rfl, .int k (k.wrap (0 - n)), pureV_pure rfl, ?_⟩
  rw [Int.zero_sub]; exact .int _ _
 ·cases he

theorem tconvInt_sound {m : Mp} {os : List TObj} {s d : Nat} {k0 k k' : IntKind} {n : Int} {H : AH} (hs : P.underlying s = some (.int k0)) (hd : P.underlying d = some (.int k)) :
  aconvert P s d (.int k' n) H = some (.int k (k.wrap n), H) := by
 have e : pureV P (convert s d (.int k' n)) = some (.int k (k.wrap n)) := by
  refine pureV_of ?_ rfl
  unfold convert
  rw [pureRun_bind _ _ (pureRun_underlying hs), pureRun_bind _ _ (pureRun_underlying hd)]
  rfl
 simp only [aconvert, hs, hd]
 rw [if_pos (show flat (.int k' n) = true from rfl), e]
 rfl
theorem tconvStr_sound {m : Mp} {os : List TObj} {s d : Nat} {b : ByteArray} {H : AH} (hs : P.underlying s = some .string) (hd : P.underlying d = some .string) :
  aconvert P s d (.string b) H = some (.string b, H) := by
 have e : pureV P (convert s d (.string b)) = some (.string b) := by
  refine pureV_of ?_ rfl
  unfold convert
  rw [pureRun_bind _ _ (pureRun_underlying hs), pureRun_bind _ _ (pureRun_underlying hd)]
  rfl
 simp only [aconvert, hs, hd]
 rw [if_pos (show flat (.string b) = true from rfl), e]
 rfl
theorem tconvRune_sound {s d : Nat} {k0 k' : IntKind} {n : Int} {H : AH} (hs : P.underlying s = some (.int k0)) (hd : P.underlying d = some .string) :
  aconvert P s d (.int k' n) H = some (.string ⟨(runs n).toArray⟩, H) := by
 have e : pureV P (convert s d (.int k' n)) = some (.string ⟨(runs n).toArray⟩) := by
  refine pureV_of ?_ rfl
  unfold convert
  rw [pureRun_bind _ _ (pureRun_underlying hs), pureRun_bind _ _ (pureRun_underlying hd)]
  rfl
 simp only [aconvert, hs, hd]
 rw [if_pos (show flat (.int k' n) = true from rfl), e]
 rfl
theorem min_sound {ts : Array TypeId} {ty : TypeId} {k : IntKind} {m n : Int} : pureV P (Builtin.min_ ts ty #[.int k m, .int k n]) = some (.int k (mn m n)) := by
 refine pureV_of ?_ rfl
 simp [Builtin.min_, Builtin.min2, mn]
 rfl
theorem max_sound {ts : Array TypeId} {ty : TypeId} {k : IntKind} {m n : Int} : pureV P (Builtin.max_ ts ty #[.int k m, .int k n]) = some (.int k (mx m n)) := by
 refine pureV_of ?_ rfl
 simp [Builtin.max_, Builtin.max2, mx]
 rfl

theorem spliceT_rl {m : Mp} {os : List TObj} {c : List TV} {c' : List Value} {v : List TV} {v' : List Value} (h : RL m os c c') (k : RL m os v v') (off : Nat) : RL m os (spliceT c off v) (splice c' off v') := by
 unfold spliceT splice
 rw [← k.1]
 exact ((h.take off).append k).append (h.drop _)
theorem tvV1_rv {m : Mp} {os : List TObj} (v : Value) : RV m os (tvV1 v) v := by
 unfold tvV1
 split
 ·rename_i b
  have := RV.bool (m := m) (os := os) (SB.of b)
  rwa [show (SB.of b).get = b by cases b <;> rfl] at this
 ·exact .int _ _
 ·rename_i s
  have := RV.str (m := m) (os := os) s.data.toList
  simpa using this
 ·exact .nilS
 ·exact .nilP
 ·exact .nilF
 ·exact .junk _
theorem tvV_rv {m : Mp} {os : List TObj} (v : Value) : RV m os (tvV v) v := by
 unfold tvV
 split
 ·rename_i cs
  exact .agg _ _ (by simp) fun i a b => by simpa using tvV1_rv cs[i]
 ·exact tvV1_rv v
theorem DS.one {G : Nat → Option (List Value)} {α : Type} {sz : Nat} {R : α → List Value → Prop} {l : List α} {v : Value} (h : DS G sz R l v) : one v = true ∧ v.cells = #[v] := by
 rcases h with ⟨rfl, rfl⟩ | ⟨s, cs, x, rfl, -, -⟩ | ⟨b, off, z, c, rfl, -⟩ <;> exact ⟨rfl, rfl⟩
theorem one_of {m : Mp} {h : THp} {tv : TV} {v : Value} (ht : tvOne h tv = true) (hv : RV m h.os tv v) : tv.cells = [tv] ∧ one v = true ∧ v.cells = #[v] := by
 cases hv with
 | agg _ _ _ _ => cases ht
 | tup _ _ _ _ => cases ht
 | junk _ => cases ht
 | elt _ _ _ _ _ => cases ht
 | nilOr id q v hh hf => rcases hh with ⟨_, rfl⟩ | ⟨_, b, _, rfl⟩ <;> exact ⟨rfl, rfl, rfl⟩
 | sdat _ _ _ => cases ht
 | buf id v hx =>
  refine ⟨rfl, ?_⟩
  simp only [tvOne] at ht
  unfold BufR at hx
  split at ht
  ·rename_i w t l tid hat
   rw [at_some hat (by simp)] at hx
   rcases hx with ⟨-, -, rfl⟩ | ⟨b, -, -, rfl⟩ <;> exact ⟨rfl, rfl⟩
  ·cases ht
 | deep t l v hd => exact ⟨rfl, hd.one⟩
 | own id v hx =>
  refine ⟨rfl, ?_⟩
  simp only [tvOne] at ht
  unfold OwnR at hx
  split at ht
  ·rename_i w t l tid hat
   rw [at_some hat (by simp)] at hx
   rcases hx with ⟨-, -, rfl⟩ | ⟨b, -, rfl⟩ <;> exact ⟨rfl, rfl⟩
  ·rename_i t l hat
   rw [at_some hat (by simp)] at hx
   exact DS.one hx
  ·rename_i w t l tid nt ver hole hat
   rw [at_some hat (by simp)] at hx
   rcases hx with ⟨-, -, rfl⟩ | ⟨b, -, rfl⟩ <;> exact ⟨rfl, rfl⟩
  ·cases ht
 | elt2 _ _ _ _ _ _ _ _ => cases ht
 | nest id i pos ver ct v hx =>
  refine ⟨rfl, ?_⟩
  simp only [tvOne] at ht
  split at ht
  ·rename_i w t l tid nt ver' hat
   have e : ver' = ver := by simpa using ht
   obtain ⟨-, -, c, u, -, -, q⟩ := NestR_at (at_some hat (by simp)) e hx
   cases ct with
   | none => obtain ⟨rfl, p, k, z, rfl⟩ := q; exact ⟨rfl, rfl⟩
   | some n => obtain ⟨p, k, z, -, -, rfl⟩ := q; exact ⟨rfl, rfl⟩
  ·cases ht
 | sub id lo n v hx =>
  refine ⟨rfl, ?_⟩
  simp only [tvOne] at ht
  unfold SubR at hx
  split at ht
  ·rename_i w t l tid hat
   rw [at_some hat (by simp)] at hx
   rcases hx with ⟨-, -, -, -, rfl⟩ | ⟨b, -, -, rfl⟩ <;> exact ⟨rfl, rfl⟩
  ·rename_i t l hat
   rw [at_some hat (by simp)] at hx
   exact DS.one hx
  ·cases ht
 | yld id v hx =>
  refine ⟨rfl, ?_⟩
  simp only [tvOne] at ht
  unfold YldR at hx
  split at ht
  ·rename_i hat
   rw [at_some hat (by simp)] at hx
   obtain ⟨b, -, rfl⟩ := hx
   exact ⟨rfl, rfl⟩
  ·cases ht
 | dptrM cs s arr x hl hh => exact ⟨rfl, rfl, rfl⟩
 | dptrP cs b off c hG hl hh => exact ⟨rfl, rfl, rfl⟩
 | func f x y x' y' _ _ _ _ => exact ⟨rfl, rfl, rfl⟩
 | _ => exact ⟨rfl, rfl, rfl⟩
theorem cells_sound {m : Mp} {h : THp} {v : TV} {v' : Value} (hv : RV m h.os v v') (ht : v.cells.all (tvOne h) = true) : RL m h.os v.cells v'.cells.toList ∧ v'.cells.toList.all AM.one = true ∧ v'.cells.size = v.cells.length := by
 by_cases ha : ∃ cs, v = .agg cs
 ·obtain ⟨cs, rfl⟩ := ha
  cases hv with
  | agg _ arr hl hh =>
   refine ⟨.ofArr hl hh, ?_, hl.symm⟩
   simp only [TV.cells] at ht
   rw [List.all_eq_true] at ht ⊢
   intro x hx
   obtain ⟨i, hi, rfl⟩ := List.getElem_of_mem hx
   have hi' : i < arr.size := by simpa [Value.cells] using hi
   have := (one_of (ht cs[i] (List.getElem_mem (by omega))) (hh i (by omega) hi')).2.1
   simpa [Value.cells] using this
 ·have hone : tvOne h v = true := by
   cases v with
   | agg cs => exact absurd ⟨cs, rfl⟩ ha
   | _ => simpa [TV.cells] using ht
  obtain ⟨e1, e2, e3⟩ := one_of hone hv
  rw [e1, e3]
  exact ⟨.cons hv .nil, by simpa using e2, rfl⟩
theorem fillLT_sound {m : Mp} {h : THp} {place : Nat → Option (Nat × Nat)} : ∀ (parts : List (Nat × TV)) (parts' : List (Nat × Value)) (cs : List TV) (cs' : List Value) (r : List TV), parts.map (·.1) = parts'.map (·.1) → RL m h.os (parts.map (·.2)) (parts'.map (·.2)) →
  (parts.all fun p => p.2.cells.all (tvOne h)) = true → RL m h.os cs cs' → fillLT place cs parts = some r → ∃ r', fillL place cs' parts' = some r' ∧ RL m h.os r r' := by
 intro parts
 induction parts with
 | nil =>
  intro parts' cs cs' r he hr ht hc hf
  cases parts' with
  | nil => cases hf; exact ⟨cs', rfl, hc⟩
  | cons => cases he
 | cons p ps ih =>
  intro parts' cs cs' r he hr ht hc hf
  cases parts' with
  | nil => cases he
  | cons p' ps' =>
   obtain ⟨i, v⟩ := p
   obtain ⟨i', v'⟩ := p'
   simp only [List.map_cons, List.cons.injEq] at he
   obtain ⟨rfl, he⟩ := he
   simp only [List.map_cons] at hr
   obtain ⟨_, _, e, h1, h2⟩ := hr.cons_inv
   cases e
   simp only [List.all_cons, Bool.and_eq_true] at ht
   obtain ⟨g1, g2, g3⟩ := cells_sound h1 ht.1
   simp only [fillLT] at hf
   simp only [fillL]
   split at hf
   ·cases hf
   ·rename_i off size hp
    simp only [hp]
    split at hf
    ·cases hf
    ·rename_i hn
     rw [if_neg (by rw [g3, ← hc.1]; exact hn)]
     exact ih ps' _ _ r he h2 ht.2 (spliceT_rl hc g1 off) hf
theorem tbuild_sound {m : Mp} {h : THp} {t : Nat} {parts : List (Nat × TV)} {parts' : List (Nat × Value)} (he : parts.map (·.1) = parts'.map (·.1)) (hr : RL m h.os (parts.map (·.2)) (parts'.map (·.2))) {v : TV} (hb : tbuild P t parts h = some v) :
  ∃ v', abuild P t parts' = some v' ∧ RV m h.os v v' := by
 unfold tbuild at hb
 split at hb
 ·cases hb
 ·rename_i ht
  split at hb
  ·rename_i z fs hz hu
   split at hb
   ·rename_i pl hpl
    split at hb
    ·rename_i c hc
     cases hb
     have ht' : (parts.all fun p => p.2.cells.all (tvOne h)) = true := by simpa using ht
     obtain ⟨r', e1, e2⟩ := fillLT_sound parts parts' _ z.toList c he hr ht' (RL.map (m := m) (os := h.os) z.toList tvV1 id (fun x _ => tvV1_rv x) |> fun q => by simpa using q) hc
     refine ⟨.agg r'.toArray, ?_, .ofRL_agg e2⟩
     simp only [abuild, hz, hu, hpl, Option.bind_some, Value.cells]
     rw [e1]; rfl
    ·cases hb
   ·cases hb
  ·cases hb

theorem castL_some {T' T : Ty} {l : List T'.den} {l' : List T.den} (h : castL T l = some l') : ∃ e : T' = T, e ▸ l = l' := by
 unfold castL at h
 split at h
 ·rename_i e; cases h; exact ⟨e, rfl⟩
 ·cases h
def Calm (os : List TObj) : TV → Prop
 | .own id => ∃ t l, os[id]? = some (.fro t l)
 | .sub id _ _ => ∃ t l, os[id]? = some (.fro t l)
 | _ => True
theorem decS_calm {m : Mp} {h : THp} {T : Ty} {v : TV} {l : List T.den} (hd : decS h T v = some l) (hc : Calm h.os v) {v' : Value} (hv : RV m h.os v v') : DS m.G T.size (DC m.G T) l v' := by
 unfold decS at hd
 split at hd
 ·cases hd; cases hv; exact .inl ⟨rfl, rfl⟩
 ·obtain ⟨e, rfl⟩ := castL_some hd
  subst e
  cases hv with | deep _ _ _ hh => exact hh
 ·rename_i id
  obtain ⟨t, r, ho⟩ := hc
  cases hv with
  | own _ _ hx =>
  unfold OwnR at hx
  rw [ho] at hx
  have hat : h.at_ id = .fro t r := by simp [THp.at_, List.getD_eq_getElem?_getD, ho]
  rw [hat] at hd
  obtain ⟨e, rfl⟩ := castL_some hd
  subst e
  exact hx
 ·rename_i id lo n
  obtain ⟨t, r, ho⟩ := hc
  have hat : h.at_ id = .fro t r := by simp [THp.at_, List.getD_eq_getElem?_getD, ho]
  rw [hat] at hd
  obtain ⟨e, rfl⟩ := castL_some hd
  subst e
  cases hv with
  | sub _ _ _ _ hx =>
  unfold SubR at hx
  rw [ho] at hx
  exact hx
 ·cases hd
theorem decC_calm {m : Mp} {h : THp} : ∀ (T : Ty) (cs : List TV) (vs : List Value) (x : T.den) (r : List TV), decC h T cs = some (x, r) → (∀ v ∈ cs, Calm h.os v) → RL m h.os cs vs →
  ∃ v1 v2, vs = v1 ++ v2 ∧ DC m.G T x v1 ∧ RL m h.os r v2 ∧ ∃ c1, cs = c1 ++ r := by
 intro T
 induction T with
 | int k =>
  intro cs vs x r hd hc hr
  cases cs with
  | nil => cases hd
  | cons c cs =>
   obtain ⟨v, w, rfl, h1, h2⟩ := hr.cons_inv
   cases c with
   | int k' n =>
    simp only [decC] at hd
    split at hd
    ·rename_i e; subst e; cases hd; cases h1; exact ⟨[_], w, rfl, rfl, h2, [_], rfl⟩
    ·cases hd
   | _ => cases hd
 | bool =>
  intro cs vs x r hd hc hr
  cases cs with
  | nil => cases hd
  | cons c cs =>
   obtain ⟨v, w, rfl, h1, h2⟩ := hr.cons_inv
   cases c with
   | bool b => cases hd; cases h1; exact ⟨[_], w, rfl, rfl, h2, [_], rfl⟩
   | _ => cases hd
 | str =>
  intro cs vs x r hd hc hr
  cases cs with
  | nil => cases hd
  | cons c cs =>
   obtain ⟨v, w, rfl, h1, h2⟩ := hr.cons_inv
   cases c with
   | str b => cases hd; cases h1; exact ⟨[_], w, rfl, rfl, h2, [_], rfl⟩
   | _ => cases hd
 | slice t ih =>
  intro cs vs x r hd hc hr
  cases cs with
  | nil => cases hd
  | cons c cs =>
   obtain ⟨v, w, rfl, h1, h2⟩ := hr.cons_inv
   simp only [decC] at hd
   split at hd
   ·rename_i l hl
    cases hd
    exact ⟨[v], w, rfl, ⟨v, rfl, decS_calm hl (hc c (List.mem_cons_self ..)) h1⟩, h2, [c], rfl⟩
   ·cases hd
 | unit =>
  intro cs vs x r hd hc hr
  cases cs with
  | nil => cases hd; exact ⟨[], vs, rfl, rfl, hr, [], rfl⟩
  | cons c cs => cases hd; exact ⟨[], vs, rfl, rfl, hr, [], rfl⟩
 | pair a b iha ihb =>
  intro cs vs x r hd hc hr
  have hd' : (match decC h a cs with | some (x, r) => (match decC h b r with | some (y, r') => some ((x, y), r') | none => none) | none => none) = some (x, r) := by
   cases cs <;> exact hd
  split at hd'
  ·rename_i xa ra ha
   split at hd'
   ·rename_i yb rb hb
    cases hd'
    obtain ⟨v1, v2, rfl, e1, e2, c1, rfl⟩ := iha _ _ _ _ ha hc hr
    obtain ⟨v3, v4, rfl, e3, e4, c2, rfl⟩ := ihb _ _ _ _ hb (fun v hv => hc v (List.mem_append_right _ hv)) e2
    exact ⟨v1 ++ v3, v4, by simp, ⟨v1, v3, rfl, e1, e3⟩, e4, c1 ++ c2, by simp⟩
   ·cases hd'
  ·cases hd'
 | st a ih =>
  intro cs vs x r hd hc hr
  have hd' : decC h a cs = some (x, r) := by cases cs <;> exact hd
  exact ih _ _ _ _ hd' hc hr
end Go.TM
