/- Rows of own rows: what goes into them. -/

import Derived.Test.YtgpligmjbecbjaaDoorTmEff
set_option linter.unusedVariables false
set_option linter.unusedSimpArgs false
set_option linter.unusedSectionVars false
namespace Go.TM
open Go Go.AM

theorem NC.map {m m' : Mp} {H H' : AH} {id id' j0 j0' : Nat} {nt : List Nat} {free free' : Bool} (hG : Gle m.G m'.G) (hf : free = true → free' = true) :
  ∀ (t : Ty) (pos : Nat) (x : t.den) (cs : List Value), (∀ p b, pos ≤ p → p < pos + t.size → m.ρ (.n id (j0 + p)) = some b → m'.ρ (.n id' (j0' + p)) = some b ∧ H'.get b = H.get b) → NC m H id j0 nt free t pos x cs → NC m' H' id' j0' nt free' t pos x cs := by
 intro t
 induction t with
 | int k => intro pos x cs hk h; exact h
 | bool => intro pos x cs hk h; exact h
 | str => intro pos x cs hk h; exact h
 | slice t ih =>
  intro pos x cs hk h
  obtain ⟨v, h1, h2⟩ := h
  refine ⟨v, h1, h2.imp hf fun q => ?_⟩
  rcases q with q | ⟨b, c, h1, h2, h3, h4, h5⟩
  ·exact .inl q
  ·obtain ⟨k1, k2⟩ := hk pos b (Nat.le_refl _) (by simp [Ty.size]) h1
   exact .inr ⟨b, c, k1, h2, k2.trans h3, h4, h5.mono (DC.mono hG t)⟩
 | unit => intro pos x cs hk h; exact h
 | pair a b iha ihb =>
  intro pos x cs hk h
  obtain ⟨c1, c2, h1, h2, h3⟩ := h
  simp only [Ty.size] at hk
  exact ⟨c1, c2, h1, iha _ _ _ (fun p d p1 p2 => hk p d p1 (by omega)) h2, ihb _ _ _ (fun p d p1 p2 => hk p d (by omega) (by omega)) h3⟩
 | st a ih => intro pos x cs hk h; exact ih _ _ _ hk h
theorem NC.set {m m' : Mp} {H H' : AH} {id j0 : Nat} {nt : List Nat} (hG : Gle m.G m'.G) :
  ∀ (t : Ty) (pos p : Nat) (x y : t.den) (cs : List Value) (u : Ty) (c c' : List u.den) (v : Value), (∀ q b, pos ≤ q → q < pos + t.size → q ≠ pos + p → m.ρ (.n id (j0 + q)) = some b → m'.ρ (.n id (j0 + q)) = some b ∧ H'.get b = H.get b) →
   NC m H id j0 nt false t pos x cs → getN t p x = some ⟨u, c⟩ → setN t p u c' x = some y → cs[p]? = some v → NS m' H' id (j0 + (pos + p)) (nt.getD (pos + p) 0) u c' v → NC m' H' id j0 nt false t pos y cs := by
 intro t
 induction t with
 | slice t ih =>
  intro pos p x y cs u c c' v hk h hg hs hv hn
  cases p with
  | zero =>
   cases hg
   obtain ⟨v', rfl, -⟩ := h
   cases hv
   simp only [setN] at hs
   obtain ⟨e, hs⟩ := castL_some hs
   cases e; subst hs
   exact ⟨v, rfl, .inr hn⟩
  | succ p => cases hg
 | pair a b iha ihb =>
  intro pos p x y cs u c c' v hk h hg hs hv hn
  obtain ⟨c1, c2, rfl, h2, h3⟩ := h
  have e1 := NC.length _ _ _ _ h2
  have e2 := NC.length _ _ _ _ h3
  simp only [Ty.size] at hk
  simp only [getN] at hg
  simp only [setN] at hs
  cases hb : Nat.blt p a.size with
  | true =>
   have hlt : p < a.size := by simpa using hb
   rw [hb] at hg hs
   simp only at hg hs
   split at hs
   ·rename_i y' hy
    cases hs
    refine ⟨c1, c2, rfl, iha _ _ _ _ _ _ _ _ _ (fun q d q1 q2 q3 => hk q d q1 (by omega) q3) h2 hg hy (by rwa [List.getElem?_append_left (by omega)] at hv) hn, NC.map hG _root_.id _ _ _ _ (fun q d q1 q2 => hk q d (by omega) (by omega) (by omega)) h3⟩
   ·cases hs
  | false =>
   have hle : a.size ≤ p := Nat.le_of_not_lt fun q => by rw [show Nat.blt p a.size = true from by simpa using q] at hb; cases hb
   rw [hb] at hg hs
   simp only at hg hs
   split at hs
   ·rename_i y' hy
    cases hs
    refine ⟨c1, c2, rfl, NC.map hG _root_.id _ _ _ _ (fun q d q1 q2 => hk q d (by omega) (by omega) (by omega)) h2, ihb _ _ _ _ _ _ _ _ _ (fun q d q1 q2 q3 => hk q d (by omega) (by omega) (by omega)) h3 hg hy (by rwa [List.getElem?_append_right (by omega), e1] at hv) ?_⟩
    rw [show pos + a.size + (p - a.size) = pos + p by omega]; exact hn
   ·cases hs
 | st a ih => intro pos p x y cs u c c' v hk h hg hs hv hn; exact ih _ _ _ _ _ _ _ _ _ hk h hg hs hv hn
 | _ => intro pos p x y cs u c c' v hk h hg hs hv hn; cases p <;> cases hg

def lk (A : List (Nat × Nat)) (j : Nat) : Option Nat := match A with
 | [] => none
 | (k, id) :: r => if k = j then some id else lk r j
theorem lk_mem {A : List (Nat × Nat)} {j id : Nat} (h : lk A j = some id) : (j, id) ∈ A := by
 induction A with
 | nil => cases h
 | cons a r ih =>
  obtain ⟨k, i⟩ := a
  simp only [lk] at h
  split at h
  ·rename_i e; subst e; cases h; exact List.mem_cons_self ..
  ·exact List.mem_cons_of_mem _ (ih h)
theorem lk_of {A : List (Nat × Nat)} (hn : (A.map (·.1)).Nodup) {j id : Nat} (h : (j, id) ∈ A) : lk A j = some id := by
 induction A with
 | nil => cases h
 | cons a r ih =>
  obtain ⟨k, i⟩ := a
  simp only [lk]
  simp only [List.map_cons, List.nodup_cons] at hn
  rcases List.mem_cons.1 h with e | h
  ·cases e; rw [if_pos rfl]
  ·rw [if_neg]; exact ih hn.2 h
   intro e; subst e
   exact hn.1 (List.mem_map.2 ⟨_, h, rfl⟩)
theorem lk_none {A : List (Nat × Nat)} {j : Nat} (h : ∀ id, (j, id) ∉ A) : lk A j = none := by
 cases e : lk A j with
 | none => rfl
 | some id => exact absurd (lk_mem e) (h id)
def absM (m : Mp) (id : Nat) (A : List (Nat × Nat)) : Mp := ⟨fun k => match k with
 | .o i => if i ∈ A.map (·.2) then none else m.ρ (.o i)
 | .n i j => if i = id then (match lk A j with | some i2 => m.ρ (.o i2) | none => m.ρ (.n i j)) else m.ρ (.n i j), m.G, m.μ, m.ν⟩
theorem absM_src {m : Mp} {id : Nat} {A : List (Nat × Nat)} {k : Key} {b : Nat} (h : (absM m id A).ρ k = some b) :
  (m.ρ k = some b ∧ (∀ i, k = .o i → i ∉ A.map (·.2)) ∧ (∀ j, k = .n id j → lk A j = none)) ∨ ∃ j i2, k = .n id j ∧ lk A j = some i2 ∧ m.ρ (.o i2) = some b := by
 cases k with
 | o i =>
  simp only [absM] at h
  split at h
  ·cases h
  ·rename_i hi
   exact .inl ⟨h, fun i' e => (by cases e; exact hi), fun j e => (by cases e)⟩
 | n i j =>
  simp only [absM] at h
  split at h
  ·rename_i e; subst e
   split at h
   ·rename_i i2 hl
    exact .inr ⟨j, i2, rfl, hl, h⟩
   ·rename_i hl
    exact .inl ⟨h, fun i' e => (by cases e), fun j' e => (by cases e; exact hl)⟩
  ·rename_i hne
   exact .inl ⟨h, fun i' e => (by cases e), fun j' e => (by cases e; exact absurd rfl hne)⟩
theorem absM_inj {m : Mp} {os : List TObj} {H : AH} (hR : HR m os H) {id : Nat} {A : List (Nat × Nat)} (hn : (A.map (·.2)).Nodup) {k k' : Key} {b : Nat} (h : (absM m id A).ρ k = some b) (h' : (absM m id A).ρ k' = some b) : k = k' := by
 rcases absM_src h with ⟨a1, a2, a3⟩ | ⟨j, i2, rfl, a2, a3⟩ <;> rcases absM_src h' with ⟨b1, b2, b3⟩ | ⟨j', i2', rfl, b2, b3⟩
 ·exact hR.inj _ _ _ a1 b1
 ·have := hR.inj _ _ _ a1 b3
  exact absurd (List.mem_map.2 ⟨_, lk_mem b2, rfl⟩) (a2 _ this)
 ·have := hR.inj _ _ _ b1 a3
  exact absurd (List.mem_map.2 ⟨_, lk_mem a2, rfl⟩) (b2 _ this)
 ·have := Key.o.inj (hR.inj _ _ _ a3 b3)
  subst this
  have key : ∀ {A : List (Nat × Nat)}, (A.map (·.2)).Nodup → ∀ {x y i : Nat}, (x, i) ∈ A → (y, i) ∈ A → x = y := by
   intro A
   induction A with
   | nil => intro _ x y i hx; cases hx
   | cons a r ih =>
    intro hn x y i hx hy
    simp only [List.map_cons, List.nodup_cons] at hn
    rcases List.mem_cons.1 hx with e | gx <;> rcases List.mem_cons.1 hy with e' | gy
    ·rw [← e'] at e; cases e; rfl
    ·subst e; exact (hn.1 (List.mem_map.2 ⟨(y, i), gy, rfl⟩)).elim
    ·subst e'; exact (hn.1 (List.mem_map.2 ⟨(x, i), gx, rfl⟩)).elim
    ·exact ih hn.2 gx gy
  rw [key hn (lk_mem a2) (lk_mem b2)]

theorem absN_sound {m : Mp} {h : THp} {H : AH} (hR : HR m h.os H) {nt : List Nat} {id i ver : Nat} {w : Bool} {T : Ty} {lT : List T.den} {tid : Nat} {j0 : Nat}
  (hid : (∃ hole ver, h.os[id]? = some (.mat w T lT tid nt ver hole) ∧ j0 = i * T.size) ∨ h.os.length ≤ id) :
  ∀ (t : Ty) (pos : Nat) (cs : List TV) (vs : List Value) (x : t.den) (r : List TV) (k : List Bool) (a : List (Nat × Nat)), absN h nt id i ver t pos cs = some (x, r, k, a) → cOK k → RL m h.os cs vs →
   (∀ p i2, (p, i2) ∈ a → pos ≤ p ∧ p < pos + t.size ∧ ∃ t2 l2 tid2, h.os[i2]? = some (.row true t2 l2 tid2)) ∧ (a.map (·.1)).Nodup ∧
   ∃ v1 v2, vs = v1 ++ v2 ∧ RL m h.os r v2 ∧ v1.length = t.size ∧
   ∀ (m' : Mp) (H' : AH), Gle m.G m'.G → (∀ p i2 b, (p, i2) ∈ a → m.ρ (.o i2) = some b → m'.ρ (.n id (j0 + p)) = some b ∧ H'.get b = H.get b) →
    (∀ p b, pos ≤ p → p < pos + t.size → (∀ i2, (p, i2) ∉ a) → m.ρ (.n id (j0 + p)) = some b → m'.ρ (.n id (j0 + p)) = some b ∧ H'.get b = H.get b) → NC m' H' id j0 nt false t pos x v1 := by
 intro t
 induction t with
 | int kk =>
  intro pos cs vs x r k a he hc hv
  cases cs with
  | nil => cases he
  | cons c cs =>
   cases c with
   | int k' n =>
    simp only [absN] at he
    split at he
    ·rename_i e; subst e
     cases he
     obtain ⟨v, r', rfl, h1, h2⟩ := hv.cons_inv
     cases h1
     exact ⟨fun p i2 hm => (by cases hm), List.nodup_nil, [_], r', rfl, h2, rfl, fun m' H' _ _ _ => rfl⟩
    ·cases he
   | _ => cases he
 | bool =>
  intro pos cs vs x r k a he hc hv
  cases cs with
  | nil => cases he
  | cons c cs =>
   cases c with
   | bool b =>
    cases he
    obtain ⟨v, r', rfl, h1, h2⟩ := hv.cons_inv
    cases h1
    exact ⟨fun p i2 hm => (by cases hm), List.nodup_nil, [_], r', rfl, h2, rfl, fun m' H' _ _ _ => rfl⟩
   | _ => cases he
 | str =>
  intro pos cs vs x r k a he hc hv
  cases cs with
  | nil => cases he
  | cons c cs =>
   cases c with
   | str b =>
    cases he
    obtain ⟨v, r', rfl, h1, h2⟩ := hv.cons_inv
    cases h1
    exact ⟨fun p i2 hm => (by cases hm), List.nodup_nil, [_], r', rfl, h2, rfl, fun m' H' _ _ _ => rfl⟩
   | _ => cases he
 | unit =>
  intro pos cs vs x r k a he hc hv
  have : some ((), cs, ([] : List Bool), ([] : List (Nat × Nat))) = some (x, r, k, a) := by cases cs <;> exact he
  cases this
  exact ⟨fun p i2 hm => (by cases hm), List.nodup_nil, [], vs, rfl, hv, rfl, fun m' H' _ _ _ => rfl⟩
 | pair ta tb iha ihb =>
  intro pos cs vs x r k a he hc hv
  have he' : (match absN h nt id i ver ta pos cs with
   | some (x, r, k1, a1) => match absN h nt id i ver tb (pos + ta.size) r with
    | some (y, r', k2, a2) => some ((x, y), r', k1 ++ k2, a1 ++ a2)
    | none => none
   | none => none) = some (x, r, k, a) := by cases cs <;> exact he
  split at he'
  ·rename_i x1 r1 k1 a1 h1
   split at he'
   ·rename_i y1 r2 k2 a2 h2
    cases he'
    obtain ⟨p1, p2, v1, v2, rfl, p3, p4, p5⟩ := iha _ _ _ _ _ _ _ h1 (fun b hb => hc b (List.mem_append_left _ hb)) hv
    obtain ⟨q1, q2, v3, v4, rfl, q3, q4, q5⟩ := ihb _ _ _ _ _ _ _ h2 (fun b hb => hc b (List.mem_append_right _ hb)) p3
    refine ⟨fun p i2 hm => ?_, ?_, v1 ++ v3, v4, by simp, q3, by simp [Ty.size, p4, q4], fun m' H' hG g1 g2 => ⟨v1, v3, rfl, p5 m' H' hG (fun p i2 b hm => g1 p i2 b (List.mem_append_left _ hm)) fun p b l1 l2 hno => g2 p b l1 (by simp only [Ty.size]; omega) fun i2 hm => ?_, q5 m' H' hG (fun p i2 b hm => g1 p i2 b (List.mem_append_right _ hm)) fun p b l1 l2 hno => g2 p b (by omega) (by simp only [Ty.size]; omega) fun i2 hm => ?_⟩⟩
    ·rcases List.mem_append.1 hm with hm | hm
     ·obtain ⟨a1, a2, a3⟩ := p1 p i2 hm
      exact ⟨a1, by simp only [Ty.size]; omega, a3⟩
     ·obtain ⟨a1, a2, a3⟩ := q1 p i2 hm
      exact ⟨by omega, by simp only [Ty.size]; omega, a3⟩
    ·rw [List.map_append, List.nodup_append]
     refine ⟨p2, q2, fun u hu w hw e => ?_⟩
     obtain ⟨⟨u1, u2⟩, hu', rfl⟩ := List.mem_map.1 hu
     obtain ⟨⟨w1, w2⟩, hw', rfl⟩ := List.mem_map.1 hw
     have := (p1 u1 u2 hu').2.1
     have := (q1 w1 w2 hw').1
     simp only at e
     omega
    ·rcases List.mem_append.1 hm with hm | hm
     ·exact hno i2 hm
     ·have := (q1 _ _ hm).1; omega
    ·rcases List.mem_append.1 hm with hm | hm
     ·have := (p1 _ _ hm).2.1; omega
     ·exact hno i2 hm
   ·cases he'
  ·cases he'
 | st ta ih =>
  intro pos cs vs x r k a he hc hv
  have he' : absN h nt id i ver ta pos cs = some (x, r, k, a) := by cases cs <;> exact he
  exact ih _ _ _ _ _ _ _ he' hc hv
 | slice t ih =>
  intro pos cs vs x r k a he hc hv
  cases cs with
  | nil => cases he
  | cons c cs =>
   obtain ⟨v, r', rfl, h1, h2⟩ := hv.cons_inv
   simp only [absN] at he
   split at he
   ·cases he
    cases h1
    exact ⟨fun p i2 hm => (by cases hm), List.nodup_nil, [_], r', rfl, h2, rfl, fun m' H' _ _ _ => ⟨_, rfl, .inr (.inl ⟨rfl, rfl⟩)⟩⟩
   ·rename_i id2
    split at he
    ·rename_i t' l' tid' hat
     split at he
     ·rename_i ht
      split at he
      ·rename_i l2 hl2
       cases he
       obtain ⟨e, hl2⟩ := castL_some hl2
       cases e; subst hl2
       have ho := at_some hat (by simp)
       refine ⟨fun p i2 hm => ?_, by simp, [_], r', rfl, h2, rfl, fun m' H' hG g1 g2 => ⟨_, rfl, .inr ?_⟩⟩
       ·simp only [List.mem_singleton, Prod.mk.injEq] at hm
        obtain ⟨rfl, rfl⟩ := hm
        exact ⟨Nat.le_refl _, by simp [Ty.size], _, _, _, ho⟩
       ·cases h1 with
        | own _ _ hx =>
        unfold OwnR at hx
        rw [ho] at hx
        rcases hx with ⟨-, e1, e2⟩ | ⟨b, hb, e2⟩
        ·exact .inl ⟨e2, e1⟩
        ·rcases hR.obj _ _ ho with ⟨q1, -⟩ | ⟨b', cc, q1, q2, q3, q4⟩
         ·rw [hb] at q1; cases q1
         ·rw [hb] at q1; cases q1
          obtain ⟨z1, z2⟩ := g1 pos id2 b (by simp) hb
          exact .inr ⟨b, cc, z1, e2, by rw [z2, q2, ht], q3, q4.mono (DC.mono hG _)⟩
      ·cases he
     ·cases he
    ·cases he
   ·rename_i id' i' pos' ver' ct
    split at he
    ·rename_i hq
     obtain ⟨rfl, rfl, rfl⟩ := hq
     split at he
     ·rename_i u cc hg
      split at he
      ·rename_i l2 hl2
       cases he
       obtain ⟨e, hl2⟩ := castL_some hl2
       cases e; subst hl2
       have hii : i' = i := by simpa using hc.head
       subst hii
       obtain ⟨w2, T2, l3, tid3, nt3, ho, hi, hp, hns, -⟩ := nestOf_sound hR h1 hg
       rcases hid with ⟨hole2, ver2, ho2, rfl⟩ | hlen
       ·rw [ho2] at ho; cases ho
        refine ⟨fun p i2 hm => (by cases hm), List.nodup_nil, [_], r', rfl, h2, rfl, fun m' H' hG g1 g2 => ⟨_, rfl, .inr ?_⟩⟩
        rcases hns with hns | ⟨b, c2, q1, q2, q3, q4, q5⟩
        ·exact .inl hns
        ·obtain ⟨z1, z2⟩ := g2 pos' b (Nat.le_refl _) (by simp [Ty.size]) (fun _ hm => by cases hm) q1
         exact .inr ⟨b, c2, z1, q2, z2.trans q3, q4, q5.mono (DC.mono hG _)⟩
       ·rw [List.getElem?_eq_none hlen] at ho; cases ho
      ·cases he
     ·cases he
    ·cases he
   ·cases he
theorem splice_len {c vs : List Value} {o : Nat} (h : o + vs.length ≤ c.length) : (splice c o vs).length = c.length := by simp [splice]; omega
theorem splice_other {c vs : List Value} {i sz off j : Nat} (hf : off + vs.length ≤ sz) (hc : i * sz + sz ≤ c.length) (hj : j * sz + sz ≤ c.length) (hne : j ≠ i) :
  ((splice c (i * sz + off) vs).drop (j * sz)).take sz = (c.drop (j * sz)).take sz := by
 apply List.ext_getElem?
 intro k
 by_cases hk : k < sz
 ·rw [List.getElem?_take_of_lt hk, List.getElem?_take_of_lt hk, List.getElem?_drop, List.getElem?_drop]
  unfold splice
  rcases Nat.lt_or_gt_of_ne hne with hlt | hgt
  ·have := mul_succ_le (sz := sz) hlt
   rw [List.append_assoc, List.getElem?_append_left (by simp; omega), List.getElem?_take_of_lt (by omega)]
  ·have := mul_succ_le (sz := sz) hgt
   rw [List.getElem?_append_right (by simp; omega), List.getElem?_drop]
   congr 1
   simp; omega
 ·rw [List.getElem?_eq_none (by simp; omega), List.getElem?_eq_none (by simp; omega)]
theorem splice_here {c vs : List Value} {i sz off : Nat} (hf : off + vs.length ≤ sz) (hc : i * sz + sz ≤ c.length) :
  ((splice c (i * sz + off) vs).drop (i * sz)).take sz = splice ((c.drop (i * sz)).take sz) off vs := by
 apply List.ext_getElem?
 intro k
 by_cases hk : k < sz
 ·rw [List.getElem?_take_of_lt hk, List.getElem?_drop]
  unfold splice
  by_cases h1 : k < off
  ·rw [List.append_assoc, List.getElem?_append_left (by simp; omega), List.getElem?_take_of_lt (by omega), List.append_assoc, List.getElem?_append_left (by simp; omega), List.getElem?_take_of_lt h1, List.getElem?_take_of_lt hk, List.getElem?_drop]
  ·by_cases h2 : k < off + vs.length
   ·rw [List.getElem?_append_left (by simp; omega), List.getElem?_append_right (by simp; omega), List.getElem?_append_left (by simp; omega), List.getElem?_append_right (by simp; omega)]
    congr 1
    simp; omega
   ·rw [List.getElem?_append_right (by simp; omega), List.getElem?_append_right (by simp; omega), List.getElem?_drop, List.getElem?_drop, List.getElem?_take_of_lt (by simp; omega), List.getElem?_drop]
    congr 1
    simp; omega
 ·rw [List.getElem?_eq_none (by simp; omega), List.getElem?_eq_none (by simp [splice]; omega)]
theorem killN_dirty : ∀ (ids : List Nat) (h : THp), (killN h ids).dirty = ids.reverse ++ h.dirty := by
 intro ids
 induction ids with
 | nil => intro h; rfl
 | cons x r ih => intro h; simp only [killN, ih, THp.set, List.reverse_cons, List.append_assoc]; rfl
theorem killN_len : ∀ (ids : List Nat) (h : THp), (killN h ids).os.length = h.os.length := by
 intro ids
 induction ids with
 | nil => intro h; rfl
 | cons x r ih => intro h; simp only [killN, ih, THp.set, List.length_set]
theorem killN_in : ∀ (ids : List Nat) (h : THp) (j : Nat), j ∈ ids → j < h.os.length → (killN h ids).os[j]? = some .dead := by
 intro ids
 induction ids with
 | nil => intro h j hj; cases hj
 | cons x r ih =>
  intro h j hj hl
  simp only [killN]
  by_cases hr : j ∈ r
  ·exact ih _ _ hr (by simpa [THp.set] using hl)
  ·have : j = x := (List.mem_cons.1 hj).resolve_right hr
   subst this
   have key : ∀ (r : List Nat) (h : THp), j ∉ r → (killN h r).os[j]? = h.os[j]? := by
    intro r
    induction r with
    | nil => intro h _; rfl
    | cons y r ih2 =>
     intro h hn
     simp only [List.mem_cons, not_or] at hn
     simp only [killN]
     rw [ih2 _ hn.2]
     simp only [THp.set]
     rw [List.getElem?_set_ne (fun e => hn.1 e.symm)]
   rw [key r _ hr]
   simp [THp.set, hl]
theorem killN_out : ∀ (ids : List Nat) (h : THp) (j : Nat), j ∉ ids → (killN h ids).os[j]? = h.os[j]? := by
 intro ids
 induction ids with
 | nil => intro h j _; rfl
 | cons y r ih2 =>
  intro h j hn
  simp only [List.mem_cons, not_or] at hn
  simp only [killN]
  rw [ih2 _ _ hn.2]
  simp only [THp.set]
  rw [List.getElem?_set_ne (fun e => hn.1 e.symm)]
theorem nodupN_nodup' : ∀ {l : List Nat}, nodupN l = true → l.Nodup := by
 intro l
 induction l with
 | nil => intro _; exact List.nodup_nil
 | cons x r ih =>
  intro h
  simp only [nodupN, Bool.and_eq_true, Bool.not_eq_true'] at h
  exact List.nodup_cons.2 ⟨by simpa using h.1, ih h.2⟩
theorem nodup_map_inj {α β : Type} {f : α → β} : ∀ {l : List α}, (∀ x ∈ l, ∀ y ∈ l, f x = f y → x = y) → l.Nodup → (l.map f).Nodup := by
 intro l
 induction l with
 | nil => intro _ _; exact List.nodup_nil
 | cons a r ih =>
  intro hf hn
  rw [List.nodup_cons] at hn
  rw [List.map_cons, List.nodup_cons]
  refine ⟨fun hm => ?_, ih (fun x hx y hy => hf x (List.mem_cons_of_mem _ hx) y (List.mem_cons_of_mem _ hy)) hn.2⟩
  obtain ⟨x, hx, e⟩ := List.mem_map.1 hm
  have := hf x (List.mem_cons_of_mem _ hx) a (List.mem_cons_self ..) e
  subst this
  exact hn.1 hx
theorem absV_some {h : THp} {nt : List Nat} {id i ver : Nat} {t : Ty} {cs : List TV} {x : t.den} {k : List Bool} {a : List (Nat × Nat)} (e : absV h nt id i ver t cs = some (x, k, a)) : absN h nt id i ver t 0 cs = some (x, [], k, a) := by
 unfold absV at e
 split at e
 ·rename_i h1; cases e; exact h1
 ·cases e
theorem mstore_sound {m : Mp} {h : THp} {H : AH} (hR : HR m h.os H) {id i off : Nat} {T : Ty} {l : List T.den} {tid : Nat} {nt : List Nat} {ver : Nat} {hole : Option Nat} (ho : h.os[id]? = some (.mat true T l tid nt ver hole))
  {b : Nat} (hb : m.ρ id = some b) (hi : i < m.ν id) {vt : List TV} {vs : List Value} (hv : RL m h.os vt vs) (hoff : off + vs.length ≤ T.size) (hhole : hole = none ∨ vt.length = T.size)
  {x : T.den} {k : List Bool} {a : List (Nat × Nat)} (habs : absV h nt id i ver T (spliceT (cellsN id i ver T 0 (rd l i T.dflt)) off vt) = some (x, k, a)) (hc : cOK k) (hck : ∀ i0, hole = some i0 → i0 = i) (hnd : nodupN (id :: a.map (·.2)) = true) :
  ∃ cc, H.get b = .cells cc true T.size tid ∧ i * T.size + T.size ≤ cc.length ∧
  ∃ m', HR m' ((killN h (a.map (·.2))).set id (.mat true T (put l i x) tid nt (ver + 1) none)).os (H.set b (.cells (splice cc (i * T.size + off) vs) true T.size tid)) ∧
   Ext m h H m' ((killN h (a.map (·.2))).set id (.mat true T (put l i x) tid nt (ver + 1) none)) (H.set b (.cells (splice cc (i * T.size + off) vs) true T.size tid)) := by
 have hMR : MR m H id T l tid nt hole := hR.obj id _ ho
 obtain ⟨hl, b', cc, e1, e2, e3, e4, e5, e6⟩ := MR.at hMR hi
 rw [hb] at e1; cases e1
 refine ⟨cc, e3, e5, ?_⟩
 have hid := (List.getElem?_eq_some_iff.1 ho).1
 have hchl : ((cc.drop (i * T.size)).take T.size).length = T.size := by simp; omega
 have hsp : RL m h.os (spliceT (cellsN id i ver T 0 (rd l i T.dflt)) off vt) (splice ((cc.drop (i * T.size)).take T.size) off vs) := by
  by_cases hn : hole = none
  ·subst hn
   refine spliceT_rl (NC.rl ho hi e2 T 0 _ _ e6 (by omega) fun k hk => ?_) hv off
   rw [hchl] at hk
   rw [List.getElem?_take_of_lt hk, List.getElem?_drop]
   congr 1; omega
  ·have hT := hhole.resolve_left hn
   have h0 : off = 0 := by have := hv.1; omega
   subst h0
   have c1 : (cellsN id i ver T 0 (rd l i T.dflt)).length = T.size := by
    have : ∀ (t : Ty) (pos : Nat) (x : t.den), (cellsN id i ver t pos x).length = t.size := by
     intro t
     induction t with
     | pair a b iha ihb => intro pos x; simp only [cellsN, List.length_append, iha, ihb]; rfl
     | st a ih => intro pos x; exact ih pos x
     | _ => intro pos x; rfl
    exact this _ _ _
   have s1 : spliceT (cellsN id i ver T 0 (rd l i T.dflt)) 0 vt = vt := by
    unfold spliceT
    rw [List.drop_eq_nil_of_le (by rw [c1, hT]; omega)]; simp
   have s2 : splice ((cc.drop (i * T.size)).take T.size) 0 vs = vs := by
    have e0 : ((cc.drop (i * T.size)).take T.size).drop (0 + vs.length) = [] := List.drop_eq_nil_of_le (by rw [hchl]; have := hv.1; omega)
    unfold splice
    rw [e0]; simp
   rw [s1, s2]; exact hv
 obtain ⟨p1, p2, v1, v2, hvs, p3, p4, p5⟩ := absN_sound hR (j0 := i * T.size) (.inl ⟨hole, ver, ho, rfl⟩) T 0 _ _ _ _ _ _ (absV_some habs) hc hsp
 have := p3.nil_inv; subst this
 rw [List.append_nil] at hvs
 have hnd' := nodupN_nodup' hnd
 rw [List.nodup_cons] at hnd'
 obtain ⟨hidn, hnd2⟩ := hnd'
 have hA2 : (a.map fun p => (i * T.size + p.1, p.2)).map (·.2) = a.map (·.2) := by simp [List.map_map, Function.comp_def]
 have hA1 : ((a.map fun p => (i * T.size + p.1, p.2)).map (·.1)).Nodup := by
  rw [List.map_map]
  have : (a.map (·.1)).map (fun p => i * T.size + p) = a.map ((fun p : Nat × Nat => p.1) ∘ fun p => (i * T.size + p.1, p.2)) := by simp [List.map_map, Function.comp_def]
  rw [← this]
  exact nodup_map_inj (fun x _ y _ e => by omega) p2
 have lkA : ∀ p i2, (p, i2) ∈ a → lk (a.map fun p => (i * T.size + p.1, p.2)) (i * T.size + p) = some i2 := fun p i2 hm => lk_of hA1 (List.mem_map.2 ⟨(p, i2), hm, rfl⟩)
 have lkN : ∀ j, (∀ p i2, (p, i2) ∈ a → j ≠ i * T.size + p) → lk (a.map fun p => (i * T.size + p.1, p.2)) j = none := fun j hj => lk_none fun i2 hm => by
  obtain ⟨⟨p, i3⟩, hm, e⟩ := List.mem_map.1 hm
  simp only [Prod.mk.injEq] at e
  exact hj p i3 hm e.1.symm
 generalize hAdef : (a.map fun p => (i * T.size + p.1, p.2)) = A at hA1 hA2 lkA lkN
 let m' : Mp := ⟨(absM m id A).ρ, m.G, fun q => if q = id then some (splice cc (i * T.size + off) vs) else m.μ q, m.ν⟩
 have hρid : m'.ρ id = some b := by
  show (if id ∈ A.map (·.2) then none else m.ρ (.o id)) = some b
  rw [hA2, if_neg hidn]; exact hb
 have hρn : ∀ j i2, lk A j = some i2 → m'.ρ (.n id j) = m.ρ (.o i2) := fun j i2 e => by
  show (if id = id then (match lk A j with | some i2 => m.ρ (.o i2) | none => m.ρ (.n id j)) else m.ρ (.n id j)) = _
  rw [if_pos rfl, e]
 have hρo : ∀ j, lk A j = none → m'.ρ (.n id j) = m.ρ (.n id j) := fun j e => by
  show (if id = id then (match lk A j with | some i2 => m.ρ (.o i2) | none => m.ρ (.n id j)) else m.ρ (.n id j)) = _
  rw [if_pos rfl, e]
 have hget : ∀ c, c ≠ b → (H.set b (.cells (splice cc (i * T.size + off) vs) true T.size tid)).get c = H.get c := fun c hc => by rw [AH.get_set, if_neg (fun e => hc e.symm)]
 have hrow : ∀ i2, i2 ∈ a.map (·.2) → ∃ t2 l2 tid2, h.os[i2]? = some (.row true t2 l2 tid2) := fun i2 hm => by
  obtain ⟨⟨p, i3⟩, hm', rfl⟩ := List.mem_map.1 hm
  exact (p1 p i3 hm').2.2
 have hS : ∀ q, q ∈ id :: (a.map (·.2)).reverse ↔ q = id ∨ q ∈ a.map (·.2) := fun q => by simp
 have hcl : (splice cc (i * T.size + off) vs).length = cc.length := splice_len (by omega)
 have key := rework (m' := m') (os' := ((killN h (a.map (·.2))).set id (.mat true T (put l i x) tid nt (ver + 1) none)).os) (H' := H.set b (.cells (splice cc (i * T.size + off) vs) true T.size tid)) hR (id :: (a.map (·.2)).reverse)
  (by simp [THp.set, killN_len])
  (fun q hq hn => by
   rw [hS] at hn
   simp only [THp.set]
   rw [List.getElem?_set_ne (fun e => hn (.inl e.symm)), killN_out _ _ _ fun w => hn (.inr w)])
  (fun kk hk hn => by
   rw [hS] at hn
   cases kk with
   | o q =>
    have hn' : ¬ (q = id ∨ q ∈ a.map (·.2)) := hn
    show (if q ∈ A.map (·.2) then none else m.ρ (.o q)) = _
    rw [hA2, if_neg fun w => hn' (.inr w)]
   | n q j =>
    have hn' : ¬ (q = id ∨ q ∈ a.map (·.2)) := hn
    show (if q = id then _ else m.ρ (.n q j)) = _
    rw [if_neg fun w => hn' (.inl w)])
  (fun q hq hn => by
   rw [hS] at hn
   exact ⟨if_neg fun w => hn (.inl w), rfl⟩)
  rfl
  (fun kk d hd => by
   simp only [THp.set, List.length_set, killN_len]
   rcases absM_src (m := m) (id := id) (A := A) hd with ⟨q1, q2, q3⟩ | ⟨j, i2, rfl, q2, q3⟩
   ·refine ⟨(hR.lt _ _ q1).2, ?_⟩
    by_cases w : kk.top ∈ id :: (a.map (·.2)).reverse
    ·exact .inr (.inl ⟨kk, w, q1⟩)
    ·exact .inl ⟨(hR.lt _ _ q1).2, w⟩
   ·refine ⟨hid, .inr (.inl ⟨.o i2, ?_, q3⟩)⟩
    rw [hS]; right
    rw [← hA2]
    exact List.mem_map.2 ⟨_, lk_mem q2, rfl⟩)
  (fun kk kk' d _ _ g1 g2 => absM_inj hR (by rw [hA2]; exact hnd2) g1 g2)
  (Nat.le_refl _)
  (fun c hc hno => hget c fun e => hno (.o id) (List.mem_cons_self ..) (by rw [e]; exact hb))
  (fun q hq o hoq => by
   rw [hS] at hq
   by_cases e : q = id
   ·subst e
    rw [ho] at hoq; cases hoq
    refine ⟨.inl ⟨_, rfl⟩, _, by simp only [THp.set]; rw [List.getElem?_set_self (by rw [killN_len]; exact hid)], .inr ⟨rfl, .inl ⟨put l i x, ver + 1, none, rfl, by simp [put], by omega⟩⟩, .inr ⟨⟨_, rfl⟩, ⟨_, rfl⟩, hρid.trans hb.symm, rfl, fun e => ?_⟩⟩
    simp [matI] at e
   ·have hq2 := hq.resolve_left e
    obtain ⟨t2, l2, tid2, hrw⟩ := hrow q hq2
    rw [hrw] at hoq; cases hoq
    refine ⟨.inr ⟨_, _, _, rfl⟩, .dead, by simp only [THp.set]; rw [List.getElem?_set_ne (fun w => e w.symm)]; exact killN_in _ _ _ hq2 (List.getElem?_eq_some_iff.1 hrw).1, .inr ⟨rfl, .inr (.inl rfl)⟩, .inl rfl⟩)
  (fun hm q o' hoq hq => by
   by_cases e : q = id
   ·subst e
    simp only [THp.set] at hoq
    rw [List.getElem?_set_self (by rw [killN_len]; exact hid)] at hoq
    cases hoq
    refine ⟨by simp only [put, List.length_set]; exact hMR.1, .inr ⟨b, splice cc (i * T.size + off) vs, hρid, if_pos rfl, by rw [AH.get_set, if_pos rfl], by rw [hcl]; simpa [put] using e4, fun j hj => ?_⟩⟩
    have hj' : j < l.length := by simpa [put] using hj
    have hjl := mul_succ_le (sz := T.size) hj'
    by_cases ej : j = i
    ·subst ej
     rw [splice_here hoff e5, hvs]
     have : (put l j x)[j] = x := by simp [put]
     rw [this]
     refine p5 m' _ (Gle.refl _) (fun p i2 d hma hd => ⟨(hρn _ _ (lkA p i2 hma)).trans hd, hget d fun w => ?_⟩) (fun p d _ hp2 hno hd => ⟨(hρo _ (lkN _ fun p' i2 hm w => ?_)).trans hd, hget d fun w => ?_⟩)
     ·subst w
      have := Key.o.inj (hR.inj _ _ _ hd hb)
      subst this
      exact hidn (List.mem_map.2 ⟨(p, i2), hma, rfl⟩)
     ·have : p = p' := by omega
      subst this; exact hno i2 hm
     ·subst w
      have := hR.inj _ _ _ hd hb
      cases this
    ·rw [splice_other hoff e5 (by omega) ej]
     have : (put l i x)[j] = l[j] := by simp [put, List.getElem_set_ne (fun q => ej q.symm)]
     rw [this]
     obtain ⟨-, b2, c2, f1, f2, f3, f4, f5, f6⟩ := MR.at hMR (i := j) (by rw [← hMR.1]; exact hj')
     rw [e2] at f2; cases f2
     rw [rd_eq hj'] at f6
     refine NC.map (m := m) (m' := m') (Gle.refl _) (fun w => ?_) _ _ _ _ (fun p d _ hp2 hd => ⟨(hρo _ (lkN _ fun p' i2 hm w => ?_)).trans hd, hget d fun w => ?_⟩) f6
     ·have : hole = some j := by simpa using w
      exact absurd (hck _ this) ej
     ·have := (p1 p' i2 hm).2.1
      simp only [Nat.zero_add] at hp2 this
      rcases Nat.lt_or_gt_of_ne ej with g | g
      ·have := mul_succ_le (sz := T.size) g; omega
      ·have := mul_succ_le (sz := T.size) g; omega
     ·subst w
      have := hR.inj _ _ _ hd hb
      cases this
   ·have hq2 : q ∈ a.map (·.2) := by
     rcases hq with hq | hq
     ·rw [hS] at hq; exact hq.resolve_left e
     ·have := (List.getElem?_eq_some_iff.1 hoq).1
      simp only [THp.set, List.length_set, killN_len] at this
      omega
    simp only [THp.set] at hoq
    rw [List.getElem?_set_ne (fun w => e w.symm), killN_in _ _ _ hq2 (by obtain ⟨_, _, _, hrw⟩ := hrow q hq2; exact (List.getElem?_eq_some_iff.1 hrw).1)] at hoq
    cases hoq; trivial)
 refine ⟨m', key.1, ?_⟩
 have hd : (id :: (a.map (·.2)).reverse) ++ h.dirty = ((killN h (a.map (·.2))).set id (.mat true T (put l i x) tid nt (ver + 1) none)).dirty := by
  simp only [THp.set, killN_dirty]; rfl
 have := key.2
 rw [hd] at this
 exact this
theorem mstore2_sound {m : Mp} {h : THp} {H : AH} (hR : HR m h.os H) {id i pos : Nat} {T : Ty} {l : List T.den} {tid : Nat} {nt : List Nat} {ver : Nat} (ho : h.os[id]? = some (.mat true T l tid nt ver none))
  (hi : i < m.ν id) (hp : pos < T.size) {u : Ty} {c c' : List u.den} (hg : getN T pos (rd l i T.dflt) = some ⟨u, c⟩) {y : T.den} (hs : setN T pos u c' (rd l i T.dflt) = some y) (hlen : c'.length = c.length)
  {b2 : Nat} (hb2 : m.ρ (.n id (i * T.size + pos)) = some b2) {cc : List Value} {z : Nat} (hcc : m.μ id = some cc) (hcell : cc[i * T.size + pos]? = some (.slice (some ⟨b2, 0, none⟩) c.length z)) (hz : z = u.size)
  {c2 : List Value} (hc2 : c'.length * u.size ≤ c2.length) (hrows : Rows (DC m.G u) u.size c2 c') :
  HR m (h.set id (.mat true T (put l i y) tid nt ver none)).os (H.set b2 (.cells c2 true u.size (nt.getD pos 0))) ∧ Ext m h H m (h.set id (.mat true T (put l i y) tid nt ver none)) (H.set b2 (.cells c2 true u.size (nt.getD pos 0))) := by
 have hMR : MR m H id T l tid nt none := hR.obj id _ ho
 obtain ⟨hl, b, cc', e1, e2, e3, e4, e5, e6⟩ := MR.at hMR hi
 rw [hcc] at e2; cases e2
 have hid := (List.getElem?_eq_some_iff.1 ho).1
 have hget : ∀ d, d ≠ b2 → (H.set b2 (.cells c2 true u.size (nt.getD pos 0))).get d = H.get d := fun d hd => by rw [AH.get_set, if_neg (fun e => hd e.symm)]
 have hne : ∀ (k : Key) d, m.ρ k = some d → k ≠ .n id (i * T.size + pos) → d ≠ b2 := fun k d hk hn e => by subst e; exact hn (hR.inj _ _ _ hk hb2)
 have key := rework (m' := m) (os' := (h.set id (.mat true T (put l i y) tid nt ver none)).os) (H' := H.set b2 (.cells c2 true u.size (nt.getD pos 0))) hR [id]
  (by simp [THp.set])
  (fun q hq hn => by simp only [THp.set]; rw [List.getElem?_set_ne (fun e => hn (by simp [e]))])
  (fun _ _ _ => rfl) (fun _ _ _ => ⟨rfl, rfl⟩) rfl
  (fun k d hd => by
   refine ⟨by simpa [THp.set] using (hR.lt _ _ hd).2, ?_⟩
   by_cases w : k.top ∈ [id]
   ·exact .inr (.inl ⟨k, w, hd⟩)
   ·exact .inl ⟨(hR.lt _ _ hd).2, w⟩)
  (fun k k' d _ _ g1 g2 => hR.inj _ _ _ g1 g2)
  (Nat.le_refl _)
  (fun d hd hno => hget d fun e => hno (.n id (i * T.size + pos)) (by simp [Key.top]) (by rw [e]; exact hb2))
  (fun q hq o hoq => by
   simp at hq; subst hq
   rw [ho] at hoq; cases hoq
   exact ⟨.inl ⟨_, rfl⟩, _, by simp [THp.set, hid], .inr ⟨rfl, .inl ⟨put l i y, ver, none, rfl, by simp [put], Nat.le_refl _⟩⟩, .inr ⟨⟨_, rfl⟩, ⟨_, rfl⟩, rfl, rfl, fun _ => rfl⟩⟩)
  (fun hm q o' hoq hq => by
   by_cases e : q = id
   ·subst e
    simp only [THp.set] at hoq
    rw [List.getElem?_set_self hid] at hoq
    cases hoq
    refine ⟨by simp only [put, List.length_set]; exact hMR.1, .inr ⟨b, cc, e1, hcc, by rw [hget b (hne _ _ e1 (fun w => by cases w))]; exact e3, by simpa [put] using e4, fun j hj => ?_⟩⟩
    have hj' : j < l.length := by simpa [put] using hj
    by_cases ej : j = i
    ·subst ej
     have : (put l j y)[j] = y := by simp [put]
     rw [this]
     refine NC.set (m := m) (H := H) (Gle.refl _) T 0 pos _ y _ u c c' (.slice (some ⟨b2, 0, none⟩) c.length z) (fun p d _ hp2 hpne hd => ⟨hd, hget d (hne _ _ hd fun w => ?_)⟩) e6 hg hs ?_ (.inr ⟨b2, c2, by simpa using hb2, by rw [hlen, hz], by simp [AH.get_set], hc2, hrows⟩)
     ·simp only [Key.n.injEq, true_and] at w; omega
     ·rw [List.getElem?_take_of_lt hp, List.getElem?_drop]; exact hcell
    ·have : (put l i y)[j] = l[j] := by simp [put, List.getElem_set_ne (fun q => ej q.symm)]
     rw [this]
     obtain ⟨-, b3, c3, f1, f2, f3, f4, f5, f6⟩ := MR.at hMR (i := j) (by rw [← hMR.1]; exact hj')
     rw [hcc] at f2; cases f2
     rw [rd_eq hj'] at f6
     refine NC.map (m := m) (m' := m) (Gle.refl _) (fun w => w) _ _ _ _ (fun p d _ hp2 hd => ⟨hd, hget d (hne _ _ hd fun w => ?_)⟩) f6
     simp only [Key.n.injEq, true_and, Nat.zero_add] at w hp2
     rcases Nat.lt_or_gt_of_ne ej with g | g
     ·have := mul_succ_le (sz := T.size) g; omega
     ·have := mul_succ_le (sz := T.size) g; omega
   ·rcases hq with hq | hq
    ·simp at hq; exact absurd hq e
    ·have := (List.getElem?_eq_some_iff.1 hoq).1
     simp only [THp.set, List.length_set] at this
     omega)
 exact key
theorem mpush_sound {m : Mp} {h : THp} {H H' : AH} (hR : HR m h.os H) (S : List Nat) {T : Ty} {l : List T.den} {e : Nat} {nt : List Nat} {ver : Nat} (hver : ver = 0) (r : Option Nat) (f : Nat → Option Nat) (cc : List Value)
  (hS : ∀ i ∈ S, ∃ o, h.os[i]? = some o ∧ ((∃ t l tid, o = .row true t l tid) ∨ ∃ t l tid nt ver hole, o = .mat true t l tid nt ver hole))
  (hn : H.next ≤ H'.next) (hH : ∀ c, c < H.next → (∀ k0 : Key, k0.top ∈ S → m.ρ k0 ≠ some c) → H'.get c = H.get c)
  (hr : ∀ b, r = some b → ((∃ k0 : Key, k0.top ∈ S ∧ m.ρ k0 = some b) ∨ (H.next ≤ b ∧ b < H'.next)) ∧ ∀ j, f j ≠ some b)
  (hf : ∀ j b, f j = some b → (∃ k0 : Key, k0.top ∈ S ∧ m.ρ k0 = some b) ∨ (H.next ≤ b ∧ b < H'.next)) (hfi : ∀ j j' b, f j = some b → f j' = some b → j = j')
  (hM : ∀ m' : Mp, m'.ρ h.os.length = r → (∀ j, m'.ρ (.n h.os.length j) = f j) → m'.G = m.G → m'.μ h.os.length = some cc → m'.ν h.os.length = l.length → MR m' H' h.os.length T l e nt none) :
  ∃ m', HR m' ((killN h S).push (.mat true T l e nt 0 none)).os H' ∧ Ext m h H m' ((killN h S).push (.mat true T l e nt 0 none)) H' ∧ m'.ρ h.os.length = r ∧ m'.ν h.os.length = l.length ∧ m'.G = m.G := by
 let n := h.os.length
 have hlen := killN_len S h
 let m' : Mp := ⟨fun k => match k with
  | .o i => if i = n then r else if i ∈ S then none else m.ρ (.o i)
  | .n i j => if i = n then f j else if i ∈ S then none else m.ρ (.n i j), m.G, fun q => if q = n then some cc else m.μ q, fun q => if q = n then l.length else m.ν q⟩
 have hSlt : ∀ i ∈ S, i < n := fun i hi => by obtain ⟨o, h1, -⟩ := hS i hi; exact (List.getElem?_eq_some_iff.1 h1).1
 have same : ∀ k : Key, k.top < n → k.top ∉ S → m'.ρ k = m.ρ k := fun k h1 h2 => by
  cases k with
  | o i =>
   have h1' : i < n := h1
   have h2' : i ∉ S := h2
   show (if i = n then r else if i ∈ S then none else m.ρ (.o i)) = _
   rw [if_neg (by omega), if_neg h2']
  | n i j =>
   have h1' : i < n := h1
   have h2' : i ∉ S := h2
   show (if i = n then f j else if i ∈ S then none else m.ρ (.n i j)) = _
   rw [if_neg (by omega), if_neg h2']
 have gone : ∀ k : Key, k.top ∈ S → m'.ρ k = none := fun k h2 => by
  have h1 := hSlt _ h2
  cases k with
  | o i =>
   have h1' : i < n := h1
   have h2' : i ∈ S := h2
   show (if i = n then r else if i ∈ S then none else m.ρ (.o i)) = _
   rw [if_neg (by omega), if_pos h2']
  | n i j =>
   have h1' : i < n := h1
   have h2' : i ∈ S := h2
   show (if i = n then f j else if i ∈ S then none else m.ρ (.n i j)) = _
   rw [if_neg (by omega), if_pos h2']
 have new0 : m'.ρ (.o n) = r := if_pos rfl
 have newj : ∀ j, m'.ρ (.n n j) = f j := fun j => if_pos rfl
 have big : ∀ k : Key, n < k.top → m'.ρ k = none := fun k hk => by
  have hno : m.ρ k = none := hR.fresh (Nat.le_of_lt hk)
  cases k with
  | o i =>
   have hk' : n < i := hk
   show (if i = n then r else if i ∈ S then none else m.ρ (.o i)) = _
   rw [if_neg (by omega)]; split <;> first | rfl | exact hno
  | n i j =>
   have hk' : n < i := hk
   show (if i = n then f j else if i ∈ S then none else m.ρ (.n i j)) = _
   rw [if_neg (by omega)]; split <;> first | rfl | exact hno
 have osS : ∀ i ∈ S, ((killN h S).push (.mat true T l e nt 0 none)).os[i]? = some .dead := fun i hi => by
  simp only [THp.push]
  rw [List.getElem?_append_left (by rw [hlen]; exact hSlt i hi)]
  exact killN_in _ _ _ hi (hSlt i hi)
 have osn : ((killN h S).push (.mat true T l e nt 0 none)).os[n]? = some (.mat true T l e nt 0 none) := by
  simp only [THp.push]
  rw [← show (killN h S).os.length = n from hlen, List.getElem?_concat_length]
 have key := rework (m' := m') (os' := ((killN h S).push (.mat true T l e nt 0 none)).os) (H' := H') hR S.reverse
  (by simp [THp.push, hlen])
  (fun q hq hnS => by
   simp only [THp.push]
   rw [List.getElem?_append_left (by rw [hlen]; exact hq), killN_out _ _ _ (by simpa using hnS)])
  (fun k h1 h2 => same k h1 (by simpa using h2))
  (fun q hq hnS => ⟨if_neg (by have : q < n := hq; omega), if_neg (by have : q < n := hq; omega)⟩)
  rfl
  (fun k d hd => by
   have hle : k.top ≤ n := Nat.le_of_not_lt fun w => by rw [big k w] at hd; cases hd
   refine ⟨by simp only [THp.push, List.length_append, hlen, List.length_singleton]; omega, ?_⟩
   by_cases hk : k.top = n
   ·right
    simp only [List.mem_reverse]
    cases k with
    | o i =>
     have : i = n := hk
     subst this
     rw [new0] at hd
     exact (hr _ hd).1
    | n i j =>
     have : i = n := hk
     subst this
     rw [newj] at hd
     exact hf _ _ hd
   ·by_cases hkS : k.top ∈ S
    ·rw [gone k hkS] at hd; cases hd
    ·exact .inl ⟨by omega, by simpa using hkS⟩)
  (fun k k' d g1 g2 hd hd' => by
   have top : ∀ k : Key, m'.ρ k = some d → (k.top ∈ S.reverse ∨ h.os.length ≤ k.top) → k.top = n := fun k hd g => by
    rcases g with g | g
    ·rw [gone k (by simpa using g)] at hd; cases hd
    ·have hle : k.top ≤ n := Nat.le_of_not_lt fun w => by rw [big k w] at hd; cases hd
     exact Nat.le_antisymm hle g
   have t1 := top k hd g1
   have t2 := top k' hd' g2
   cases k with
   | o i =>
    cases (show i = n from t1)
    cases k' with
    | o i' => cases (show i' = n from t2); rfl
    | n i' j' =>
     cases (show i' = n from t2)
     rw [new0] at hd; rw [newj] at hd'
     exact absurd hd' ((hr _ hd).2 j')
   | n i j =>
    cases (show i = n from t1)
    cases k' with
    | o i' =>
     cases (show i' = n from t2)
     rw [newj] at hd; rw [new0] at hd'
     exact absurd hd ((hr _ hd').2 j)
    | n i' j' =>
     cases (show i' = n from t2)
     rw [newj] at hd hd'
     rw [hfi _ _ _ hd hd'])
  hn (fun c hc hno => hH c hc fun k0 hk => hno k0 (by simpa using hk))
  (fun q hq o hoq => by
   have hq' : q ∈ S := by simpa using hq
   obtain ⟨o1, h1, h2⟩ := hS q hq'
   rw [hoq] at h1; cases h1
   refine ⟨?_, .dead, osS q hq', ?_, .inl rfl⟩
   ·rcases h2 with ⟨t, l, tid, rfl⟩ | ⟨t, l, tid, nt, ver, hole, rfl⟩
    ·exact .inr ⟨_, _, _, rfl⟩
    ·exact .inl ⟨_, rfl⟩
   ·rcases h2 with ⟨t, l, tid, rfl⟩ | ⟨t, l, tid, nt, ver, hole, rfl⟩
    ·exact .inr ⟨rfl, .inr (.inl rfl)⟩
    ·exact .inr ⟨rfl, .inr (.inr (.inl rfl))⟩)
  (fun hm q o' hoq hq => by
   rcases hq with hq | hq
   ·rw [osS q (by simpa using hq)] at hoq; cases hoq; trivial
   ·have := (List.getElem?_eq_some_iff.1 hoq).1
    simp only [THp.push, List.length_append, hlen, List.length_singleton] at this
    have : q = n := by show q = h.os.length; omega
    subst this
    rw [osn] at hoq; cases hoq
    exact hM m' new0 newj rfl (if_pos rfl) (if_pos rfl))
 refine ⟨m', key.1, ?_, new0, if_pos rfl, rfl⟩
 have hd : S.reverse ++ h.dirty = ((killN h S).push (.mat true T l e nt 0 none)).dirty := by
  simp only [THp.push, killN_dirty]
 have := key.2
 rw [hd] at this
 exact this
theorem NC.dc {m : Mp} {H : AH} {id j0 : Nat} {nt : List Nat} {G' : Nat → Option (List Value)} (hG : Gle m.G G') (hk : ∀ j b c own sz ty, m.ρ (.n id j) = some b → H.get b = .cells c own sz ty → G' b = some c) :
  ∀ (t : Ty) (pos : Nat) (x : t.den) (cs : List Value), NC m H id j0 nt false t pos x cs → DC G' t x cs := by
 intro t
 induction t with
 | int k => intro pos x cs h; exact h
 | bool => intro pos x cs h; exact h
 | str => intro pos x cs h; exact h
 | slice t ih =>
  intro pos x cs h
  obtain ⟨v, h1, h2⟩ := h
  refine ⟨v, h1, ?_⟩
  rcases h2.resolve_left (by simp) with ⟨q1, q2⟩ | ⟨b, c, q1, q2, q3, q4, q5⟩
  ·exact .inl ⟨q1, q2⟩
  ·exact .inr (.inr ⟨b, 0, t.size, c, q2, .inl rfl, hk _ _ _ _ _ _ q1 q3, by omega, by simpa using q5.mono (DC.mono hG t)⟩)
 | unit => intro pos x cs h; exact h
 | pair a b iha ihb => intro pos x cs h; obtain ⟨c1, c2, h1, h2, h3⟩ := h; exact ⟨c1, c2, h1, iha _ _ _ h2, ihb _ _ _ h3⟩
 | st a ih => intro pos x cs h; exact ih _ _ _ h
theorem give_sound {m : Mp} {h : THp} {H : AH} (hR : HR m h.os H) {id : Nat} {w : Bool} {T : Ty} {l : List T.den} {tid : Nat} {nt : List Nat} {ver : Nat} (ho : h.os[id]? = some (.mat w T l tid nt ver none)) (soft : Bool) (w' : Bool) {o' : TObj} (ho' : o' = if soft then .row w' T l tid else .fro T l) :
  ∃ m', HR m' (h.os.set id o') H ∧ MapLe m h.os m' (h.os.set id o') ∧ (∀ i b, m'.ρ i = some b → m.ρ i = some b) ∧ (∀ b c, m'.G b = some c → m.G b = some c ∨ ∃ i : Key, m.ρ i = some b) ∧
   (∀ i pos ver ct v', RV m h.os (.nest id i pos ver ct) v' → RV m' (h.os.set id o') (un1 h (.nest id i pos ver ct)) v') := by
 classical
 have hMR : MR m H id T l tid nt none := hR.obj id _ ho
 have hid := (List.getElem?_eq_some_iff.1 ho).1
 let F : Key → Prop := fun k => k.top = id ∧ (soft = true → k ≠ .o id)
 let G' : Nat → Option (List Value) := fun b => if ∃ k, F k ∧ m.ρ k = some b then (match H.get b with | .cells c _ _ _ => some c | _ => none) else m.G b
 let m' : Mp := ⟨fun k => if F k then none else m.ρ k, G', m.μ, m.ν⟩
 have hsub : ∀ (k : Key) b, m'.ρ k = some b → m.ρ k = some b ∧ ¬ F k := fun k b hk => by
  simp only [m'] at hk
  split at hk
  ·cases hk
  ·exact ⟨hk, ‹_›⟩
 have hother : ∀ i, id ≠ i → (h.os.set id o')[i]? = h.os[i]? := fun i e => List.getElem?_set_ne e
 have hself : (h.os.set id o')[id]? = some o' := by simp [hid]
 have nF : ∀ k : Key, k.top ≠ id → m'.ρ k = m.ρ k := fun k hk => by simp only [m']; rw [if_neg fun q => hk q.1]
 have hG : Gle m.G m'.G := fun b c hb => by
  show (if ∃ k, F k ∧ m.ρ k = some b then _ else m.G b) = _
  rw [if_neg]; exact hb
  rintro ⟨k, -, hk⟩; rw [hR.disj _ _ hk] at hb; cases hb
 have hGk : ∀ (k : Key) b c own sz ty, F k → m.ρ k = some b → H.get b = .cells c own sz ty → m'.G b = some c := fun k b c own sz ty hF hk hc => by
  show (if ∃ k, F k ∧ m.ρ k = some b then (match H.get b with | .cells c _ _ _ => some c | _ => none) else m.G b) = _
  rw [if_pos ⟨k, hF, hk⟩, hc]
 have Fn : ∀ j, F (.n id j) := fun j => ⟨rfl, fun _ => by simp⟩
 have hkw : KeepW h.os (h.os.set id o') := fun i x hx => by
  by_cases e : id = i
  ·subst e; rw [ho] at hx; cases hx
   refine ⟨o', hself, ?_⟩
   rw [matKW mat_i, ho']
   cases soft with
   | true => exact .inr (.inl ⟨_, _, rfl⟩)
   | false => exact .inr (.inr (.inr ⟨_, rfl⟩))
  ·exact ⟨x, by rw [hother i e]; exact hx, (KeepO.refl x).kw⟩
 have noI : matI o' = none := by rw [ho']; cases soft <;> rfl
 have rows : ∀ b c, m.ρ id = some b → H.get b = .cells c true T.size tid → l.length * T.size ≤ c.length ∧ Rows (DC m'.G T) T.size c l := fun b c hb hc => by
  rcases hMR.2 with ⟨e1, -⟩ | ⟨b0, c0, e1, e2, e3, e4, e5⟩
  ·rw [hb] at e1; cases e1
  ·rw [hb] at e1; cases e1
   rw [hc] at e3; cases e3
   refine ⟨e4, fun i hi => ⟨by have := mul_succ_le (sz := T.size) hi; omega, ?_⟩⟩
   exact NC.dc hG (fun j b c own sz ty h1 h2 => hGk _ _ _ _ _ _ (Fn j) h1 h2) _ _ _ _ (e5 i hi)
 have hm : MapLe m h.os m' (h.os.set id o') := by
  refine ⟨hG, hkw, fun i b hb hf => ?_, fun i a b c d e f g a' b' c' d' e' f' g' h1 h2 => ?_, fun i w t l tid w' t' l' tid' h1 h2 => ?_, fun i w t l tid t' l' h1 h2 => ?_, fun i o t tid nt ver o2 t' tid' nt' ver' h1 h2 h3 h4 => ?_, fun i o t tid2 nt ver w2 t' l' tid' h1 h2 h3 => ?_, fun i o t tid nt ver t' l' h1 h2 h3 => ?_⟩
  ·rw [nF]; exact hb
   intro e; cases (show i = id from e); unfold isFix at hf; rw [ho] at hf; exact hf
  ·refine nF _ fun e => ?_
   cases (show i = id from e); rw [ho] at h1; cases h1
  ·refine nF _ fun e => ?_
   cases (show i = id from e); rw [ho] at h1; cases h1
  ·by_cases e : id = i
   ·subst e; rw [ho] at h1; cases h1
   ·rw [hother i e, h1] at h2; cases h2
  ·by_cases e : id = i
   ·subst e; rw [hself] at h3; cases h3; rw [noI] at h4; cases h4
   ·exact ⟨nF _ (fun q => e (show id = i from q.symm)), rfl, fun _ => rfl⟩
  ·by_cases e : id = i
   ·subst e
    rw [hself] at h3
    cases soft with
    | false => rw [ho'] at h3; cases h3
    | true =>
     rw [ho'] at h3; cases h3
     exact ⟨if_neg fun q => q.2 rfl rfl, hMR.1⟩
   ·rw [hother i e, h1] at h3; cases h3; cases h2
  ·by_cases e : id = i
   ·subst e
    rw [hself] at h3
    cases soft with
    | true => rw [ho'] at h3; cases h3
    | false =>
     rw [ho'] at h3; cases h3
     refine ⟨hMR.1, ?_⟩
     rcases hMR.2 with ⟨e1, e2⟩ | ⟨b0, c0, e1, e2, e3, e4, e5⟩
     ·exact .inl ⟨e1, e2⟩
     ·exact .inr ⟨b0, c0, e1, hGk _ _ _ _ _ _ ⟨rfl, fun q => by cases q⟩ e1 e3, rows b0 c0 e1 e3⟩
   ·rw [hother i e, h1] at h3; cases h3; cases h2
 refine ⟨m', ⟨fun i j b hi hj => hR.inj i j b (hsub i b hi).1 (hsub j b hj).1, fun i b hb => by have := hR.lt i b (hsub i b hb).1; simpa using this, fun i b hb => ?_, fun b c hb => ?_, fun i x hx => ?_⟩, hm, fun i b hb => (hsub i b hb).1, fun b c hb => ?_, fun i pos ver' ct v' hv => ?_⟩
 ·show (if ∃ k, F k ∧ m.ρ k = some b then _ else m.G b) = _
  obtain ⟨h1, h2⟩ := hsub i b hb
  rw [if_neg]
  ·exact hR.disj i b h1
  ·rintro ⟨k, k1, k2⟩
   have := hR.inj _ _ _ h1 k2; subst this; exact h2 k1
 ·have hb' : (if ∃ k, F k ∧ m.ρ k = some b then (match H.get b with | .cells c _ _ _ => some c | _ => none) else m.G b) = some c := hb
  split at hb'
  ·rename_i hex
   obtain ⟨k, -, k2⟩ := hex
   split at hb'
   ·rename_i c0 own sz ty hc
    cases hb'
    exact ⟨(hR.lt _ _ k2).1, own, sz, ty, hc⟩
   ·cases hb'
  ·exact hR.gr b c hb'
 ·by_cases e : id = i
  ·subst e
   rw [hself] at hx; cases hx
   rw [ho']
   cases soft with
   | true =>
    rcases hMR.2 with ⟨e1, e2⟩ | ⟨b0, c0, e1, e2, e3, e4, e5⟩
    ·exact .inl ⟨(if_neg fun q => q.2 rfl rfl : m'.ρ id = m.ρ id).trans e1, e2⟩
    ·exact .inr ⟨b0, c0, (if_neg fun q => q.2 rfl rfl : m'.ρ id = m.ρ id).trans e1, e3, rows b0 c0 e1 e3⟩
   | false => exact if_pos ⟨rfl, fun q => by cases q⟩
  ·rw [hother i e] at hx
   exact (hR.obj i x hx).mono hm ⟨rfl, rfl⟩ (fun k hk => nF k (by rw [hk]; exact fun q => e q.symm)) fun _ _ _ _ => rfl
 ·have hb' : (if ∃ k, F k ∧ m.ρ k = some b then (match H.get b with | .cells c _ _ _ => some c | _ => none) else m.G b) = some c := hb
  split at hb'
  ·rename_i hex
   obtain ⟨k, -, k2⟩ := hex
   exact .inr ⟨k, k2⟩
  ·exact .inl hb'
 ·unfold un1
  split
  ·rename_i u c hg
   obtain ⟨w2, T2, l2, tid2, nt2, ho2, hi, hp, hns, -⟩ := nestOf_sound hR hv hg
   refine .deep _ _ _ ?_
   rcases hns with ⟨q1, q2⟩ | ⟨b, c0, q1, q2, q3, q4, q5⟩
   ·exact .inl ⟨q1, q2⟩
   ·exact .inr (.inr ⟨b, 0, u.size, c0, q2, .inl rfl, hGk _ _ _ _ _ _ (Fn _) q1 q3, by omega, by simpa using q5.mono (DC.mono hG u)⟩)
  ·exact hv.mono hm
end Go.TM
