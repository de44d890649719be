/- The operations that make or change things, second part. -/

import Derived.Test.YtgpligmjbecbjaaDoorTmMat
set_option linter.unusedVariables false
set_option linter.unusedSimpArgs false
set_option linter.unusedSectionVars false
namespace Go.TM
open Go Go.AM
variable {P : Program}

theorem newBox_sound {m : Mp} {h : THp} {H : AH} (hR : HR m h.os H) {t : Nat} {v : TV} {v' : Value} (hv : RV m h.os v v') {c : List Bool} {u : TV} {h' : THp} (he : newBox t v h = some (c, u, h')) :
  OpOK m h H (some (AM.newVar t v' H)) u h' := by
 unfold newBox at he
 split at he
 ·rename_i ht
  cases he
  obtain ⟨g1, g2, g3⟩ := cells_sound hv ht
  have ho : ObjR (updM m h.os.length (some H.next)) (h.os ++ [.box (v.cells.map fun _ => true) v.cells t]) (H.push (.cells v'.cells.toList true 0 t)) h.os.length (.box (v.cells.map fun _ => true) v.cells t) :=
   ⟨H.next, v'.cells.toList, updM_self _ _ _, by rw [AH.get_push, if_pos rfl], by simp, g1.mono (mapLe_push hR _ _)⟩
  obtain ⟨k1, k2⟩ := push_new hR _ _ ho
  refine ⟨_, _, _, rfl, k1, k2, .ptr _ _ _ (updM_self _ _ _) ?_⟩
  unfold isFix
  simp only [THp.push, List.getElem?_concat_length]
 ·cases he

theorem tstore_sound {m : Mp} {h : THp} {H : AH} (hR : HR m h.os H) {t : Nat} {x v : TV} {x' v' : Value} (hx : RV m h.os x x') (hv : RV m h.os v v') {h' : THp} {ks : List Bool} (he : tstore P t x v h = some (ks, h')) (hks : cOK ks) :
  ∃ m' H', astore P t x' v' H = some H' ∧ HR m' h'.os H' ∧ Ext m h H m' h' H' := by
 unfold tstore at he
 split at he
 ·rename_i id off
  split at he
  ·rename_i w cs tid hat
   split at he
   ·rename_i n hn
    split at he
    ·rename_i hc
     obtain ⟨c1, c2, c3, c4, c5⟩ := hc
     cases he
     obtain ⟨g1, g2, g3⟩ := cells_sound hv c3
     cases hx with
     | ptr _ _ b hb hf =>
     have ho := at_some hat (by simp)
     obtain ⟨b', c, e1, e2, e3, e4⟩ := hR.obj id _ ho
     rw [hb] at e1; cases e1
     have hsz : v'.cells.size = n := by omega
     have htouch : ∀ j : Nat, w[j]? = some false → (spliceT cs off v.cells)[j]? = cs[j]? := by
      intro j hj
      have hnot : ¬ (off ≤ j ∧ j < off + n) := by
       rintro ⟨a1, a2⟩
       rw [List.all_eq_true] at c4
       have : w[j]? = some true := by
        have hj' : j < w.length := by omega
        rw [List.getElem?_eq_getElem hj']
        have hmem : w[j] ∈ (w.drop off).take n := by
         rw [List.mem_iff_getElem]
         exact ⟨j - off, by simp; omega, by simp; congr 1; omega⟩
        have := c4 _ hmem
        simpa using this
       rw [this] at hj; cases hj
      unfold spliceT
      by_cases hlt : j < off
      ·rw [List.append_assoc, List.getElem?_append_left (by simp; omega), List.getElem?_take_of_lt hlt]
      ·rw [List.getElem?_append_right (by simp; omega), List.getElem?_drop]
       congr 1
       simp; omega
     obtain ⟨k1, k2⟩ := set_ext (ob := .cells (splice c off v'.cells.toList) true 0 tid) (o' := .box w (spliceT cs off v.cells) tid) hR hb ho
      ⟨_, rfl, by simp [spliceT]; omega, htouch⟩ (fun _ _ e => by cases e) rfl (fun hm => ⟨b, _, hb, by rw [AH.get_set, if_pos rfl], by rw [e3]; simp [spliceT]; omega, (spliceT_rl e4 g1 off).mono hm⟩)
     refine ⟨m, _, ?_, k1, k2⟩
     simp only [astore, e2, hn]
     rw [if_pos ⟨hsz, by rw [← e4.1]; exact c2, g2⟩]
    ·cases he
   ·cases he
  ·cases he
 ·rename_i id i off
  split at he
  ·rename_i T l tid hat
   split at he
   ·rename_i n hn
    split at he
    ·rename_i hc
     obtain ⟨c1, c2, c3, c4⟩ := hc
     split at he
     ·rename_i y hy
      cases he
      have ho := at_some hat (by simp)
      cases hx with
      | elt _ _ _ _ hx =>
      unfold EltR at hx
      rw [ho] at hx
      obtain ⟨b, hb, hi, rfl⟩ := hx
      rcases hR.obj id _ ho with ⟨e1, -⟩ | ⟨b', c, e1, e2, e3, e4⟩
      ·rw [hb] at e1; cases e1
      rw [hb] at e1; cases e1
      obtain ⟨g1, g2, g3⟩ := cells_sound hv c4
      have hlen := mul_succ_le (sz := T.size) hi
      have hsz : v'.cells.size = n := by omega
      have hcell := e4.at (m := m) (os := h.os) rfl hi
      have hch : RL m h.os (cellsT T (rd l i T.dflt)) ((c.drop (i * T.size)).take T.size) := by
       rw [rd_eq hi]; exact RV.of_DC rfl _ _ _ (e4 i hi).2
      have hsp := spliceT_rl hch g1 off
      have calm : ∀ u ∈ spliceT (cellsT T (rd l i T.dflt)) off v.cells, Calm h.os u := by
       have k1 : ∀ (T : Ty) (x : T.den), ∀ u ∈ cellsT T x, Calm h.os u := by
        intro T
        induction T with
        | pair a b iha ihb => intro x u hu; simp only [cellsT, List.mem_append] at hu; exact hu.elim (iha _ u) (ihb _ u)
        | st a ih => intro x u hu; exact ih x u hu
        | unit => intro x u hu; simp [cellsT] at hu
        | _ => intro x u hu; simp [cellsT] at hu; subst hu; trivial
       have k2 : ∀ (cs : List TV), ownIds cs = [] → ∀ u ∈ cs, Calm h.os u := by
        intro cs
        induction cs with
        | nil => intro _ u hu; cases hu
        | cons a r ih =>
         intro hh u hu
         cases a with
         | own id => simp [ownIds] at hh
         | sub id _ _ => simp [ownIds] at hh
         | nest id _ _ _ _ => simp [ownIds] at hh
         | _ => simp only [ownIds] at hh; rcases List.mem_cons.1 hu with rfl | hu'; trivial; exact ih hh u hu'
       intro u hu
       unfold spliceT at hu
       simp only [List.mem_append] at hu
       rcases hu with (hu | hu) | hu
       ·exact k1 _ _ u (List.mem_of_mem_take hu)
       ·exact k2 _ c3 u hu
       ·exact k1 _ _ u (List.mem_of_mem_drop hu)
      obtain ⟨v1, v2, e5, e6, e7, -⟩ := decC_calm _ _ _ _ _ hy calm hsp
      have e8 := e7.nil_inv
      subst e8
      rw [List.append_nil] at e5
      have hvl : v'.cells.toList.length = n := by simpa using hsz
      have hcl : (splice c (i * T.size + off) v'.cells.toList).length = c.length := by simp [splice]; omega
      have hchunk : ∀ j, j < l.length → j ≠ i → ((splice c (i * T.size + off) v'.cells.toList).drop (j * T.size)).take T.size = (c.drop (j * T.size)).take T.size := by
       intro j hj hne
       apply List.ext_getElem?
       intro k
       by_cases hk : k < T.size
       ·rw [List.getElem?_take_of_lt hk, List.getElem?_take_of_lt hk, List.getElem?_drop, List.getElem?_drop]
        unfold splice
        rcases Nat.lt_or_gt_of_ne hne with hlt | hgt
        ·have := mul_succ_le (sz := T.size) hlt
         rw [List.append_assoc, List.getElem?_append_left (by simp; omega), List.getElem?_take_of_lt (by omega)]
        ·have := mul_succ_le (sz := T.size) hgt
         rw [List.getElem?_append_right (by simp; omega), List.getElem?_drop]
         congr 1
         simp; omega
       ·rw [List.getElem?_eq_none (by simp; omega), List.getElem?_eq_none (by simp; omega)]
      have hself : ((splice c (i * T.size + off) v'.cells.toList).drop (i * T.size)).take T.size = v1 := by
       rw [← e5]
       apply List.ext_getElem?
       intro k
       by_cases hk : k < T.size
       ·rw [List.getElem?_take_of_lt hk, List.getElem?_drop]
        unfold splice
        by_cases h1 : k < off
        ·rw [List.append_assoc, List.getElem?_append_left (by simp; omega), List.getElem?_take_of_lt (by omega), List.append_assoc, List.getElem?_append_left (by simp; omega), List.getElem?_take_of_lt h1, List.getElem?_take_of_lt hk, List.getElem?_drop]
        ·by_cases h2 : k < off + n
         ·rw [List.getElem?_append_left (by simp; omega), List.getElem?_append_right (by simp; omega), List.getElem?_append_left (by simp; omega), List.getElem?_append_right (by simp; omega)]
          congr 1
          simp; omega
         ·rw [List.getElem?_append_right (by simp; omega), List.getElem?_append_right (by simp; omega), List.getElem?_drop, List.getElem?_drop, List.getElem?_take_of_lt (by simp; omega), List.getElem?_drop]
          congr 1
          simp; omega
       ·rw [List.getElem?_eq_none (by simp; omega), List.getElem?_eq_none (by simp [splice]; omega)]
      obtain ⟨k1, k2⟩ := set_ext (ob := .cells (splice c (i * T.size + off) v'.cells.toList) true T.size tid) (o' := .row true T (l.set i y) tid) hR hb ho
       (.inr ⟨rfl, .inl ⟨_, rfl, by simp⟩⟩) (fun _ _ e => by cases e) rfl (fun hm => .inr ⟨b, _, hb, by rw [AH.get_set, if_pos rfl], by rw [hcl, List.length_set]; exact e3, fun j hj => ⟨by
        rw [hcl]; have := mul_succ_le (sz := T.size) (show j < l.length by simpa using hj); omega, by
        by_cases e : j = i
        ·subst e; rw [hself]; simpa using e6
        ·rw [hchunk j (by simpa using hj) e, List.getElem_set_ne (fun q => e q.symm)]
         exact (e4 j (by simpa using hj)).2⟩⟩)
      refine ⟨m, _, ?_, k1, k2⟩
      simp only [astore, e2, hn]
      rw [if_pos ⟨hsz, by omega, g2⟩]
     ·cases he
    ·cases he
   ·cases he
  ·rename_i T l tid nt ver hole hat
   split at he
   ·rename_i n hn
    split at he
    ·rename_i hc
     obtain ⟨c1, c2, c4, c5⟩ := hc
     split at he
     ·rename_i y k a hy
      split at he
      ·rename_i hnd
       cases he
       have ho := at_some hat (by simp)
       cases hx with
       | elt _ _ _ _ hx =>
       rw [EltR_mat ho mat_i] at hx
       obtain ⟨b, hb, hi, rfl⟩ := hx
       obtain ⟨g1, g2, g3⟩ := cells_sound hv c4
       have hsz : v'.cells.size = n := by omega
       have hvl : v'.cells.toList.length = n := by simpa using hsz
       have hks' : cOK k ∧ ∀ i0, hole = some i0 → i0 = i := by
        cases hole with
        | none => exact ⟨hks, fun i0 e => (by cases e)⟩
        | some i1 => exact ⟨hks.tail, fun i0 e => (by cases e; exact of_decide_eq_true hks.head)⟩
       obtain ⟨cc, q1, q2, m', q3, q4⟩ := mstore_sound hR ho hb hi g1 (off := off) (by omega) (c5.imp _root_.id fun e => by omega) hy hks'.1 hks'.2 hnd
       refine ⟨m', _, ?_, q3, q4⟩
       simp only [astore, q1, hn]
       rw [if_pos ⟨hsz, by omega, g2⟩]
      ·cases he
     ·cases he
    ·cases he
   ·cases he
  ·cases he
 ·rename_i id i pos j off ver
  split at he
  ·rename_i T l tid nt ver' hat
   split at he
   ·rename_i ev; subst ev
    split at he
    ·rename_i u c hg
     split at he
     ·rename_i n hn
      split at he
      ·rename_i hc
       obtain ⟨c1, c2, c3, c4⟩ := hc
       split at he
       ·rename_i z hz
        split at he
        ·rename_i y hy
         cases he
         have ho := at_some hat (by simp)
         cases hx with
         | elt2 _ _ _ _ _ _ _ hx =>
         obtain ⟨hi, hp, cc, b, n0, z0, q1, q2, q3, rfl⟩ := Elt2R_at ho rfl hx
         obtain ⟨hl, b0, cc', r1, r2, r3, r4, r5, r6⟩ := MR.at (hR.obj id _ ho) hi
         rw [q1] at r2; cases r2
         obtain ⟨v0, w1, w2⟩ := NC.get T 0 pos _ _ _ _ r6 hg
         rw [List.getElem?_take_of_lt hp, List.getElem?_drop, q2] at w1
         cases w1
         rcases w2 with ⟨w2, -⟩ | ⟨b2, c2', w2, w3, w4, w5, w6⟩
         ·cases w2
         cases w3
         simp only [Nat.zero_add] at w2 w4
         obtain ⟨g1, g2, g3⟩ := cells_sound hv c4
         have hlen := mul_succ_le (sz := u.size) q3
         have hsz : v'.cells.size = n := by omega
         have hvl : v'.cells.toList.length = n := by simpa using hsz
         have hch : RL m h.os (cellsT u (rd c j u.dflt)) ((c2'.drop (j * u.size)).take u.size) := by
          rw [rd_eq q3]; exact RV.of_DC rfl _ _ _ (w6 j q3).2
         have hsp := spliceT_rl hch g1 off
         have calm : ∀ w ∈ spliceT (cellsT u (rd c j u.dflt)) off v.cells, Calm h.os w := by
          have k1 : ∀ (T : Ty) (x : T.den), ∀ u ∈ cellsT T x, Calm h.os u := by
           intro T
           induction T with
           | pair a b iha ihb => intro x u hu; simp only [cellsT, List.mem_append] at hu; exact hu.elim (iha _ u) (ihb _ u)
           | st a ih => intro x u hu; exact ih x u hu
           | unit => intro x u hu; simp [cellsT] at hu
           | _ => intro x u hu; simp [cellsT] at hu; subst hu; trivial
          have k2 : ∀ (cs : List TV), ownIds cs = [] → ∀ u ∈ cs, Calm h.os u := by
           intro cs
           induction cs with
           | nil => intro _ u hu; cases hu
           | cons a r ih =>
            intro hh u hu
            cases a with
            | own id => simp [ownIds] at hh
            | sub id _ _ => simp [ownIds] at hh
            | nest id _ _ _ _ => simp [ownIds] at hh
            | _ => simp only [ownIds] at hh; rcases List.mem_cons.1 hu with rfl | hu'; trivial; exact ih hh u hu'
          intro w hw
          unfold spliceT at hw
          simp only [List.mem_append] at hw
          rcases hw with (hw | hw) | hw
          ·exact k1 _ _ w (List.mem_of_mem_take hw)
          ·exact k2 _ c3 w hw
          ·exact k1 _ _ w (List.mem_of_mem_drop hw)
         obtain ⟨v1, v2, e5, e6, e7, -⟩ := decC_calm _ _ _ _ _ hz calm hsp
         have e8 := e7.nil_inv
         subst e8
         rw [List.append_nil] at e5
         have hcl : (splice c2' (j * u.size + off) v'.cells.toList).length = c2'.length := splice_len (by omega)
         obtain ⟨k1, k2⟩ := mstore2_sound (c' := put c j z) (c2 := splice c2' (j * u.size + off) v'.cells.toList) hR ho hi hp hg hy (by simp [put]) w2 q1 q2 rfl (by rw [hcl]; simpa [put] using w5) (fun q hq => ⟨by
          rw [hcl]; have := mul_succ_le (sz := u.size) (show q < c.length by simpa [put] using hq); omega, by
          by_cases e : q = j
          ·subst e; rw [splice_here (by omega) (by omega), e5]; simpa [put] using e6
          ·have hq' : q < c.length := by simpa [put] using hq
           have := mul_succ_le (sz := u.size) hq'
           rw [splice_other (by omega) (by omega) (by omega) e]
           simp only [put]
           rw [List.getElem_set_ne (fun w => e w.symm)]
           exact (w6 q hq').2⟩)
         refine ⟨m, _, ?_, k1, k2⟩
         simp only [astore, w4, hn]
         rw [if_pos ⟨hsz, by omega, g2⟩]
        ·cases he
       ·cases he
      ·cases he
     ·cases he
    ·cases he
   ·cases he
  ·cases he
 ·cases he

def unflag : TObj → TObj
 | .row _ t l tid => .row true t l tid
 | .mat _ t l tid nt ver hole => .mat true t l tid nt ver hole
 | .box _ cs tid => .box [] cs tid
 | .iter _ s n => .iter true s n
 | o => o
theorem unflag_kw {o o' : TObj} (h : unflag o = unflag o') : KW o o' := by
 cases o <;> cases o' <;> simp only [unflag, reduceCtorEq, TObj.row.injEq, TObj.mat.injEq, TObj.fro.injEq, TObj.hid.injEq, TObj.frame.injEq, true_and] at h
 all_goals first
  | trivial
  | exact .inl ⟨_, _, _, _, _, _, _, rfl⟩
  | (obtain ⟨rfl, h2, rfl, rfl, rfl, rfl⟩ := h; exact .inl ⟨_, rfl, Nat.le_refl _⟩)
  | (obtain ⟨rfl, rfl, rfl, rfl⟩ := h; exact .inl ⟨_, rfl, Nat.le_refl _⟩)
  | (obtain ⟨rfl, h2, rfl⟩ := h; exact .inl ⟨_, _, rfl, by rw [eq_of_heq h2]⟩)
  | (obtain ⟨rfl, h2⟩ := h; rw [eq_of_heq h2]; exact .inl rfl)
theorem freezeA1_sound {m : Mp} {h : THp} {H : AH} (hR : HR m h.os H) {id : Nat} {h' : THp} (he : freezeA1 h id = some h') :
  ∃ m', HR m' h'.os H ∧ MapLe m h.os m' h'.os ∧ (∀ i b, m'.ρ i = some b → m.ρ i = some b) ∧ (∃ t l, h'.os[id]? = some (.fro t l)) ∧ (∃ k, h'.dirty = List.replicate k gmark ++ h.dirty ∧ (k = 0 → m'.G = m.G)) ∧ (∀ (i : Nat) (t : Ty) (l : List t.den), h.os[i]? = some (.fro t l) → h'.os[i]? = some (.fro t l)) ∧ h'.os.length = h.os.length ∧
   (∀ b c, m'.G b = some c → m.G b = some c ∨ ∃ i, m.ρ i = some b) ∧
   (∀ i pos ver ct v', RV m h.os (.nest id i pos ver ct) v' → RV m' h'.os (un1 h (.nest id i pos ver ct)) v') := by
 have plain : ∀ {m' : Mp} {os' : List TObj}, MapLe m h.os m' os' → (∀ w t l tid nt ver hole, h.at_ id ≠ .mat w t l tid nt ver hole) → ∀ i pos ver ct v', RV m h.os (.nest id i pos ver ct) v' → RV m' os' (un1 h (.nest id i pos ver ct)) v' := fun hm hno i pos ver ct v' hv => by
  have : nestOf h (.nest id i pos ver ct) = none := by
   simp only [nestOf]
   split
   ·rename_i hat; exact absurd hat (hno _ _ _ _ _ _ _)
   ·rfl
  unfold un1
  rw [this]
  exact hv.mono hm
 unfold freezeA1 at he
 split at he
 ·rename_i w t l tid hat
  cases he
  have ho := at_some hat (by simp)
  have hid : id < h.os.length := (List.getElem?_eq_some_iff.1 ho).1
  have hself : (h.os.set id (.fro t l))[id]? = some (.fro t l) := by simp [hid]
  have hother : ∀ i, id ≠ i → (h.os.set id (.fro t l))[i]? = h.os[i]? := fun i e => List.getElem?_set_ne e
  have hkw : KeepW h.os (h.os.set id (.fro t l)) := fun i x hx => by
   by_cases e : id = i
   ·subst e; rw [ho] at hx; cases hx; exact ⟨_, hself, .inr (.inr ⟨l, rfl, rfl⟩)⟩
   ·exact ⟨x, by rw [hother i e]; exact hx, (KeepO.refl x).kw⟩
  have hfr : ∀ (i : Nat) (t' : Ty) (l' : List t'.den), h.os[i]? = some (.fro t' l') → (h.os.set id (.fro t l))[i]? = some (.fro t' l') := fun i t' l' hx => by
   by_cases e : id = i
   ·subst e; rw [ho] at hx; cases hx
   ·rw [hother i e]; exact hx
  rcases hR.obj id _ ho with ⟨e1, e2⟩ | ⟨b, c, e1, e2, e3, e4⟩
  ·have hm : MapLe m h.os m (h.os.set id (.fro t l)) := by
    have hmk := mats_keep (m := m) (m' := m) (os := h.os) (os' := h.os.set id (.fro t l)) fun i x y h1 h2 => .inl ⟨by rw [hother i fun e => by subst e; rw [ho] at h1; cases h1; cases h2]; exact h1, rfl, rfl, rfl⟩
    refine ⟨.refl _, hkw, fun _ _ hb _ => hb, fun _ _ _ _ _ _ _ _ _ _ _ _ _ _ _ _ _ => rfl, fun _ _ _ _ _ _ _ _ _ _ _ => rfl, fun i w' t' l' tid' t2 l2 h1 h2 => ?_, hmk.1, hmk.2.1, hmk.2.2⟩
    by_cases e : id = i
    ·subst e; rw [hself] at h2; cases h2; exact .inl ⟨e1, e2⟩
    ·rw [hother i e, h1] at h2; cases h2
   refine ⟨m, ⟨hR.inj, fun i b hb => by have := hR.lt i b hb; simpa using this, hR.disj, hR.gr, fun i x hx => ?_⟩, hm, fun _ _ hb => hb, ⟨t, l, hself⟩, ⟨1, rfl, fun h => by cases h⟩, hfr, by simp, fun b c hb => .inl hb, plain hm (by rw [hat]; intros; simp)⟩
   by_cases e : id = i
   ·subst e; rw [hself] at hx; cases hx; exact e1
   ·rw [hother i e] at hx; exact (hR.obj i x hx).mono hm ⟨rfl, rfl⟩ (fun _ _ => rfl) fun _ _ _ _ => rfl
  ·let m' : Mp := ⟨fun i => if i = .o id then none else m.ρ i, fun k => if k = b then some c else m.G k, m.μ, m.ν⟩
   have hρ : ∀ (i : Key) d, m'.ρ i = some d → m.ρ i = some d ∧ i ≠ .o id := fun i d hi => by
    simp only [m'] at hi
    split at hi
    ·cases hi
    ·exact ⟨hi, ‹_›⟩
   have hG : Gle m.G m'.G := fun k d hk => by
    simp only [m']
    rw [if_neg]; exact hk
    intro e; subst e; rw [hR.disj id _ e1] at hk; cases hk
   have hmk := mats_keep (m := m) (m' := m') (os := h.os) (os' := h.os.set id (.fro t l)) fun i x y h1 h2 => .inl (by
    have e : id ≠ i := fun e => by subst e; rw [ho] at h1; cases h1; cases h2
    exact ⟨by rw [hother i e]; exact h1, if_neg (ko fun q => e q.symm), rfl, rfl⟩)
   have hm : MapLe m h.os m' (h.os.set id (.fro t l)) := by
    refine ⟨hG, hkw, fun i d hd hf => ?_, fun i a b c d e f g a' b' c' d' e' f' g' h1 h2 => ?_, fun i w' t' l' tid' w2 t2 l2 tid2 h1 h2 => ?_, fun i w' t' l' tid' t2 l2 h1 h2 => ?_, hmk.1, hmk.2.1, hmk.2.2⟩
    ·simp only [m']
     rw [if_neg]; exact hd
     intro e; cases e; unfold isFix at hf; rw [ho] at hf; exact hf
    ·simp only [m']
     rw [if_neg]
     intro e; cases e; rw [ho] at h1; cases h1
    ·by_cases e : id = i
     ·subst e; rw [hself] at h2; cases h2
     ·simp only [m']; rw [if_neg (ko fun q => e q.symm)]
    ·by_cases e : id = i
     ·subst e; rw [hself] at h2; cases h2
      exact .inr ⟨b, c, e1, by simp [m'], e3, e4.mono (DC.mono hG _)⟩
     ·rw [hother i e, h1] at h2; cases h2
   refine ⟨m', ⟨fun i j d hi hj => hR.inj i j d (hρ i d hi).1 (hρ j d hj).1, fun i d hd => by have := hR.lt i d (hρ i d hd).1; simpa using this, fun i d hd => ?_, fun k d hk => ?_, fun i x hx => ?_⟩, hm, fun i d hd => (hρ i d hd).1, ⟨t, l, hself⟩, ⟨1, rfl, fun h => by cases h⟩, hfr, by simp, fun k d hk => ?_, plain hm (by rw [hat]; intros; simp)⟩
   ·simp only [m']
    rw [if_neg]; exact hR.disj i d (hρ i d hd).1
    intro e; subst e; exact (hρ i _ hd).2 (hR.inj _ _ _ (hρ i _ hd).1 e1)
   ·simp only [m'] at hk
    split at hk
    ·rename_i e; subst e; cases hk
     exact ⟨(hR.lt id _ e1).1, true, _, _, e2⟩
    ·exact hR.gr k d hk
   ·by_cases e : id = i
    ·subst e; rw [hself] at hx; cases hx; simp [ObjR, m']
    ·rw [hother i e] at hx
     exact (hR.obj i x hx).mono hm ⟨rfl, rfl⟩ (fun k hk => by simp only [m']; rw [if_neg (kt hk fun q => e q.symm)]) fun _ _ _ _ => rfl
   ·simp only [m'] at hk
    split at hk
    ·rename_i e; subst e; exact .inr ⟨id, e1⟩
    ·exact .inl hk
 ·rename_i w t l tid nt ver hat
  cases he
  have ho := at_some hat (by simp)
  have hid := (List.getElem?_eq_some_iff.1 ho).1
  obtain ⟨m', g1, g2, g3, g4, g5⟩ := give_sound hR ho false false rfl
  refine ⟨m', g1, g2, g3, ⟨t, l, by simp [hid]⟩, ⟨1, rfl, fun h => by cases h⟩, fun i t' l' hx => ?_, by simp, g4, g5⟩
  have e : id ≠ i := fun e => by subst e; rw [ho] at hx; cases hx
  show (h.os.set id _)[i]? = _
  rw [List.getElem?_set_ne e]; exact hx
 ·rename_i t l hat
  cases he
  exact ⟨m, hR, .refl _ _ H hR, fun _ _ hb => hb, ⟨t, l, at_some hat (by simp)⟩, ⟨0, rfl, fun _ => rfl⟩, fun _ _ _ hx => hx, rfl, fun b c hb => .inl hb, plain (.refl _ _ H hR) (by rw [hat]; intros; simp)⟩
 ·cases he
theorem freezeA1_other {h h' : THp} {id i : Nat} (he : freezeA1 h id = some h') (hne : i ≠ id) : h'.at_ i = h.at_ i := by
 unfold freezeA1 at he
 split at he
 ·cases he; simp only [THp.at_]; rw [List.getD_eq_getElem?_getD, List.getElem?_set_ne (fun e => hne e.symm), ← List.getD_eq_getElem?_getD]
 ·cases he; simp only [THp.at_]; rw [List.getD_eq_getElem?_getD, List.getElem?_set_ne (fun e => hne e.symm), ← List.getD_eq_getElem?_getD]
 ·cases he; rfl
 ·cases he
theorem freezeA_sound {m : Mp} {H : AH} : ∀ (ids : List Nat) {m : Mp} {h h' : THp}, HR m h.os H → freezeA h ids = some h' →
  ∃ m', HR m' h'.os H ∧ MapLe m h.os m' h'.os ∧ (∀ i b, m'.ρ i = some b → m.ρ i = some b) ∧ (∀ id ∈ ids, ∃ t l, h'.os[id]? = some (.fro t l)) ∧ (∃ k, h'.dirty = List.replicate k gmark ++ h.dirty ∧ (k = 0 → m'.G = m.G)) ∧ (∀ (i : Nat) (t : Ty) (l : List t.den), h.os[i]? = some (.fro t l) → h'.os[i]? = some (.fro t l)) ∧ h'.os.length = h.os.length ∧
   (∀ b c, m'.G b = some c → m.G b = some c ∨ ∃ i, m.ρ i = some b) ∧
   (∀ id, id ∈ ids → ∀ i pos ver ct v', RV m h.os (.nest id i pos ver ct) v' → RV m' h'.os (un1 h (.nest id i pos ver ct)) v') := by
 intro ids
 induction ids with
 | nil => intro m h h' hR he; cases he; exact ⟨m, hR, .refl _ _ H hR, fun _ _ hb => hb, fun id hi => (by cases hi), ⟨0, rfl, fun _ => rfl⟩, fun _ _ _ hx => hx, rfl, fun b c hb => .inl hb, fun id hi => (by cases hi)⟩
 | cons id r ih =>
  intro m h h' hR he
  simp only [freezeA] at he
  split at he
  ·rename_i h1 he1
   obtain ⟨m1, a1, a2, a3, ⟨t, l, a4⟩, a5, a6, a7, a8, a9⟩ := freezeA1_sound hR he1
   obtain ⟨m2, b1, b2, b3, b4, b5, b6, b7, b8, b9⟩ := ih a1 he
   refine ⟨m2, b1, a2.trans b2, fun i b hb => a3 _ _ (b3 _ _ hb), fun i hi => ?_, (by
    obtain ⟨k1, d1, g1⟩ := a5
    obtain ⟨k2, d2, g2⟩ := b5
    refine ⟨k2 + k1, by rw [d2, d1, ← List.append_assoc, List.replicate_append_replicate], fun h => ?_⟩
    rw [g2 (by omega), g1 (by omega)]), fun i t l hx => b6 _ _ _ (a6 _ _ _ hx), b7.trans a7, fun b c hb => ?_, fun i hi i0 pos ver ct v' hv => ?_⟩
   ·rcases List.mem_cons.1 hi with rfl | hi
    ·exact ⟨t, l, b6 _ _ _ a4⟩
    ·exact b4 i hi
   ·rcases b8 b c hb with g | ⟨i, g⟩
    ·exact a8 b c g
    ·exact .inr ⟨i, a3 _ _ g⟩
   ·by_cases e : i = id
    ·subst e; exact (a9 _ _ _ _ _ hv).mono b2
    ·have h2 := b9 i ((List.mem_cons.1 hi).resolve_left e) i0 pos ver ct v' (hv.mono a2)
     have : un1 h1 (.nest i i0 pos ver ct) = un1 h (.nest i i0 pos ver ct) := by
      unfold un1
      have : nestOf h1 (.nest i i0 pos ver ct) = nestOf h (.nest i i0 pos ver ct) := by
       simp only [nestOf]
       rw [freezeA1_other he1 e]
      rw [this]
     rw [this] at h2; exact h2
  ·cases he
theorem freeze1_A {h h' : THp} {id : Nat} (he : freeze1 h id = some h') : freezeA1 h id = some h' ∧ Keep h.os h'.os := by
 unfold freeze1 at he
 unfold freezeA1
 split at he
 ·rename_i t l tid hat
  cases he
  have ho := at_some hat (by simp)
  have hid : id < h.os.length := (List.getElem?_eq_some_iff.1 ho).1
  simp only [hat]
  refine ⟨trivial, fun i x hx => ?_⟩
  by_cases e : id = i
  ·subst e; rw [ho] at hx; cases hx; exact ⟨.fro t l, by simp [hid], .inr ⟨rfl, .inr (.inr ⟨l, rfl, rfl⟩)⟩⟩
  ·exact ⟨x, by rw [List.getElem?_set_ne e]; exact hx, .refl x⟩
 ·rename_i t l tid nt ver hat
  cases he
  have ho := at_some hat (by simp)
  have hid : id < h.os.length := (List.getElem?_eq_some_iff.1 ho).1
  simp only [hat]
  refine ⟨trivial, fun i x hx => ?_⟩
  by_cases e : id = i
  ·subst e; rw [ho] at hx; cases hx; exact ⟨.fro t l, by simp [hid], .inr ⟨rfl, .inr (.inr (.inr ⟨l, rfl, rfl⟩))⟩⟩
  ·exact ⟨x, by rw [List.getElem?_set_ne e]; exact hx, .refl x⟩
 ·rename_i t l hat
  cases he
  simp only [hat]
  exact ⟨trivial, .refl _⟩
 ·cases he
theorem freeze_A : ∀ (ids : List Nat) {h h' : THp}, freeze h ids = some h' → freezeA h ids = some h' ∧ Keep h.os h'.os := by
 intro ids
 induction ids with
 | nil => intro h h' he; cases he; exact ⟨rfl, .refl _⟩
 | cons id r ih =>
  intro h h' he
  simp only [freeze] at he
  simp only [freezeA]
  split at he
  ·rename_i h1 he1
   obtain ⟨a1, a2⟩ := freeze1_A he1
   obtain ⟨b1, b2⟩ := ih he
   rw [a1]
   exact ⟨b1, a2.trans b2⟩
  ·cases he
theorem freeze_sound {m : Mp} {h h' : THp} {H : AH} {ids : List Nat} (hR : HR m h.os H) (he : freeze h ids = some h') :
  ∃ m', HR m' h'.os H ∧ Ext m h H m' h' H ∧ (∀ id ∈ ids, ∃ t l, h'.os[id]? = some (.fro t l)) ∧ h'.os.length = h.os.length ∧
   (∀ id, id ∈ ids → ∀ i pos ver ct v', RV m h.os (.nest id i pos ver ct) v' → RV m' h'.os (un1 h (.nest id i pos ver ct)) v') := by
 obtain ⟨a1, a2⟩ := freeze_A ids he
 obtain ⟨m', b1, b2, b3, b4, b5, b6, b7, b8, b9⟩ := freezeA_sound (m := m) ids hR a1
 obtain ⟨k, d1, d2⟩ := b5
 refine ⟨m', b1, ⟨a2, b2, Nat.le_refl _, fun _ _ _ => rfl, fun b c h => (b8 b c h).imp id .inl, ⟨_, d1, fun hg b c hb => ?_, fun _ _ _ _ => rfl, fun i b hb => .inl (b3 i b hb)⟩, fun _ _ k d _ _ hd => b3 k d hd⟩, b4, b7, b9⟩
 rw [← d2 (by
  cases k with
  | zero => rfl
  | succ k => exact absurd (by simp [List.replicate_succ]) hg)]
 exact hb
theorem calm_of {os : List TObj} : ∀ (cs : List TV), (∀ id ∈ ownIds cs, ∃ t l, os[id]? = some (.fro t l)) → ∀ u ∈ cs, Calm os u := by
 intro cs
 induction cs with
 | nil => intro _ u hu; cases hu
 | cons a r ih =>
  intro hh u hu
  cases a with
  | own id =>
   rcases List.mem_cons.1 hu with rfl | hu
   ·exact hh id (by simp [ownIds])
   ·exact ih (fun i hi => hh i (by simp [ownIds, hi])) u hu
  | sub id lo n =>
   rcases List.mem_cons.1 hu with rfl | hu
   ·exact hh id (by simp [ownIds])
   ·exact ih (fun i hi => hh i (by simp [ownIds, hi])) u hu
  | nest id i pos ver ct =>
   rcases List.mem_cons.1 hu with rfl | hu
   ·trivial
   ·exact ih (fun i hi => hh i (by simp [ownIds, hi])) u hu
  | _ =>
   simp only [ownIds] at hh
   rcases List.mem_cons.1 hu with rfl | hu'
   ·trivial
   ·exact ih hh u hu'
theorem unN_rv {m m' : Mp} {h h' : THp} (hm : MapLe m h.os m' h'.os) {ids : List Nat} (h9 : ∀ id, id ∈ ids → ∀ i pos ver ct v', RV m h.os (.nest id i pos ver ct) v' → RV m' h'.os (un1 h (.nest id i pos ver ct)) v')
  {v : TV} {v' : Value} (hids : ∀ id ∈ ownIds v.cells, id ∈ ids) (hv : RV m h.os v v') : RV m' h'.os (unN h v) v' := by
 have one : ∀ (u : TV) (u' : Value), (∀ id ∈ ownIds [u], id ∈ ids) → RV m h.os u u' → RV m' h'.os (un1 h u) u' := fun u u' hu huv => by
  cases u with
  | nest id i pos ver ct => exact h9 id (hu id (by simp [ownIds])) _ _ _ _ _ huv
  | _ => exact huv.mono hm
 by_cases ha : ∃ cs, v = .agg cs
 ·obtain ⟨cs, rfl⟩ := ha
  cases hv with
  | agg _ arr hl hh =>
  simp only [unN]
  refine .agg _ _ (by simpa using hl) fun i a b => ?_
  simp only [List.getElem_map]
  refine one _ _ (fun id hid => hids id ?_) (hh i (by simpa using a) b)
  simp only [TV.cells]
  have key : ∀ (cs : List TV) (u : TV), u ∈ cs → ∀ id ∈ ownIds [u], id ∈ ownIds cs := by
   intro cs
   induction cs with
   | nil => intro u hu; cases hu
   | cons c r ih =>
    intro u hu id hid
    rcases List.mem_cons.1 hu with rfl | hu
    ·cases u <;> simp only [ownIds, List.mem_cons, List.not_mem_nil, or_false] at hid ⊢ <;> first | exact hid.elim | exact .inl hid
    ·have := ih u hu id hid
     cases c <;> simp only [ownIds] <;> first | exact this | exact List.mem_cons_of_mem _ this
  exact key cs _ (List.getElem_mem _) id hid
 ·have e : unN h v = un1 h v := by
   cases v with
   | agg cs => exact absurd ⟨cs, rfl⟩ ha
   | _ => rfl
  have ec : v.cells = [v] := by
   cases v with
   | agg cs => exact absurd ⟨cs, rfl⟩ ha
   | _ => rfl
  rw [e]
  exact one v v' (by rwa [ec] at hids) hv
theorem ownIds_un1 {h : THp} : ∀ (cs : List TV), ∀ id ∈ ownIds (cs.map (un1 h)), id ∈ ownIds cs := by
 intro cs
 induction cs with
 | nil => intro id hid; exact hid
 | cons c r ih =>
  intro id hid
  simp only [List.map_cons] at hid
  have hu : un1 h c = c ∨ ∃ u l, un1 h c = .deep u l := by
   unfold un1
   split
   ·exact .inr ⟨_, _, rfl⟩
   ·exact .inl rfl
  have up : id ∈ ownIds r → id ∈ ownIds (c :: r) := fun q => by
   cases c <;> simp only [ownIds] <;> first | exact q | exact List.mem_cons_of_mem _ q
  rcases hu with e | ⟨u, l, e⟩
  ·rw [e] at hid
   cases c <;> simp only [ownIds, List.mem_cons] at hid ⊢ <;> first | exact ih id hid | exact hid.imp _root_.id (ih id)
  ·rw [e] at hid
   simp only [ownIds] at hid
   exact up (ih id hid)
theorem unN_own {h : THp} {v : TV} : ∀ id ∈ ownIds (unN h v).cells, id ∈ ownIds v.cells := by
 by_cases ha : ∃ cs, v = .agg cs
 ·obtain ⟨cs, rfl⟩ := ha
  exact ownIds_un1 cs
 ·have e : unN h v = un1 h v := by
   cases v with
   | agg cs => exact absurd ⟨cs, rfl⟩ ha
   | _ => rfl
  have ec : v.cells = [v] := by
   cases v with
   | agg cs => exact absurd ⟨cs, rfl⟩ ha
   | _ => rfl
  have ec' : (un1 h v).cells = [un1 h v] := by
   unfold un1
   split
   ·rfl
   ·exact ec
  rw [e, ec, ec']
  exact ownIds_un1 [v]
end Go.TM
