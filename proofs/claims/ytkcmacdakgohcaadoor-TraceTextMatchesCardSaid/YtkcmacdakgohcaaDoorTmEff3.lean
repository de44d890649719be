/- The operations that make rows. -/
import Derived.Test.YtkcmacdakgohcaaDoorTmEff2
set_option linter.unusedVariables false
set_option linter.unusedSimpArgs false
set_option linter.unusedSectionVars false
namespace Go.TM
open Go Go.AM
variable {P : Program}

/-- A row made of new cells. -/
theorem push_row {m : Mp} {h : THp} {H : AH} (hR : HR m h.os H) {T : Ty} {l : List T.den} {c : List Value} {e : Nat} (hl : c.length = l.length * T.size) (hr : Rows (DC m.G T) T.size c l) {k : Nat} (hk : k = l.length) :
    OpOK m h H (some (.slice (some ⟨H.next, 0, none⟩) k T.size, H.push (.cells c true T.size e))) (.own h.os.length) (h.push (.row true T l e)) := by
  subst hk
  obtain ⟨k1, k2⟩ := push_new hR (.row true T l e) (.cells c true T.size e) (.inr ⟨H.next, c, updM_self _ _ _, by rw [AH.get_push, if_pos rfl], by omega, hr⟩)
  refine ⟨_, _, _, rfl, k1, k2, .own _ _ ?_⟩
  unfold OwnR
  simp only [THp.push, List.getElem?_concat_length]
  exact .inr ⟨H.next, updM_self _ _ _, rfl⟩

theorem tmakeSlice_sound {m : Mp} {h : THp} {H : AH} (hR : HR m h.os H) {t : Nat} {l c : TV} {l' c' : Value} (hl : RV m h.os l l') (hc : RV m h.os c c') {cs : List Bool} {v : TV} {h' : THp} (he : tmakeSlice P t l c h = some (cs, v, h')) (hcs : cOK cs) :
    OpOK m h H (amakeSlice P t l' c' H) v h' := by
  unfold tmakeSlice at he
  split at he
  · rename_i e k n k2 n2 hu
    cases hl with
    | int _ _ =>
    cases hc with
    | int _ _ =>
    split at he
    · rename_i T by_ hT hby
      obtain ⟨hs, ha, hz⟩ := elemTy_some hT
      split at he
      · rename_i hz0
        cases he
        obtain ⟨z, z1, z2, z3⟩ := zeroOk_sound hz0 m.G
        obtain ⟨c1, c2, c3⟩ := rg_true hcs.head
        have c4 := le_true hcs.tail.head
        have c5 := le_true hcs.tail.tail.head
        obtain ⟨r1, r2⟩ := Rows.replicate (R := DC m.G T) (sz := T.size) z3 (by simpa using z2) n.toNat
        have := push_row hR (e := e) (l := List.replicate n.toNat T.dflt) (c := repeatCells z.cells.toList n.toNat) (by rw [r2, List.length_replicate]) r1 (k := n.toNat) (by simp)
        have e1 : amakeSlice P t (.int k n) (.int k2 n2) H = some (.slice (some ⟨H.next, 0, none⟩) n.toNat T.size, H.push (.cells (repeatCells z.cells.toList n.toNat) true T.size e)) := by
          simp only [amakeSlice, hu, hs, hby, z1]
          rw [if_pos ⟨c2, c3, by simpa using c4, by simpa [ml] using c5, hz, z2⟩]
        rw [e1]
        exact this
      · cases he
    · cases he
  · cases he

/-! Literals of rows -/
def VC (G : Nat → Option (List Value)) (T : Ty) (x : T.den) (v : Value) : Prop := v.cells.toList.length = T.size ∧ DC G T x v.cells.toList
theorem one_cells {v : Value} (h : AM.one v = true) : v.cells = #[v] := by cases v <;> first | rfl | cases h
theorem decV_calm {m : Mp} {h : THp} {T : Ty} {v : TV} {x : T.den} (hd : decV h T v = some x) (hc : ∀ u ∈ v.cells, Calm h.os u) {v' : Value} (hv : RV m h.os v v') : VC m.G T x v' := by
  have gen : ∀ (T : Ty) (x : T.den), (match decC h T [v] with | some (x, []) => some x | _ => none) = some x → v.cells = [v] → VC m.G T x v' := by
    intro T x hd hcv
    split at hd
    · rename_i y hy
      cases hd
      obtain ⟨v1, v2, e1, e2, e3, -⟩ := decC_calm _ _ _ _ _ hy (by rw [← hcv]; exact hc) (RL.cons hv .nil)
      have := e3.nil_inv
      subst this
      rw [List.append_nil] at e1
      subst e1
      have h1 := DC.one _ _ _ e2
      simp only [List.all_cons, List.all_nil, Bool.and_true] at h1
      have h2 := one_cells h1
      unfold VC
      rw [h2]
      exact ⟨e2.length, e2⟩
    · cases hd
  unfold decV at hd
  split at hd
  · rename_i a cs
    split at hd
    · rename_i y hy
      cases hd
      cases hv with
      | agg _ arr hl hh =>
      obtain ⟨v1, v2, e1, e2, e3, -⟩ := decC_calm _ _ _ _ _ hy hc (RL.ofArr hl hh)
      have := e3.nil_inv
      subst this
      rw [List.append_nil] at e1
      subst e1
      exact ⟨DC.length (.st a) _ _ e2, e2⟩
    · cases hd
  · cases hd
  · cases hd
  · cases hd
  · rename_i hna hnb
    refine gen _ _ hd ?_
    cases v with
    | agg cs => simp_all
    | _ => rfl

theorem decEach_calm {m : Mp} {h : THp} {T : Ty} : ∀ (vs : List TV) (l : List T.den) (vs' : List Value), decEach h T vs = some l → (∀ u ∈ vs.flatMap (·.cells), Calm h.os u) → RL m h.os vs vs' →
    l.length = vs'.length ∧ ∀ (i : Nat) (h1 : i < l.length) (h2 : i < vs'.length), VC m.G T l[i] vs'[i] := by
  intro vs
  induction vs with
  | nil =>
    intro l vs' hd hc hr
    cases hd
    have := hr.nil_inv
    subst this
    exact ⟨rfl, fun i h1 => by simp at h1⟩
  | cons v r ih =>
    intro l vs' hd hc hr
    obtain ⟨v', r', rfl, h1, h2⟩ := hr.cons_inv
    simp only [decEach] at hd
    split at hd
    · rename_i x hx
      split at hd
      · rename_i l' hl'
        cases hd
        obtain ⟨g1, g2⟩ := ih l' r' hl' (fun u hu => hc u (by rw [List.flatMap_cons]; exact List.mem_append_right _ hu)) h2
        refine ⟨by simp [g1], fun i p q => ?_⟩
        cases i with
        | zero => exact decV_calm hx (fun u hu => hc u (by rw [List.flatMap_cons]; exact List.mem_append_left _ hu)) h1
        | succ i => exact g2 i (by simpa using p) (by simpa using q)
      · cases hd
    · cases hd

theorem splice_block {c : List Value} {off : Nat} {vs : List Value} (h : off + vs.length ≤ c.length) : (splice c off vs).length = c.length := by simp [splice]; omega
theorem fill_range {T : Ty} {G : Nat → Option (List Value)} (hz : T.size ≠ 0) : ∀ (vs' : List Value) (l : List T.den) (k : Nat) (cs : List Value), l.length = vs'.length → (∀ (i : Nat) (h1 : i < l.length) (h2 : i < vs'.length), VC G T l[i] vs'[i]) → (k + vs'.length) * T.size ≤ cs.length →
    ∃ cs', fillL (fun i => some (i * T.size, T.size)) cs ((List.range' k vs'.length).zip vs') = some cs' ∧ cs'.length = cs.length ∧ (cs'.take (k * T.size) = cs.take (k * T.size)) ∧ Rows (DC G T) T.size (cs'.drop (k * T.size)) l := by
  intro vs'
  induction vs' with
  | nil =>
    intro l k cs hl hv hk
    have : l = [] := List.eq_nil_of_length_eq_zero hl
    subst this
    exact ⟨cs, rfl, rfl, rfl, .nil⟩
  | cons v r ih =>
    intro l k cs hl hv hk
    cases l with
    | nil => simp at hl
    | cons x l =>
      obtain ⟨g1, g2⟩ := hv 0 (by simp) (by simp)
      simp only [List.getElem_cons_zero] at g1 g2
      simp only [List.length_cons] at hk hl
      have hk1 : k * T.size + T.size ≤ cs.length := by
        have := mul_succ_le (sz := T.size) (show k < k + (r.length + 1) by omega)
        omega
      have hsl : (splice cs (k * T.size) v.cells.toList).length = cs.length := splice_block (by rw [g1]; exact hk1)
      obtain ⟨cs', e1, e2, e3, e4⟩ := ih l (k + 1) (splice cs (k * T.size) v.cells.toList) (by omega) (fun i p q => by have := hv (i + 1) (by simpa using p) (by simpa using q); simpa only [List.getElem_cons_succ] using this)
        (by rw [hsl, show k + 1 + r.length = k + (r.length + 1) by omega]; exact hk)
      rw [Nat.add_mul, Nat.one_mul] at e3 e4
      refine ⟨cs', ?_, e2.trans hsl, ?_, ?_⟩
      · simp only [List.length_cons, List.range'_succ, List.zip_cons_cons, fillL]
        rw [if_neg (by simp only [← Array.length_toList, g1]; omega)]
        exact e1
      · have := congrArg (List.take (k * T.size)) e3
        rw [List.take_take, List.take_take, Nat.min_eq_left (by omega)] at this
        rw [this]
        unfold splice
        rw [List.append_assoc, List.take_append_of_le_length (by simp; omega), List.take_take, Nat.min_self]
      · intro i hi
        have hchunk : ∀ j, ((cs'.drop (k * T.size)).drop (j * T.size)).take T.size = (cs'.drop (k * T.size + j * T.size)).take T.size := fun j => by rw [List.drop_drop]
        cases i with
        | zero =>
          refine ⟨by rw [List.length_drop, e2, hsl]; omega, ?_⟩
          have hh : ((cs'.drop (k * T.size)).drop (0 * T.size)).take T.size = v.cells.toList := by
            rw [Nat.zero_mul, List.drop_zero]
            have e5 : (cs'.drop (k * T.size)).take T.size = (cs'.take (k * T.size + T.size)).drop (k * T.size) := by
              rw [List.drop_take]; congr 1; omega
            rw [e5, e3]
            unfold splice
            rw [List.drop_take]
            have : k * T.size + T.size - k * T.size = T.size := by omega
            rw [this, List.append_assoc, List.drop_append_of_le_length (by simp; omega), List.drop_eq_nil_of_le (by simp; omega), List.nil_append, List.take_append_of_le_length (by omega), List.take_of_length_le (by omega)]
          rw [hh]; exact g2
        | succ i =>
          have hi' : i < l.length := by simpa using hi
          obtain ⟨f1, f2⟩ := e4 i hi'
          rw [List.length_drop] at f1
          have e6 : (i + 1) * T.size = T.size + i * T.size := by rw [Nat.add_mul, Nat.one_mul, Nat.add_comm]
          refine ⟨by rw [List.length_drop, e6]; omega, ?_⟩
          rw [hchunk, e6, ← Nat.add_assoc]
          rw [List.drop_drop] at f2
          exact f2

theorem repeatCells_length (z : List Value) (n : Nat) : (repeatCells z n).length = n * z.length := by
  induction n with
  | zero => simp [repeatCells]
  | succ n ih => simp [repeatCells, ih, Nat.add_mul, Nat.add_comm]
theorem zip_self : ∀ (l : List (Nat × Value)), (l.map (·.1)).zip (l.map (·.2)) = l := by
  intro l
  induction l with
  | nil => rfl
  | cons a r ih => simp only [List.map_cons, List.zip_cons_cons, ih]
theorem tbuildSlice_sound {m : Mp} {h : THp} {H : AH} (hR : HR m h.os H) {t n : Nat} {parts : List (Nat × TV)} {parts' : List (Nat × Value)} (hp : parts.map (·.1) = parts'.map (·.1)) (hv : RL m h.os (parts.map (·.2)) (parts'.map (·.2)))
    {c : List Bool} {v : TV} {h' : THp} (he : tbuildSlice P t n parts h = some (c, v, h')) : OpOK m h H (abuildSlice P t n parts' H) v h' := by
  unfold tbuildSlice at he
  split at he
  · rename_i e hu
    split at he
    · rename_i T hT
      obtain ⟨hs, ha, hz⟩ := elemTy_some hT
      split at he
      · rename_i hc
        obtain ⟨c1, c2, c3⟩ := hc
        split at he
        · rename_i h1 hf
          split at he
          · rename_i l hl
            cases he
            obtain ⟨m1, k1, k2, k3, k4⟩ := freeze_sound hR hf
            have hcalm : ∀ u ∈ (parts.map (·.2)).flatMap (·.cells), Calm h1.os u := by
              have e1 : (parts.map (·.2)).flatMap (·.cells) = parts.flatMap (·.2.cells) := by rw [List.flatMap_map]
              rw [e1]
              exact calm_of _ k3
            obtain ⟨g1, g2⟩ := decEach_calm _ _ _ hl hcalm (hv.mono k2.le)
            obtain ⟨z, z1, z2, z3⟩ := zeroOk_sound c3 m1.G
            have hlen : (parts'.map (·.2)).length = n := by
              have := congrArg List.length (hp.symm.trans c1)
              simpa using this
            have hpz : parts' = (List.range' 0 (parts'.map (·.2)).length).zip (parts'.map (·.2)) := by
              rw [hlen, ← List.range_eq_range', ← c1, hp]
              exact (zip_self parts').symm
            obtain ⟨cs', f1, f2, f3, f4⟩ := fill_range hz (parts'.map (·.2)) l 0 (repeatCells z.cells.toList n) g1 g2 (by rw [repeatCells_length, hlen, Nat.zero_add]; simp [z2])
            rw [← hpz] at f1
            rw [Nat.zero_mul, List.drop_zero] at f4
            have hcl : cs'.length = l.length * T.size := by rw [f2, repeatCells_length, g1, hlen]; simp [z2]
            have := push_row k1 (e := e) hcl f4 (k := n) (by rw [g1, hlen])
            obtain ⟨m', v', H', q1, q2, q3, q4⟩ := this
            refine ⟨m', v', H', ?_, q2, k2.trans hR q3, q4⟩
            rw [← q1]
            simp only [abuildSlice, hu, hs, z1]
            rw [if_pos ⟨c2, hz, z2⟩, f1]
            rfl
          · cases he
        · cases he
      · cases he
    · cases he
  · cases he

/-! Append -/
theorem DS.first {G : Nat → Option (List Value)} {H : AH} (hG : ∀ b c, G b = some c → ∃ own sz ty, H.get b = .cells c own sz ty) {T : Ty} {l : List T.den} {v : Value} (h : DS G T.size (DC G T) l v) :
    ∃ new, alenOf v = some l.length ∧ afirst T.size l.length v H = some new ∧ new.length = l.length * T.size ∧ Rows (DC G T) T.size new l := by
  rcases h with ⟨rfl, rfl⟩ | ⟨s, cs, x, rfl, hl, hr⟩ | ⟨b, off, z, c, rfl, hz', hg, hl, hr⟩
  · exact ⟨[], rfl, rfl, by simp, .nil⟩
  · exact ⟨cs.toList.take (l.length * T.size), rfl, by simp only [afirst]; rw [if_pos hl], by simp; omega, hr.take (by simpa using hl)⟩
  · obtain ⟨own, sz, ty, e⟩ := hG b c hg
    exact ⟨(c.drop off).take (l.length * T.size), rfl, by simp only [afirst, e]; rw [if_pos hl], by simp; omega, hr.take (by simp; omega)⟩
/-- A row's cells, in a heap that has turned at one block alone. -/
theorem decS_rows {m : Mp} {h : THp} {H H1 : AH} (hR : HR m h.os H) {T : Ty} {x : TV} {x' : Value} (hx : RV m h.os x x') {l : List T.den} (he : decS h T x = some l)
    (hH : ∀ b, (m.G b ≠ none ∨ ∃ i, m.ρ i = some b ∧ notAt i x = false) → H1.get b = H.get b) :
    ∃ new, alenOf x' = some l.length ∧ afirst T.size l.length x' H1 = some new ∧ new.length = l.length * T.size ∧ Rows (DC m.G T) T.size new l := by
  have hG : ∀ b c, m.G b = some c → ∃ own sz ty, H1.get b = .cells c own sz ty := fun b c hb => by
    obtain ⟨-, own, sz, ty, e⟩ := hR.gr b c hb
    exact ⟨own, sz, ty, by rw [hH b (.inl (by rw [hb]; simp))]; exact e⟩
  cases hx with
  | nilS => cases he; exact ⟨[], rfl, rfl, by simp, .nil⟩
  | deep T' r _ hd =>
    obtain ⟨e, rfl⟩ := castL_some he
    subst e
    exact hd.first hG
  | own id _ hx =>
    unfold OwnR at hx
    simp only [decS] at he
    split at he
    · rename_i w t' r' tid hat
      obtain ⟨e, rfl⟩ := castL_some he
      subst e
      have ho := at_some hat (by simp)
      rw [ho] at hx
      rcases hx with ⟨-, rfl, rfl⟩ | ⟨b, hb, rfl⟩
      · exact ⟨[], rfl, rfl, by simp, .nil⟩
      · rcases hR.obj id _ ho with ⟨e1, -⟩ | ⟨b', c, e1, e2, e3, e4⟩
        · rw [hb] at e1; cases e1
        rw [hb] at e1; cases e1
        have e5 := hH b (.inr ⟨id, hb, by simp [notAt]⟩)
        exact ⟨(c.drop 0).take (r'.length * t'.size), rfl, by simp only [afirst, e5, e2]; rw [if_pos (by omega)], by simp; omega, by simpa using e4.take e3⟩
    · rename_i t' r' hat
      obtain ⟨e, rfl⟩ := castL_some he
      subst e
      have ho := at_some hat (by simp)
      rw [ho] at hx
      exact DS.first hG hx
    · cases he
  | sub id lo n _ hx =>
    unfold SubR at hx
    simp only [decS] at he
    split at he
    · rename_i w t' r' tid hat
      obtain ⟨e, rfl⟩ := castL_some he
      subst e
      have ho := at_some hat (by simp)
      rw [ho] at hx
      rcases hx with ⟨-, rfl, rfl, rfl, rfl⟩ | ⟨b, hb, hle, rfl⟩
      · exact ⟨[], by simp [alenOf, cut], rfl, by simp [cut], by simpa [cut] using Rows.nil⟩
      · rcases hR.obj id _ ho with ⟨e1, -⟩ | ⟨b', c, e1, e2, e3, e4⟩
        · rw [hb] at e1; cases e1
        rw [hb] at e1; cases e1
        have e5 := hH b (.inr ⟨id, hb, by simp [notAt]⟩)
        have hlen : (cut r' lo n).length = n := by simp [cut]; omega
        have hmul : lo * t'.size + n * t'.size ≤ r'.length * t'.size := by rw [← Nat.add_mul]; exact Nat.mul_le_mul_right _ hle
        refine ⟨(c.drop (lo * t'.size)).take (n * t'.size), by rw [hlen]; rfl, by rw [hlen]; simp only [afirst, e5, e2]; rw [if_pos (by omega)], by rw [hlen]; simp; omega, ?_⟩
        have := (drop_mul_rows e4 lo n hle).take (by simp only [List.length_take, List.length_drop]; rw [Nat.min_eq_left (by omega)]; omega)
        have h2 : ((r'.drop lo).take n).length = n := hlen
        rw [h2] at this
        exact this
    · rename_i t' r' hat
      obtain ⟨e, rfl⟩ := castL_some he
      subst e
      have ho := at_some hat (by simp)
      rw [ho] at hx
      exact DS.first hG hx
    · cases he
  | _ => cases he
theorem newOf_sound {m : Mp} {h : THp} {H H1 : AH} (hR : HR m h.os H) {T : Ty} (hz : T.size ≠ 0) {u : TypeDesc} {x : TV} {x' : Value} (hx : RV m h.os x x') {l : List T.den} (he : newOf P T u x h = some l)
    (hH : ∀ b, (m.G b ≠ none ∨ ∃ i, m.ρ i = some b ∧ notAt i x = false) → H1.get b = H.get b) :
    (∀ k, u ≠ .int k) ∧ ∃ new, alenOf x' = some l.length ∧ afirst T.size l.length x' H1 = some new ∧ new.length = l.length * T.size ∧ Rows (DC m.G T) T.size new l ∧ new.all AM.one = true := by
  have fin : (∃ new, alenOf x' = some l.length ∧ afirst T.size l.length x' H1 = some new ∧ new.length = l.length * T.size ∧ Rows (DC m.G T) T.size new l) → ∃ new, alenOf x' = some l.length ∧ afirst T.size l.length x' H1 = some new ∧ new.length = l.length * T.size ∧ Rows (DC m.G T) T.size new l ∧ new.all AM.one = true := by
    rintro ⟨new, a, b, c, d⟩
    exact ⟨new, a, b, c, d, d.one c hz⟩
  cases u with
  | string =>
    refine ⟨fun k q => (by cases q), fin ?_⟩
    cases x with
    | str s =>
      cases T with
      | int k =>
        cases k with
        | u8 =>
          cases he
          cases hx
          refine ⟨s.map fun b => .int .u8 b.toNat, by simp [alenOf, ByteArray.size, byts], ?_, by simp [Ty.size, byts], fun i hi => ?_⟩
          · simp only [afirst, Ty.size, if_true, byts, List.length_map]
            have : ((⟨s.toArray⟩ : ByteArray).extract 0 s.length).data.toList = s := by
              rw [ByteArray.data_extract]
              simp
            rw [this]
          · have hi' : i < s.length := by simpa [byts] using hi
            refine ⟨by simp [Ty.size]; omega, ?_⟩
            show _ = _
            simp only [Ty.size, Nat.mul_one, byts, List.getElem_map]
            rw [List.drop_eq_getElem_cons (by simpa using hi')]
            simp
        | _ => cases he
      | _ => cases he
    | _ => cases he
  | slice e => exact ⟨fun k q => (by cases q), fin (decS_rows hR hx he hH)⟩
  | _ => cases he

def aapp (P : Program) (ts : List TypeId) (args : List Value) (H : AH) : Option (Value × AH) := match aappendZ P ts args H with | some r => some r | none => aappend P ts args (atrunc args H)
theorem OpOK.after {m m1 : Mp} {h h1 h' : THp} {H H1 : AH} {r : Option (Value × AH)} {v : TV} (hR : HR m h.os H) (e : Ext m h H m1 h1 H1) (k : OpOK m1 h1 H1 r v h') : OpOK m h H r v h' := by
  obtain ⟨m', v', H', q1, q2, q3, q4⟩ := k
  exact ⟨m', v', H', q1, q2, e.trans hR q3, q4⟩
theorem lim_mul {n by_ : Nat} (h : n ≤ lim (by_ + 1)) : n * (by_ + 1) ≤ 2 ^ 47 ∧ n ≤ 2 ^ 62 := by
  unfold lim at h
  have h1 : n * (by_ + 1) ≤ 2 ^ 47 := (Nat.le_div_iff_mul_le (by omega)).1 h
  refine ⟨h1, ?_⟩
  have : n * 1 ≤ n * (by_ + 1) := Nat.mul_le_mul_left _ (by omega)
  omega
def appTail (s : Value) (size by_ : Nat) (z : Value) (n : Nat) (new : List Value) (H : AH) (e : TypeId) : Option (Value × AH) :=
  if new.all AM.one = true ∧ size ≠ 0 ∧ z.cells.size = size then
    match s with
    | .slice none 0 0 =>
      if n = 0 then some (s, H)
      else if n * by_ ≤ 2 ^ 47 ∧ n ≤ 2 ^ 62 then some (.slice (some ⟨H.next, 0, none⟩) n size, H.push (.cells new true size e)) else none
    | .slice (some ⟨b, 0, none⟩) len cs => match H.get b with
      | .cells c true sz ty =>
        if sz = size ∧ cs = size ∧ ty = e ∧ c.length = len * size then
          if n = 0 then some (s, H)
          else if (len + n) * by_ ≤ 2 ^ 47 ∧ len + n ≤ 2 ^ 62 then some (.slice (some ⟨H.next, 0, none⟩) (len + n) size, (H.set b .dead).push (.cells (c ++ new) true size ty)) else none
        else none
      | _ => none
    | _ => none
  else none
theorem aappend_eq {t u e : Nat} {ud : TypeDesc} {size by_ n : Nat} {z s x' : Value} {ts : List TypeId} {as new : List Value} {H : AH} (hni : ∀ k, ud ≠ .int k)
    (hu : P.underlying t = some (.slice e)) (hud : P.underlying u = some ud) (hs : sizeOf? P e = some size) (hby : bytesOf? P e = some by_) (hz : zero? P e = some z) (hn : alenOf x' = some n) (hf : afirst size n x' H = some new) :
    aappend P (t :: u :: ts) (s :: x' :: as) H = appTail s size by_ z n new H e := by
  unfold aappend appTail
  simp only [hu, hud, hs, hby, hz, hn]
  cases ud <;> first | exact absurd rfl (hni _) | (simp only [hf]; rfl)
/-- Appending to nil. -/
theorem append_nil {m : Mp} {h : THp} {H : AH} (hR : HR m h.os H) {t u e : Nat} {ud : TypeDesc} {T : Ty} {by_ : Nat} {z x' : Value} {ts : List TypeId} {as : List Value} {l : List T.den} {new : List Value}
    (hu : P.underlying t = some (.slice e)) (hud : P.underlying u = some ud) (hs : sizeOf? P e = some T.size) (hby : bytesOf? P e = some (by_ + 1)) (hz : zero? P e = some z) (hz2 : z.cells.size = T.size) (hz0 : T.size ≠ 0)
    (hni : ∀ k, ud ≠ .int k) (hn : alenOf x' = some l.length) (hf : afirst T.size l.length x' H = some new) (hl : new.length = l.length * T.size) (hr : Rows (DC m.G T) T.size new l) (ho : new.all AM.one = true) (hle : l.length ≤ lim (by_ + 1)) :
    OpOK m h H (aappend P (t :: u :: ts) (.slice none 0 0 :: x' :: as) H) (.own h.os.length) (h.push (.row true T l e)) := by
  obtain ⟨b1, b2⟩ := lim_mul hle
  by_cases h0 : l.length = 0
  · have hl0 : l = [] := List.eq_nil_of_length_eq_zero h0
    subst hl0
    have e1 : aappend P (t :: u :: ts) (.slice none 0 0 :: x' :: as) H = some (.slice none 0 0, H) := by
      rw [aappend_eq hni hu hud hs hby hz hn hf]
      unfold appTail
      rw [if_pos ⟨ho, hz0, hz2⟩]
      simp
    rw [e1]
    obtain ⟨k1, k2, k3⟩ := push_nil hR T true e
    exact ⟨_, _, _, rfl, k1, k2, k3⟩
  · have e1 : aappend P (t :: u :: ts) (.slice none 0 0 :: x' :: as) H = some (.slice (some ⟨H.next, 0, none⟩) l.length T.size, H.push (.cells new true T.size e)) := by
      rw [aappend_eq hni hu hud hs hby hz hn hf]
      unfold appTail
      rw [if_pos ⟨ho, hz0, hz2⟩]
      simp only [h0, if_false]
      rw [if_pos ⟨b1, b2⟩]
    rw [e1]
    exact push_row hR hl hr rfl
theorem atrunc_nil {as : List Value} {H : AH} : atrunc (.slice none 0 0 :: as) H = H := rfl
/-- Appending to a row's first part. -/
theorem append_pre {m : Mp} {h : THp} {H : AH} (hR : HR m h.os H) {t u e : Nat} {ud : TypeDesc} {T : Ty} {by_ : Nat} {z : Value} {ts : List TypeId} {as : List Value} {l new : List T.den} {id n0 : Nat} {x : TV} {x' s' : Value}
    (hu : P.underlying t = some (.slice e)) (hud : P.underlying u = some ud) (hs : sizeOf? P e = some T.size) (hby : bytesOf? P e = some (by_ + 1)) (hz : zero? P e = some z) (hz2 : z.cells.size = T.size) (hz0 : T.size ≠ 0)
    (ho : h.os[id]? = some (.row true T l e)) (hn0 : n0 ≤ l.length) (hsv : (m.ρ id = none ∧ l = [] ∧ s' = .slice none 0 0) ∨ ∃ b, m.ρ id = some b ∧ s' = .slice (some ⟨b, 0, none⟩) n0 T.size)
    (hx : RV m h.os x x') (hnot : notAt id x = true) (hnew : newOf P T ud x h = some new) (hle : n0 + new.length ≤ lim (by_ + 1)) :
    OpOK m h H (aappend P (t :: u :: ts) (s' :: x' :: as) (atrunc (s' :: x' :: as) H)) (.own h.os.length) ((h.set id .dead).push (.row true T (l.take n0 ++ new) e)) := by
  have hlen : (h.set id .dead).os.length = h.os.length := by simp [THp.set]
  rcases hsv with ⟨hn, rfl, rfl⟩ | ⟨b, hb, rfl⟩
  · rw [atrunc_nil]
    obtain ⟨hni, nc, f1, f2, f3, f4, f5⟩ := newOf_sound (H1 := H) hR hz0 hx hnew (fun _ _ => rfl)
    obtain ⟨k1, k2⟩ := kill_ext (H' := H) hR ho rfl (fun _ _ => rfl)
    have hG : (updM m id none).G = m.G := rfl
    have := append_nil k1 (ts := ts) (as := as) hu hud hs hby hz hz2 hz0 hni f1 f2 f3 (by rw [hG]; exact f4) f5 (by simp at hn0; omega)
    rw [hlen] at this
    have e1 : List.take n0 ([] : List T.den) ++ new = new := by simp
    rw [e1]
    exact this.after hR k2
  · rcases hR.obj id _ ho with ⟨e1, -⟩ | ⟨b', c, e1, e2, e3, e4⟩
    · rw [hb] at e1; cases e1
    rw [hb] at e1; cases e1
    have hmul : n0 * T.size ≤ l.length * T.size := Nat.mul_le_mul_right _ hn0
    -- the block, cut off
    obtain ⟨H1, hH1, g1, g2, g3⟩ : ∃ H1, atrunc (.slice (some ⟨b, 0, none⟩) n0 T.size :: x' :: as) H = H1 ∧ H1.next = H.next ∧ (∀ c, c ≠ b → H1.get c = H.get c) ∧ H1.get b = .cells (c.take (n0 * T.size)) true T.size e := by
      obtain ⟨k, hk⟩ : ∃ k, T.size = k + 1 := ⟨T.size - 1, by omega⟩
      refine ⟨_, rfl, ?_⟩
      rw [hk] at e2 ⊢
      simp only [atrunc, e2]
      split
      · refine ⟨rfl, fun d hd => by rw [AH.get_set, if_neg (fun q => hd q.symm)], by rw [AH.get_set, if_pos rfl]⟩
      · rename_i hlt
        refine ⟨rfl, fun _ _ => rfl, ?_⟩
        rw [e2, List.take_of_length_le (by omega)]
    rw [hH1]
    obtain ⟨hni, nc, f1, f2, f3, f4, f5⟩ := newOf_sound (H1 := H1) hR hz0 hx hnew (fun d hd => g2 d fun q => by
      subst q
      rcases hd with hd | ⟨i, hi, hi2⟩
      · exact hd (hR.disj id _ hb)
      · have := hR.inj _ _ _ hi hb
        subst this
        rw [hnot] at hi2; cases hi2)
    obtain ⟨b1, b2⟩ := lim_mul hle
    have hcl : (c.take (n0 * T.size)).length = n0 * T.size := by simp; omega
    have hr0 : Rows (DC m.G T) T.size (c.take (n0 * T.size)) (l.take n0) := by
      have hle0 : (l.take n0).length = n0 := by simp; omega
      have := drop_mul_rows e4 0 n0 (by omega)
      rw [Nat.zero_mul, List.drop_zero, List.drop_zero] at this
      have h2 := this.take (by rw [hle0]; omega)
      rwa [hle0] at h2
    have hl0 : (l.take n0).length = n0 := by simp; omega
    by_cases h0 : new.length = 0
    · have hn' : new = [] := List.eq_nil_of_length_eq_zero h0
      subst hn'
      have e5 : aappend P (t :: u :: ts) (.slice (some ⟨b, 0, none⟩) n0 T.size :: x' :: as) H1 = some (.slice (some ⟨b, 0, none⟩) n0 T.size, H1) := by
        rw [aappend_eq hni hu hud hs hby hz f1 f2]
        unfold appTail
        rw [if_pos ⟨f5, hz0, hz2⟩]
        simp only [g3]
        rw [if_pos ⟨trivial, trivial, trivial, hcl⟩]
        simp
      rw [e5, List.append_nil]
      obtain ⟨m', q1, q2, q3⟩ := move_ext (l' := l.take n0) hR ho hb g1 g2 g3 (by rw [hl0, hcl]; omega) hr0
      rw [hl0] at q3
      exact ⟨m', _, _, rfl, q1, q2, q3⟩
    · have e5 : aappend P (t :: u :: ts) (.slice (some ⟨b, 0, none⟩) n0 T.size :: x' :: as) H1 = some (.slice (some ⟨H1.next, 0, none⟩) (n0 + new.length) T.size, (H1.set b .dead).push (.cells (c.take (n0 * T.size) ++ nc) true T.size e)) := by
        rw [aappend_eq hni hu hud hs hby hz f1 f2]
        unfold appTail
        rw [if_pos ⟨f5, hz0, hz2⟩]
        simp only [g3]
        rw [if_pos ⟨trivial, trivial, trivial, hcl⟩]
        simp only [h0, if_false]
        rw [if_pos ⟨b1, b2⟩]
      rw [e5]
      obtain ⟨k1, k2⟩ := kill_ext (H' := H1.set b .dead) hR ho (by simp [g1]) (fun d hd => by
        have hdb : d ≠ b := fun q => hd (by rw [q]; exact hb)
        rw [AH.get_set, if_neg (fun q => hdb q.symm)]; exact g2 d hdb)
      have hG : (updM m id none).G = m.G := rfl
      have := push_row k1 (e := e) (l := l.take n0 ++ new) (c := c.take (n0 * T.size) ++ nc) (by rw [List.length_append, hcl, f3, List.length_append, hl0, Nat.add_mul]) (by rw [hG]; exact hr0.append (by rw [hcl, hl0]) f4) (k := n0 + new.length) (by rw [List.length_append, hl0])
      rw [hlen] at this
      exact OpOK.after hR k2 this
/-- Appending to bytes that are nil as long as there are none. -/
theorem append_buf {m : Mp} {h : THp} {H : AH} (hR : HR m h.os H) {t u e : Nat} {ud : TypeDesc} {T : Ty} {by_ : Nat} {z : Value} {ts : List TypeId} {as : List Value} {l new : List T.den} {id : Nat} {x : TV} {x' s' : Value}
    (hu : P.underlying t = some (.slice e)) (hud : P.underlying u = some ud) (hs : sizeOf? P e = some T.size) (hby : bytesOf? P e = some (by_ + 1)) (hz : zero? P e = some z) (hz2 : z.cells.size = T.size) (hz0 : T.size ≠ 0)
    (ho : h.os[id]? = some (.row true T l e)) (hsv : (m.ρ id = none ∧ l = [] ∧ s' = .slice none 0 0) ∨ ∃ b, m.ρ id = some b ∧ l ≠ [] ∧ s' = .slice (some ⟨b, 0, none⟩) l.length T.size)
    (hx : RV m h.os x x') (hnot : notAt id x = true) (hnew : newOf P T ud x h = some new) (hle : l.length + new.length ≤ lim (by_ + 1)) :
    OpOK m h H (aappend P (t :: u :: ts) (s' :: x' :: as) (atrunc (s' :: x' :: as) H)) (.buf h.os.length) ((h.set id .dead).push (.row true T (l ++ new) e)) := by
  have key := append_pre (n0 := l.length) hR (ts := ts) (as := as) hu hud hs hby hz hz2 hz0 ho (Nat.le_refl _) (hsv.imp _root_.id fun ⟨b, a1, _, a2⟩ => ⟨b, a1, a2⟩) hx hnot hnew hle
  rw [List.take_length] at key
  obtain ⟨m', v', H', q1, q2, q3, q4⟩ := key
  refine ⟨m', v', H', q1, q2, q3, .buf _ _ ?_⟩
  cases q4 with
  | own _ _ hx4 =>
  unfold OwnR at hx4
  unfold BufR
  have hlen : (h.set id .dead).os.length = h.os.length := by simp [THp.set]
  have hg : ((h.set id .dead).push (.row true T (l ++ new) e)).os[h.os.length]? = some (.row true T (l ++ new) e) := by
    rw [← hlen]; simp only [THp.push, List.getElem?_concat_length]
  rw [hg] at hx4 ⊢
  rcases hx4 with a | ⟨b, b1, b2⟩
  · exact .inl a
  · refine .inr ⟨b, b1, fun e0 => ?_, b2⟩
    obtain ⟨rfl, rfl⟩ := List.append_eq_nil_iff.1 e0
    rcases hsv with ⟨-, -, rfl⟩ | ⟨_, _, q, _⟩
    · obtain ⟨hni, nc, f1, f2, f3, f4, f5⟩ := newOf_sound (H1 := H) hR hz0 hx hnew (fun _ _ => rfl)
      have e1 : aappend P (t :: u :: ts) (.slice none 0 0 :: x' :: as) H = some (.slice none 0 0, H) := by
        rw [aappend_eq hni hu hud hs hby hz f1 f2]
        unfold appTail
        rw [if_pos ⟨f5, hz0, hz2⟩]
        simp
      rw [atrunc_nil, e1] at q1
      cases q1
      cases b2
    · exact absurd rfl q
theorem tappend_sound {m : Mp} {h : THp} {H : AH} (hR : HR m h.os H) {ts : List TypeId} {args : List TV} {args' : List Value} (ha : RL m h.os args args') {c : List Bool} {v : TV} {h' : THp} (he : tappend P ts args h = some (c, v, h')) (hc : cOK c) :
    OpOK m h H (aapp P ts args' H) v h' := by
  unfold tappend at he
  split at he
  · rename_i t u ts' s x xs
    obtain ⟨s', r1, rfl, hs', ha1⟩ := ha.cons_inv
    obtain ⟨x', r2, rfl, hx', ha2⟩ := ha1.cons_inv
    split at he
    · rename_i e ud hu hud
      split at he
      · rename_i T by_ hT hby
        obtain ⟨hs, hag, hz0⟩ := elemTy_some hT
        split at he
        · rename_i hzo
          obtain ⟨z, z1, z2, z3⟩ := zeroOk_sound hzo m.G
          split at he
          · -- zeros
            rename_i k n
            cases he
            cases hs' with
            | nilS =>
            cases hx' with
            | int _ _ =>
            have c1 := lt_true hc.head
            have c2 := fits_true hc.tail.head
            obtain ⟨b1, b2⟩ := lim_mul (show tn n ≤ lim (by_ + 1) by omega)
            obtain ⟨q1, q2⟩ := Rows.replicate (R := DC m.G T) (sz := T.size) z3 (by simpa using z2) n.toNat
            have e1 : aapp P (t :: u :: ts') (.slice none 0 0 :: .int .i64 n :: r2) H = some (.slice (some ⟨H.next, 0, none⟩) n.toNat T.size, H.push (.cells (repeatCells z.cells.toList n.toNat) true T.size e)) := by
              have e2 : aappendZ P (t :: u :: ts') (.slice none 0 0 :: .int .i64 n :: r2) H = some (.slice (some ⟨H.next, 0, none⟩) n.toNat T.size, H.push (.cells (repeatCells z.cells.toList n.toNat) true T.size e)) := by
                simp only [aappendZ, hu, hud, hs, hby, z1]
                rw [if_pos ⟨c1, b1, b2, hz0, z2⟩]
              unfold aapp
              rw [e2]
            rw [e1]
            exact push_row hR (by rw [q2, List.length_replicate]) q1 (by simp)
          · rename_i hnz
            split at he
            · rename_i new hnew
              have hZ : aappendZ P (t :: u :: ts') (s' :: x' :: r2) H = none := by
                have hnu : ∀ k, ud ≠ .int k := fun k q => by subst q; cases hnew
                unfold aappendZ
                cases s' <;> try rfl
                rename_i a n c
                cases a <;> try rfl
                cases n <;> try rfl
                cases c <;> try rfl
                cases x' <;> try rfl
                rename_i k _
                cases k <;> try rfl
                simp only [hu, hud]
                cases ud <;> first | rfl | exact absurd rfl (hnu _)
              unfold aapp
              rw [hZ]
              split at he
              · cases he
                cases hs' with
                | nilS =>
                rw [atrunc_nil]
                obtain ⟨hni, nc, f1, f2, f3, f4, f5⟩ := newOf_sound (H1 := H) hR hz0 hx' hnew (fun _ _ => rfl)
                exact append_nil hR hu hud hs hby z1 z2 hz0 hni f1 f2 f3 f4 f5 (by have := fits_true hc.head; simp only [len] at this; omega)
              · rename_i id
                split at he
                · rename_i hnot
                  split at he
                  · rename_i T' l tid hat
                    split at he
                    · rename_i e'; subst e'
                      split at he
                      · rename_i l' hl'
                        obtain ⟨eT, rfl⟩ := castL_some hl'
                        subst eT
                        cases he
                        have ho := at_some hat (by simp)
                        cases hs' with
                        | own _ _ hx =>
                        unfold OwnR at hx
                        rw [ho] at hx
                        have := append_pre (n0 := l.length) hR (ts := ts') (as := r2) hu hud hs hby z1 z2 hz0 ho (Nat.le_refl _) hx hx' hnot hnew (fits_true hc.head)
                        rw [List.take_length] at this
                        exact this
                      · cases he
                    · cases he
                  · cases he
                · cases he
              · rename_i id
                split at he
                · rename_i hnot
                  split at he
                  · rename_i T' l tid hat
                    split at he
                    · rename_i e'; subst e'
                      split at he
                      · rename_i l' hl'
                        obtain ⟨eT, rfl⟩ := castL_some hl'
                        subst eT
                        cases he
                        have ho := at_some hat (by simp)
                        cases hs' with
                        | buf _ _ hx =>
                        unfold BufR at hx
                        rw [ho] at hx
                        exact append_buf hR (ts := ts') (as := r2) hu hud hs hby z1 z2 hz0 ho hx hx' hnot hnew (fits_true hc.head)
                      · cases he
                    · cases he
                  · cases he
                · cases he
              · rename_i id n0
                split at he
                · rename_i hnot
                  split at he
                  · rename_i T' l tid hat
                    split at he
                    · rename_i e'; subst e'
                      split at he
                      · rename_i l' hl'
                        obtain ⟨eT, rfl⟩ := castL_some hl'
                        subst eT
                        cases he
                        have ho := at_some hat (by simp)
                        cases hs' with
                        | sub _ _ _ _ hx =>
                        unfold SubR at hx
                        rw [ho] at hx
                        have hn0 : n0 ≤ l.length := by
                          rcases hx with ⟨-, -, rfl, -, -⟩ | ⟨b, -, hle, -⟩ <;> omega
                        have hx2 : (m.ρ id = none ∧ l = [] ∧ s' = .slice none 0 0) ∨ ∃ b, m.ρ id = some b ∧ s' = .slice (some ⟨b, 0, none⟩) n0 T'.size := by
                          rcases hx with ⟨a1, -, rfl, a2, a3⟩ | ⟨b, a1, hle, a2⟩
                          · exact .inl ⟨a1, a2, a3⟩
                          · exact .inr ⟨b, a1, by rw [a2, Nat.zero_mul]⟩
                        exact append_pre (n0 := n0) hR (ts := ts') (as := r2) hu hud hs hby z1 z2 hz0 ho hn0 hx2 hx' hnot hnew (fits_true hc.head)
                      · cases he
                    · cases he
                  · cases he
                · cases he
              · cases he
            · cases he
        · cases he
      · cases he
    · cases he
  · cases he
end Go.TM
