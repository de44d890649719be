/- The operations that make rows. -/

import Derived.Test.YtgpligmjbecbjaaGreatDoorTmEff2
set_option linter.unusedVariables false
set_option linter.unusedSimpArgs false
set_option linter.unusedSectionVars false
namespace Go.TM
open Go Go.AM
variable {P : Program}

theorem push_row {m : Mp} {h : THp} {H : AH} (hR : HR m h.os H) {T : Ty} {l : List T.den} {c : List Value} {e : Nat} (hl : c.length = l.length * T.size) (hr : Rows (DC m.G T) T.size c l) {k : Nat} (hk : k = l.length) :
  OpOK m h H (some (.slice (some ⟨H.next, 0, none⟩) k T.size, H.push (.cells c true T.size e))) (.own h.os.length) (h.push (.row true T l e)) := by
 subst hk
 obtain ⟨k1, k2⟩ := push_new hR (.row true T l e) (.cells c true T.size e) (.inr ⟨H.next, c, updM_self _ _ _, by rw [AH.get_push, if_pos rfl], by omega, hr⟩)
 refine ⟨_, _, _, rfl, k1, k2, .own _ _ ?_⟩
 unfold OwnR
 simp only [THp.push, List.getElem?_concat_length]
 exact .inr ⟨H.next, updM_self _ _ _, rfl⟩

theorem zeroC_nc : ∀ (t : Ty) (cs r : List Value), zeroC t cs = some r → ∃ c, cs = c ++ r ∧ ∀ (m : Mp) (H : AH) (id j0 : Nat) (nt : List Nat) (pos : Nat), NC m H id j0 nt false t pos t.dflt c := by
 intro t
 induction t with
 | int k =>
  intro cs r h; cases cs with
  | nil => cases h
  | cons v cs => cases v with
   | int k' n =>
    simp only [zeroC] at h; split at h
    ·rename_i e; obtain ⟨rfl, rfl⟩ := e; cases h; exact ⟨[_], rfl, fun _ _ _ _ _ _ => rfl⟩
    ·cases h
   | _ => cases h
 | bool =>
  intro cs r h; cases cs with
  | nil => cases h
  | cons v cs => cases v with
   | bool b => cases b with
    | false => cases h; exact ⟨[_], rfl, fun _ _ _ _ _ _ => rfl⟩
    | true => cases h
   | _ => cases h
 | str =>
  intro cs r h; cases cs with
  | nil => cases h
  | cons v cs => cases v with
   | string s =>
    simp only [zeroC] at h; split at h
    ·rename_i e; cases h
     refine ⟨[_], rfl, fun _ _ _ _ _ _ => ?_⟩; obtain ⟨a⟩ := s; have : a = #[] := by apply Array.ext'; simpa using e
     subst this; rfl
    ·cases h
   | _ => cases h
 | slice t ih =>
  intro cs r h; cases cs with
  | nil => cases h
  | cons v cs => cases v with
   | slice a n c =>
    cases a with
    | none =>
     cases n with
     | zero => cases c with
      | zero => cases h; exact ⟨[_], rfl, fun _ _ _ _ _ _ => ⟨_, rfl, .inr (.inl ⟨rfl, rfl⟩)⟩⟩
      | succ c => cases h
     | succ n => cases h
    | some a => cases h
   | _ => cases h
 | unit =>
  intro cs r h; have : some cs = some r := by cases cs <;> exact h
  cases this; exact ⟨[], rfl, fun _ _ _ _ _ _ => rfl⟩
 | pair a b iha ihb =>
  intro cs r h; have h' : (match zeroC a cs with | some r => zeroC b r | none => none) = some r := by cases cs <;> exact h
  split at h'
  ·rename_i r1 h1
   obtain ⟨c1, rfl, e1⟩ := iha _ _ h1; obtain ⟨c2, rfl, e2⟩ := ihb _ _ h'; exact ⟨c1 ++ c2, by simp, fun _ _ _ _ _ _ => ⟨c1, c2, rfl, e1 _ _ _ _ _ _, e2 _ _ _ _ _ _⟩⟩
  ·cases h'
 | st a ih =>
  intro cs r h; have h' : zeroC a cs = some r := by cases cs <;> exact h
  exact ih _ _ h'
theorem zeroOk_nc {e : Nat} {T : Ty} (h : zeroOk P e T = true) {z : Value} (hz : zero? P e = some z) : ∀ (m : Mp) (H : AH) (id j0 : Nat) (nt : List Nat) (pos : Nat), NC m H id j0 nt false T pos T.dflt z.cells.toList := by
 unfold zeroOk at h
 rw [hz] at h
 simp only at h
 split at h
 ·rename_i hc
  obtain ⟨c, e1, e2⟩ := zeroC_nc _ _ _ hc; simp only [List.append_nil] at e1; rw [← e1] at e2; exact e2
 ·cases h
theorem repeat_chunk {z : List Value} {sz : Nat} (hz : z.length = sz) : ∀ (n i : Nat), i < n → ((repeatCells z n).drop (i * sz)).take sz = z := by
 intro n
 induction n with
 | zero => intro i hi; omega
 | succ n ih =>
  intro i hi; simp only [repeatCells]; cases i with
  | zero => rw [Nat.zero_mul, List.drop_zero, List.take_append_of_le_length (by omega), List.take_of_length_le (by omega)]
  | succ i =>
   rw [List.drop_append, List.drop_eq_nil_of_le (by rw [hz, Nat.add_mul]; omega), List.nil_append]; rw [show (i + 1) * sz - z.length = i * sz by rw [hz, Nat.add_mul]; omega]; exact ih i (by omega)
theorem push_mat0 {m : Mp} {h : THp} {H : AH} (hR : HR m h.os H) {T : Ty} {l : List T.den} {c : List Value} {e : Nat} {nt : List Nat} (hl : c.length = l.length * T.size)
  (hr : ∀ (m' : Mp) (H' : AH) (id i : Nat) (hi : i < l.length), NC m' H' id (i * T.size) nt false T 0 l[i] ((c.drop (i * T.size)).take T.size)) {k : Nat} (hk : k = l.length) :
  OpOK m h H (some (.slice (some ⟨H.next, 0, none⟩) k T.size, H.push (.cells c true T.size e))) (.own h.os.length) (h.push (.mat true T l e nt 0 none)) := by
 subst hk
 obtain ⟨m', g1, g2, g3, g4, g5⟩ := mpush_sound (H' := H.push (.cells c true T.size e)) (T := T) (l := l) (e := e) (nt := nt) hR [] (ver := 0) rfl (some H.next) (fun _ => none) c (fun i hi => by cases hi) (by simp) (fun d hd _ => by rw [AH.get_push, if_neg (by omega)])
  (fun b hb => by cases hb; exact ⟨.inr ⟨Nat.le_refl _, by simp⟩, fun j => by simp⟩) (fun j b hb => by cases hb) (fun j j' b hb => by cases hb)
  (fun m' q1 q2 q3 q4 q5 => ⟨q5.symm, .inr ⟨H.next, c, q1, q4, by rw [AH.get_push, if_pos rfl], by omega, fun i hi => hr _ _ _ _ hi⟩⟩)
 refine ⟨m', _, _, rfl, g1, g2, .own _ _ ?_⟩
 have ho : ((killN h []).push (.mat true T l e nt 0 none)).os[h.os.length]? = some (.mat true T l e nt 0 none) := by simp [killN, THp.push]
 refine (OwnR_mat ho mat_i).2 (.inr ⟨H.next, g3, by rw [g4]⟩)
theorem tmakeSlice_sound {m : Mp} {h : THp} {H : AH} (hR : HR m h.os H) {t : Nat} {l c : TV} {l' c' : Value} (hl : RV m h.os l l') (hc : RV m h.os c c') {cs : List Bool} {v : TV} {h' : THp} (he : tmakeSlice P t l c h = some (cs, v, h')) (hcs : cOK cs) :
  OpOK m h H (amakeSlice P t l' c' H) v h' := by
 unfold tmakeSlice at he
 split at he
 ·rename_i e k n k2 n2 hu
  cases hl with
  | int _ _ =>
  cases hc with
  | int _ _ =>
  split at he
  ·rename_i T by_ hT hby
   obtain ⟨hs, ha, hz⟩ := elemTy_some hT; split at he
   ·rename_i hz0
    cases he; obtain ⟨z, z1, z2, z3⟩ := zeroOk_sound hz0 m.G; obtain ⟨c1, c2, c3⟩ := rg_true hcs.head; have c4 := le_true hcs.tail.head; have c5 := le_true hcs.tail.tail.head; obtain ⟨r1, r2⟩ := Rows.replicate (R := DC m.G T) (sz := T.size) z3 (by simpa using z2) n.toNat; have := push_row hR (e := e) (l := List.replicate n.toNat T.dflt) (c := repeatCells z.cells.toList n.toNat) (by rw [r2, List.length_replicate]) r1 (k := n.toNat) (by simp)
    have e1 : amakeSlice P t (.int k n) (.int k2 n2) H = some (.slice (some ⟨H.next, 0, none⟩) n.toNat T.size, H.push (.cells (repeatCells z.cells.toList n.toNat) true T.size e)) := by
     simp only [amakeSlice, hu, hs, hby, z1]; rw [if_pos ⟨c2, c3, by simpa using c4, by simpa [ml] using c5, hz, z2⟩]
    rw [e1]; cases hfl : (T.flat || !matOn h) with
    | true => rw [if_pos rfl]; exact this
    | false =>
     rw [if_neg (by simp)]; exact push_mat0 hR (by rw [r2]; simp [rept]) (fun m' H' id i hi => by
      have hi' : i < n.toNat := by simpa [rept, tn] using hi
      rw [repeat_chunk (by simpa using z2) _ _ hi']; have : (rept (tn n) T.dflt)[i] = T.dflt := by simp [rept]
      rw [this]; exact zeroOk_nc hz0 z1 _ _ _ _ _ _) (by simp [rept, tn])
   ·cases he
  ·cases he
 ·cases he

def VC (G : Nat → Option (List Value)) (T : Ty) (x : T.den) (v : Value) : Prop := v.cells.toList.length = T.size ∧ DC G T x v.cells.toList
theorem one_cells {v : Value} (h : AM.one v = true) : v.cells = #[v] := by cases v <;> first | rfl | cases h
theorem decV_calm {m : Mp} {h : THp} {T : Ty} {v : TV} {x : T.den} (hd : decV h T v = some x) (hc : ∀ u ∈ v.cells, Calm h.os u) {v' : Value} (hv : RV m h.os v v') : VC m.G T x v' := by
 have gen : ∀ (T : Ty) (x : T.den), (match decC h T [v] with | some (x, []) => some x | _ => none) = some x → v.cells = [v] → VC m.G T x v' := by
  intro T x hd hcv; split at hd
  ·rename_i y hy
   cases hd; obtain ⟨v1, v2, e1, e2, e3, -⟩ := decC_calm _ _ _ _ _ hy (by rw [← hcv]; exact hc) (RL.cons hv .nil); have := e3.nil_inv; subst this; rw [List.append_nil] at e1; subst e1; have h1 := DC.one _ _ _ e2; simp only [List.all_cons, List.all_nil, Bool.and_true] at h1; have h2 := one_cells h1; unfold VC; rw [h2]; exact ⟨e2.length, e2⟩
  ·cases hd
 unfold decV at hd
 split at hd
 ·rename_i a cs
  split at hd
  ·rename_i y hy
   cases hd; cases hv with
   | agg _ arr hl hh =>
   obtain ⟨v1, v2, e1, e2, e3, -⟩ := decC_calm _ _ _ _ _ hy hc (RL.ofArr hl hh); have := e3.nil_inv; subst this; rw [List.append_nil] at e1; subst e1; exact ⟨DC.length (.st a) _ _ e2, e2⟩
  ·cases hd
 ·cases hd
 ·cases hd
 ·cases hd
 ·rename_i hna hnb
  refine gen _ _ hd ?_; cases v with
  | agg cs => simp_all
  | _ => rfl

theorem decEach_calm {m : Mp} {h : THp} {T : Ty} : ∀ (vs : List TV) (l : List T.den) (vs' : List Value), decEach h T vs = some l → (∀ u ∈ vs.flatMap (·.cells), Calm h.os u) → RL m h.os vs vs' →
  l.length = vs'.length ∧ ∀ (i : Nat) (h1 : i < l.length) (h2 : i < vs'.length), VC m.G T l[i] vs'[i] := by
 intro vs
 induction vs with
 | nil =>
  intro l vs' hd hc hr; cases hd; have := hr.nil_inv; subst this; exact ⟨rfl, fun i h1 => by simp at h1⟩
 | cons v r ih =>
  intro l vs' hd hc hr; obtain ⟨v', r', rfl, h1, h2⟩ := hr.cons_inv; simp only [decEach] at hd; split at hd
  ·rename_i x hx
   split at hd
   ·rename_i l' hl'
    cases hd; obtain ⟨g1, g2⟩ := ih l' r' hl' (fun u hu => hc u (by rw [List.flatMap_cons]; exact List.mem_append_right _ hu)) h2; refine ⟨by simp [g1], fun i p q => ?_⟩; cases i with
    | zero => exact decV_calm hx (fun u hu => hc u (by rw [List.flatMap_cons]; exact List.mem_append_left _ hu)) h1
    | succ i => exact g2 i (by simpa using p) (by simpa using q)
   ·cases hd
  ·cases hd

theorem splice_block {c : List Value} {off : Nat} {vs : List Value} (h : off + vs.length ≤ c.length) : (splice c off vs).length = c.length := by simp [splice]; omega
theorem fill_gen {α : Type} {R : α → List Value → Prop} {sz : Nat} (hz : sz ≠ 0) : ∀ (vs' : List Value) (l : List α) (k : Nat) (cs : List Value), l.length = vs'.length → (∀ (i : Nat) (h1 : i < l.length) (h2 : i < vs'.length), vs'[i].cells.toList.length = sz ∧ R l[i] vs'[i].cells.toList) → (k + vs'.length) * sz ≤ cs.length →
  ∃ cs', fillL (fun i => some (i * sz, sz)) cs ((List.range' k vs'.length).zip vs') = some cs' ∧ cs'.length = cs.length ∧ (cs'.take (k * sz) = cs.take (k * sz)) ∧ Rows R sz (cs'.drop (k * sz)) l := by
 intro vs'
 induction vs' with
 | nil =>
  intro l k cs hl hv hk; have : l = [] := List.eq_nil_of_length_eq_zero hl; subst this; exact ⟨cs, rfl, rfl, rfl, .nil⟩
 | cons v r ih =>
  intro l k cs hl hv hk; cases l with
  | nil => simp at hl
  | cons x l =>
   obtain ⟨g1, g2⟩ := hv 0 (by simp) (by simp); simp only [List.getElem_cons_zero] at g1 g2; simp only [List.length_cons] at hk hl; have hk1 : k * sz + sz ≤ cs.length := by
    have := mul_succ_le (sz := sz) (show k < k + (r.length + 1) by omega); omega
   have hsl : (splice cs (k * sz) v.cells.toList).length = cs.length := splice_block (by rw [g1]; exact hk1); obtain ⟨cs', e1, e2, e3, e4⟩ := ih l (k + 1) (splice cs (k * sz) v.cells.toList) (by omega) (fun i p q => by have := hv (i + 1) (by simpa using p) (by simpa using q); simpa only [List.getElem_cons_succ] using this)
    (by rw [hsl, show k + 1 + r.length = k + (r.length + 1) by omega]; exact hk)
   rw [Nat.add_mul, Nat.one_mul] at e3 e4; refine ⟨cs', ?_, e2.trans hsl, ?_, ?_⟩
   ·simp only [List.length_cons, List.range'_succ, List.zip_cons_cons, fillL]
    rw [if_neg (by simp only [← Array.length_toList, g1]; omega)]; exact e1
   ·have := congrArg (List.take (k * sz)) e3
    rw [List.take_take, List.take_take, Nat.min_eq_left (by omega)] at this; rw [this]; unfold splice; rw [List.append_assoc, List.take_append_of_le_length (by simp; omega), List.take_take, Nat.min_self]
   ·intro i hi
    have hchunk : ∀ j, ((cs'.drop (k * sz)).drop (j * sz)).take sz = (cs'.drop (k * sz + j * sz)).take sz := fun j => by rw [List.drop_drop]
    cases i with
    | zero =>
     refine ⟨by rw [List.length_drop, e2, hsl]; omega, ?_⟩; have hh : ((cs'.drop (k * sz)).drop (0 * sz)).take sz = v.cells.toList := by
      rw [Nat.zero_mul, List.drop_zero]; have e5 : (cs'.drop (k * sz)).take sz = (cs'.take (k * sz + sz)).drop (k * sz) := by
       rw [List.drop_take]; congr 1; omega
      rw [e5, e3]; unfold splice; rw [List.drop_take]; have : k * sz + sz - k * sz = sz := by omega
      rw [this, List.append_assoc, List.drop_append_of_le_length (by simp; omega), List.drop_eq_nil_of_le (by simp; omega), List.nil_append, List.take_append_of_le_length (by omega), List.take_of_length_le (by omega)]
     rw [hh]; exact g2
    | succ i =>
     have hi' : i < l.length := by simpa using hi
     obtain ⟨f1, f2⟩ := e4 i hi'; rw [List.length_drop] at f1; have e6 : (i + 1) * sz = sz + i * sz := by rw [Nat.add_mul, Nat.one_mul, Nat.add_comm]
     refine ⟨by rw [List.length_drop, e6]; omega, ?_⟩; rw [hchunk, e6, ← Nat.add_assoc]; rw [List.drop_drop] at f2; exact f2

theorem fill_range {T : Ty} {G : Nat → Option (List Value)} (hz : T.size ≠ 0) (vs' : List Value) (l : List T.den) (k : Nat) (cs : List Value) (hl : l.length = vs'.length) (hv : ∀ (i : Nat) (h1 : i < l.length) (h2 : i < vs'.length), VC G T l[i] vs'[i]) (hk : (k + vs'.length) * T.size ≤ cs.length) :
  ∃ cs', fillL (fun i => some (i * T.size, T.size)) cs ((List.range' k vs'.length).zip vs') = some cs' ∧ cs'.length = cs.length ∧ (cs'.take (k * T.size) = cs.take (k * T.size)) ∧ Rows (DC G T) T.size (cs'.drop (k * T.size)) l :=
 fill_gen hz vs' l k cs hl (fun i h1 h2 => hv i h1 h2) hk
theorem repeatCells_length (z : List Value) (n : Nat) : (repeatCells z n).length = n * z.length := by
 induction n with
 | zero => simp [repeatCells]
 | succ n ih => simp [repeatCells, ih, Nat.add_mul, Nat.add_comm]
theorem zip_self : ∀ (l : List (Nat × Value)), (l.map (·.1)).zip (l.map (·.2)) = l := by
 intro l
 induction l with
 | nil => rfl
 | cons a r ih => simp only [List.map_cons, List.zip_cons_cons, ih]
theorem NC.one {m : Mp} {H : AH} {id j0 : Nat} {nt : List Nat} : ∀ (t : Ty) (pos : Nat) (x : t.den) (cs : List Value), NC m H id j0 nt false t pos x cs → cs.all AM.one = true := by
 intro t
 induction t with
 | int k => intro pos x cs h; rw [show cs = _ from h]; rfl
 | bool => intro pos x cs h; rw [show cs = _ from h]; rfl
 | str => intro pos x cs h; rw [show cs = _ from h]; rfl
 | slice t ih => intro pos x cs h; obtain ⟨v, h1, h2⟩ := h; obtain ⟨p, k, z, e⟩ := (h2.resolve_left (by simp)).sl; rw [h1, e]; rfl
 | unit => intro pos x cs h; rw [show cs = _ from h]; rfl
 | pair a b iha ihb => intro pos x cs h; obtain ⟨c1, c2, h1, h2, h3⟩ := h; rw [h1, List.all_append, iha _ _ _ h2, ihb _ _ _ h3]; rfl
 | st a ih => intro pos x cs h; exact ih _ _ _ h
theorem absEach_sound {m : Mp} {h : THp} {H : AH} (hR : HR m h.os H) {nt : List Nat} {T : Ty} {id : Nat} (hid : h.os.length ≤ id) : ∀ (vs : List TV) (k : Nat) (vs' : List Value) (l : List T.den) (a : List (Nat × Nat × Nat)), absEach h nt id T k vs = some (l, a) → RL m h.os vs vs' →
  (∀ q p i2, (q, p, i2) ∈ a → k ≤ q ∧ p < T.size ∧ ∃ t2 l2 tid2, h.os[i2]? = some (.row true t2 l2 tid2)) ∧ (a.map fun x => x.1 * T.size + x.2.1).Nodup ∧ l.length = vs'.length ∧
  ∀ (m' : Mp) (H' : AH), Gle m.G m'.G → (∀ q p i2 b, (q, p, i2) ∈ a → m.ρ (.o i2) = some b → m'.ρ (.n id (q * T.size + p)) = some b ∧ H'.get b = H.get b) →
   ∀ (i : Nat) (h1 : i < l.length) (h2 : i < vs'.length), vs'[i].cells.toList.length = T.size ∧ NC m' H' id ((k + i) * T.size) nt false T 0 l[i] vs'[i].cells.toList := by
 intro vs
 induction vs with
 | nil =>
  intro k vs' l a he hv; have := hv.nil_inv; subst this; cases he; exact ⟨fun q p i2 hm => (by cases hm), List.nodup_nil, rfl, fun m' H' _ _ i h1 => by simp at h1⟩
 | cons v r ih =>
  intro k vs' l a he hv; obtain ⟨v', r', rfl, hv1, hv2⟩ := hv.cons_inv; have main : ∀ (cs : List TV) (cs' : List Value), RL m h.os cs cs' → (∀ (m' : Mp) (H' : AH) (x : T.den), NC m' H' id (k * T.size) nt false T 0 x cs' → v'.cells.toList = cs') → ∀ (l1 : List T.den) (b : List (Nat × Nat × Nat)) (x : T.den) (a1 : List (Nat × Nat)),
    absV h nt id k 0 T cs = some (x, [], a1) → absEach h nt id T (k + 1) r = some (l1, b) → l = x :: l1 → a = a1.map (fun p => (k, p.1, p.2)) ++ b →
    (∀ q p i2, (q, p, i2) ∈ a → k ≤ q ∧ p < T.size ∧ ∃ t2 l2 tid2, h.os[i2]? = some (.row true t2 l2 tid2)) ∧ (a.map fun x => x.1 * T.size + x.2.1).Nodup ∧ l.length = (v' :: r').length ∧
    ∀ (m' : Mp) (H' : AH), Gle m.G m'.G → (∀ q p i2 b, (q, p, i2) ∈ a → m.ρ (.o i2) = some b → m'.ρ (.n id (q * T.size + p)) = some b ∧ H'.get b = H.get b) →
     ∀ (i : Nat) (h1 : i < l.length) (h2 : i < (v' :: r').length), (v' :: r')[i].cells.toList.length = T.size ∧ NC m' H' id ((k + i) * T.size) nt false T 0 l[i] (v' :: r')[i].cells.toList := by
   intro cs cs' hcs hcell l1 b x a1 h1 h2 hl ha; subst hl; subst ha; obtain ⟨p1, p2, v1, v2, rfl, p3, p4, p5⟩ := absN_sound hR (T := T) (w := true) (lT := []) (tid := 0) (j0 := k * T.size) (.inr hid) T 0 _ _ _ _ _ _ (absV_some h1) (fun _ hb => by cases hb) hcs; have := p3.nil_inv; subst this; rw [List.append_nil] at hcell hcs; obtain ⟨q1, q2, q3, q4⟩ := ih (k + 1) r' l1 b h2 hv2; refine ⟨fun q p i2 hm => ?_, ?_, by simp [q3], fun m' H' hG g i w1 w2 => ?_⟩
   ·rcases List.mem_append.1 hm with hm | hm
    ·obtain ⟨⟨p', i3⟩, hm', e⟩ := List.mem_map.1 hm
     cases e; obtain ⟨-, z2, z3⟩ := p1 _ _ hm'; exact ⟨Nat.le_refl _, by simpa using z2, z3⟩
    ·obtain ⟨z1, z2⟩ := q1 _ _ _ hm
     exact ⟨by omega, z2⟩
   ·rw [List.map_append, List.nodup_append]
    refine ⟨?_, q2, fun u hu w hw e => ?_⟩
    ·rw [List.map_map]
     have : (a1.map (·.1)).map (fun p => k * T.size + p) = a1.map ((fun x : Nat × Nat × Nat => x.1 * T.size + x.2.1) ∘ fun p => (k, p.1, p.2)) := by simp [List.map_map, Function.comp_def]
     rw [← this]; exact nodup_map_inj (fun x _ y _ e => by omega) p2
    ·obtain ⟨⟨u0, u1, u2⟩, hu', rfl⟩ := List.mem_map.1 hu
     obtain ⟨⟨w0, w1, w2⟩, hw', rfl⟩ := List.mem_map.1 hw; obtain ⟨⟨p', i3⟩, hm', e2⟩ := List.mem_map.1 hu'; cases e2; have z1 := (p1 _ _ hm').2.1; have z2 := (q1 _ _ _ hw').1; have := mul_succ_le (sz := T.size) (show k < w0 by omega); simp only at e; omega
   ·cases i with
    | zero =>
     have hn := p5 m' H' hG (fun p i2 b hm hb => g k p i2 b (List.mem_append_left _ (List.mem_map.2 ⟨(p, i2), hm, rfl⟩)) hb) (fun p b _ _ _ hb => by rw [hR.fresh (i := .n id (k * T.size + p)) hid] at hb; cases hb); have e := hcell m' H' x hn; simp only [List.getElem_cons_zero, Nat.add_zero]; rw [e]; exact ⟨p4, hn⟩
    | succ i =>
     simp only [List.getElem_cons_succ]; have := q4 m' H' hG (fun q p i2 b hm hb => g q p i2 b (List.mem_append_right _ hm) hb) i (by simpa using w1) (by simpa using w2); rw [show k + (i + 1) = k + 1 + i by omega]; exact this
  have single : RL m h.os [v] [v'] := .cons hv1 .nil; have scell : ∀ (m' : Mp) (H' : AH) (x : T.den), NC m' H' id (k * T.size) nt false T 0 x [v'] → v'.cells.toList = [v'] := fun m' H' x hn => by
   have := NC.one _ _ _ _ hn; rw [one_cells (by simpa using this)]
  have fin : ∀ (o : Option (T.den × List Bool × List (Nat × Nat))) (o2 : Option (List T.den × List (Nat × Nat × Nat))), (match o, o2 with | some (x, [], a), some (l, b) => some (x :: l, a.map (fun p => (k, p.1, p.2)) ++ b) | _, _ => none) = some (l, a) → ∃ x a1 l1 b, o = some (x, [], a1) ∧ o2 = some (l1, b) ∧ l = x :: l1 ∧ a = a1.map (fun p => (k, p.1, p.2)) ++ b := fun o o2 e => by
   split at e
   ·cases e; exact ⟨_, _, _, _, rfl, rfl, rfl, rfl⟩
   ·cases e
  simp only [absEach] at he; split at he
  ·rename_i cs hst
   obtain ⟨x, a1, l1, b, e1, e2, e3, e4⟩ := fin _ _ he; cases hv1 with
   | agg _ arr hl hh => exact main cs arr.toList (.ofArr hl hh) (fun _ _ _ _ => rfl) l1 b x a1 e1 e2 e3 e4
  ·cases he
  ·cases he
  ·obtain ⟨x, a1, l1, b, e1, e2, e3, e4⟩ := fin _ _ he
   exact main _ [v'] (.cons hv1 .nil) scell l1 b x a1 e1 e2 e3 e4
theorem ownIds_append : ∀ (a b : List TV), ownIds (a ++ b) = ownIds a ++ ownIds b := by
 intro a
 induction a with
 | nil => intro b; rfl
 | cons c r ih => intro b; cases c <;> simp only [List.cons_append, ownIds, ih]
theorem ownIds_part : ∀ (parts : List (Nat × TV)), ∀ p ∈ parts, ∀ id ∈ ownIds p.2.cells, id ∈ ownIds (parts.flatMap (·.2.cells)) := by
 intro parts
 induction parts with
 | nil => intro p hp; cases hp
 | cons c r ih =>
  intro p hp id hid; simp only [List.flatMap_cons, ownIds_append, List.mem_append]; rcases List.mem_cons.1 hp with rfl | hp
  ·exact .inl hid
  ·exact .inr (ih p hp id hid)
theorem tbuildMat_sound {m : Mp} {h : THp} {H : AH} (hR : HR m h.os H) {t e n : Nat} {T : Ty} {vs : List TV} {vs' : List Value} {parts' : List (Nat × Value)} (hu : P.underlying t = some (.slice e)) (hs : sizeOf? P e = some T.size) (hz0 : T.size ≠ 0) (c2 : n * T.size ≤ 2 ^ 24) {z : Value} (z1 : zero? P e = some z) (z2 : z.cells.size = T.size)
  (hlen : vs'.length = n) (hpz : parts' = (List.range' 0 vs'.length).zip vs') (hv : RL m h.os vs vs') {c : List Bool} {v : TV} {h' : THp} (he : tbuildMat P e T vs h = some (c, v, h')) : OpOK m h H (abuildSlice P t n parts' H) v h' := by
 unfold tbuildMat at he
 split at he
 ·split at he
  ·rename_i l a hla
   split at he
   ·rename_i hnd
    cases he; obtain ⟨p1, p2, p3, p4⟩ := absEach_sound hR (Nat.le_refl _) vs 0 vs' l a hla hv; have hA1 : ((a.map fun x => (x.1 * T.size + x.2.1, x.2.2)).map (·.1)).Nodup := by rw [List.map_map]; exact p2
    have hA2 : (a.map fun x => (x.1 * T.size + x.2.1, x.2.2)).map (·.2) = a.map (·.2.2) := by simp [List.map_map, Function.comp_def]
    have lkA : ∀ q p i2, (q, p, i2) ∈ a → lk (a.map fun x => (x.1 * T.size + x.2.1, x.2.2)) (q * T.size + p) = some i2 := fun q p i2 hm => lk_of hA1 (List.mem_map.2 ⟨(q, p, i2), hm, rfl⟩)
    generalize (a.map fun x => (x.1 * T.size + x.2.1, x.2.2)) = A at hA1 hA2 lkA; have hnd2 : (A.map (·.2)).Nodup := by rw [hA2]; exact nodupN_nodup' hnd
    have habs : ∀ j i2, lk A j = some i2 → (absM m h.os.length A).ρ (.n h.os.length j) = m.ρ (.o i2) := fun j i2 hj => by
     show (if h.os.length = h.os.length then (match lk A j with | some i2 => m.ρ (.o i2) | none => m.ρ (.n h.os.length j)) else m.ρ (.n h.os.length j)) = _; rw [if_pos rfl, hj]
    have sizes : ∀ (i : Nat) (h1 : i < vs'.length), vs'[i].cells.toList.length = T.size := fun i h1 =>
     (p4 (absM m h.os.length A) H (Gle.refl _) (fun q p i2 b hm hb => ⟨(habs _ _ (lkA q p i2 hm)).trans hb, rfl⟩) i (by omega) h1).1
    obtain ⟨cs', f1, f2, f3, f4⟩ := fill_gen (R := fun (x : List Value) c => c = x) hz0 vs' (vs'.map fun v => v.cells.toList) 0 (repeatCells z.cells.toList n) (by simp) (fun i h1 h2 => by simpa using sizes i h2) (by rw [repeatCells_length, hlen, Nat.zero_add]; simp [z2]); rw [Nat.zero_mul, List.drop_zero] at f4; rw [← hpz] at f1; have hcl : cs'.length = l.length * T.size := by rw [f2, repeatCells_length, p3, hlen]; simp [z2]
    have hrow : ∀ i ∈ a.map (·.2.2), ∃ t2 l2 tid2, h.os[i]? = some (.row true t2 l2 tid2) := fun i hi => by
     obtain ⟨⟨q, p, i2⟩, hm, rfl⟩ := List.mem_map.1 hi; exact (p1 q p i2 hm).2.2
    have hfA : ∀ j b, (match lk A j with | some i2 => m.ρ (.o i2) | none => none) = some b → ∃ i2, lk A j = some i2 ∧ m.ρ (.o i2) = some b ∧ i2 ∈ a.map (·.2.2) := fun j b hb => by
     split at hb
     ·rename_i i2 hl
      refine ⟨i2, hl, hb, ?_⟩; rw [← hA2]; exact List.mem_map.2 ⟨(j, i2), lk_mem hl, rfl⟩
     ·cases hb
    obtain ⟨m', g1, g2, g3, g4, g5⟩ := mpush_sound (H' := H.push (.cells cs' true T.size e)) (T := T) (l := l) (e := e) (nt := ntOf P 12 e) hR (a.map (·.2.2)) (ver := 0) rfl (some H.next) (fun j => match lk A j with | some i2 => m.ρ (.o i2) | none => none) cs'
     (fun i hi => by obtain ⟨t2, l2, tid2, ho⟩ := hrow i hi; exact ⟨_, ho, .inl ⟨_, _, _, rfl⟩⟩) (by simp) (fun d hd _ => by rw [AH.get_push, if_neg (by omega)])
     (fun b hb => by
      cases hb; refine ⟨.inr ⟨Nat.le_refl _, by simp⟩, fun j hj => ?_⟩; obtain ⟨i2, -, q, -⟩ := hfA j _ hj; have := (hR.lt _ _ q).1; omega)
     (fun j b hb => by obtain ⟨i2, -, q, q2⟩ := hfA j _ hb; exact .inl ⟨.o i2, q2, q⟩)
     (fun j j' b hb hb' => by
      obtain ⟨i2, q0, q, -⟩ := hfA j _ hb; obtain ⟨i2', q0', q', -⟩ := hfA j' _ hb'; have := absM_inj hR (id := h.os.length) hnd2 ((habs j i2 q0).trans q) ((habs j' i2' q0').trans q'); cases this; rfl)
     (fun m' q1 q2 q3 q4 q5 => ⟨q5.symm, .inr ⟨H.next, cs', q1, q4, by rw [AH.get_push, if_pos rfl], by omega, fun i hi => by
      have hi' : i < vs'.length := by omega
      have hch := (f4 i (by simpa using hi')).2; simp only [List.getElem_map] at hch; rw [hch]; have := (p4 m' (H.push (.cells cs' true T.size e)) (by rw [q3]; exact Gle.refl _) (fun q p i2 b hm hb => ⟨by rw [q2, lkA q p i2 hm]; exact hb, by rw [AH.get_push, if_neg (by have := (hR.lt _ _ hb).1; omega)]⟩) i hi hi').2; rw [Nat.zero_add] at this; exact this⟩⟩)
    refine ⟨m', .slice (some ⟨H.next, 0, none⟩) n T.size, H.push (.cells cs' true T.size e), ?_, g1, g2, .own _ _ ?_⟩
    ·simp only [abuildSlice, hu, hs, z1]
     rw [if_pos ⟨c2, hz0, z2⟩, f1]; rfl
    ·have ho : ((killN h (a.map (·.2.2))).push (.mat true T l e (ntOf P 12 e) 0 none)).os[h.os.length]? = some (.mat true T l e (ntOf P 12 e) 0 none) := by
      simp only [THp.push]; rw [← killN_len (a.map (·.2.2)) h, List.getElem?_concat_length]
     exact (OwnR_mat ho mat_i).2 (.inr ⟨H.next, g3, by rw [g4, p3, hlen]⟩)
   ·cases he
  ·cases he
 ·cases he
theorem tbuildSlice_sound {m : Mp} {h : THp} {H : AH} (hR : HR m h.os H) {t n : Nat} {parts : List (Nat × TV)} {parts' : List (Nat × Value)} (hp : parts.map (·.1) = parts'.map (·.1)) (hv : RL m h.os (parts.map (·.2)) (parts'.map (·.2)))
  {c : List Bool} {v : TV} {h' : THp} (he : tbuildSlice P t n parts h = some (c, v, h')) : OpOK m h H (abuildSlice P t n parts' H) v h' := by
 unfold tbuildSlice at he
 split at he
 ·rename_i e hu
  split at he
  ·rename_i T hT
   obtain ⟨hs, ha, hz⟩ := elemTy_some hT; split at he
   ·rename_i hc
    obtain ⟨c1, c2, c3⟩ := hc; have hlen : (parts'.map (·.2)).length = n := by
     have := congrArg List.length (hp.symm.trans c1); simpa using this
    have hpz : parts' = (List.range' 0 (parts'.map (·.2)).length).zip (parts'.map (·.2)) := by
     rw [hlen, ← List.range_eq_range', ← c1, hp]; exact (zip_self parts').symm
    split at he
    ·rename_i r hmat
     cases he; obtain ⟨z, z1, z2, z3⟩ := zeroOk_sound c3 m.G; exact tbuildMat_sound hR hu hs hz c2 z1 z2 hlen hpz hv hmat
    split at he
    ·rename_i h1 hf
     split at he
     ·rename_i l hl
      cases he; obtain ⟨m1, k1, k2, k3, k4, k9⟩ := freeze_sound hR hf; have hsub : ∀ p ∈ parts, ∀ id ∈ ownIds p.2.cells, id ∈ ownIds (parts.flatMap (·.2.cells)) := ownIds_part parts; have hcalm : ∀ u ∈ (parts.map fun p => unN h p.2).flatMap (·.cells), Calm h1.os u := by
       intro u hu; obtain ⟨w, hw, hu⟩ := List.mem_flatMap.1 hu; obtain ⟨p, hp', rfl⟩ := List.mem_map.1 hw; exact calm_of _ (fun id hid => k3 id (hsub p hp' id (unN_own id hid))) u hu
      have hv2 : RL m1 h1.os (parts.map fun p => unN h p.2) (parts'.map (·.2)) := ⟨by simpa using hv.1, fun i a b => by
       simp only [List.getElem_map]; refine unN_rv k2.le k9 (hsub _ (List.getElem_mem _)) ?_; have := hv.2 i (by simpa using a) b; simpa using this⟩
      obtain ⟨g1, g2⟩ := decEach_calm _ _ _ hl hcalm hv2; obtain ⟨z, z1, z2, z3⟩ := zeroOk_sound c3 m1.G; obtain ⟨cs', f1, f2, f3, f4⟩ := fill_range hz (parts'.map (·.2)) l 0 (repeatCells z.cells.toList n) g1 g2 (by rw [repeatCells_length, hlen, Nat.zero_add]; simp [z2]); rw [← hpz] at f1; rw [Nat.zero_mul, List.drop_zero] at f4; have hcl : cs'.length = l.length * T.size := by rw [f2, repeatCells_length, g1, hlen]; simp [z2]
      have := push_row k1 (e := e) hcl f4 (k := n) (by rw [g1, hlen]); obtain ⟨m', v', H', q1, q2, q3, q4⟩ := this; refine ⟨m', v', H', ?_, q2, k2.trans hR q3, q4⟩; rw [← q1]; simp only [abuildSlice, hu, hs, z1]; rw [if_pos ⟨c2, hz, z2⟩, f1]; rfl
     ·cases he
    ·cases he
   ·cases he
  ·cases he
 ·cases he

theorem DS.first {G : Nat → Option (List Value)} {H : AH} (hG : ∀ b c, G b = some c → ∃ own sz ty, H.get b = .cells c own sz ty) {T : Ty} {l : List T.den} {v : Value} (h : DS G T.size (DC G T) l v) :
  ∃ new, alenOf v = some l.length ∧ afirst T.size l.length v H = some new ∧ new.length = l.length * T.size ∧ Rows (DC G T) T.size new l := by
 rcases h with ⟨rfl, rfl⟩ | ⟨s, cs, x, rfl, hl, hr⟩ | ⟨b, off, z, c, rfl, hz', hg, hl, hr⟩
 ·exact ⟨[], rfl, rfl, by simp, .nil⟩
 ·exact ⟨cs.toList.take (l.length * T.size), rfl, by simp only [afirst]; rw [if_pos hl], by simp; omega, hr.take (by simpa using hl)⟩
 ·obtain ⟨own, sz, ty, e⟩ := hG b c hg
  exact ⟨(c.drop off).take (l.length * T.size), rfl, by simp only [afirst, e]; rw [if_pos hl], by simp; omega, hr.take (by simp; omega)⟩
theorem decS_rows {m : Mp} {h : THp} {H H1 : AH} (hR : HR m h.os H) {T : Ty} {x : TV} {x' : Value} (hx : RV m h.os x x') {l : List T.den} (he : decS h T x = some l)
  (hH : ∀ b, (m.G b ≠ none ∨ ∃ i : Key, m.ρ i = some b ∧ notAt i.top x = false) → H1.get b = H.get b) :
  ∃ new, alenOf x' = some l.length ∧ afirst T.size l.length x' H1 = some new ∧ new.length = l.length * T.size ∧ Rows (DC m.G T) T.size new l := by
 have hG : ∀ b c, m.G b = some c → ∃ own sz ty, H1.get b = .cells c own sz ty := fun b c hb => by
  obtain ⟨-, own, sz, ty, e⟩ := hR.gr b c hb; exact ⟨own, sz, ty, by rw [hH b (.inl (by rw [hb]; simp))]; exact e⟩
 cases hx with
 | nilS => cases he; exact ⟨[], rfl, rfl, by simp, .nil⟩
 | deep T' r _ hd =>
  obtain ⟨e, rfl⟩ := castL_some he; subst e; exact hd.first hG
 | own id _ hx =>
  unfold OwnR at hx; simp only [decS] at he; split at he
  ·rename_i w t' r' tid hat
   obtain ⟨e, rfl⟩ := castL_some he; subst e; have ho := at_some hat (by simp); rw [ho] at hx; rcases hx with ⟨-, rfl, rfl⟩ | ⟨b, hb, rfl⟩
   ·exact ⟨[], rfl, rfl, by simp, .nil⟩
   ·rcases hR.obj id _ ho with ⟨e1, -⟩ | ⟨b', c, e1, e2, e3, e4⟩
    ·rw [hb] at e1; cases e1
    rw [hb] at e1; cases e1; have e5 := hH b (.inr ⟨id, hb, by simp [notAt, Key.top]⟩); exact ⟨(c.drop 0).take (r'.length * t'.size), rfl, by simp only [afirst, e5, e2]; rw [if_pos (by omega)], by simp; omega, by simpa using e4.take e3⟩
  ·rename_i t' r' hat
   obtain ⟨e, rfl⟩ := castL_some he; subst e; have ho := at_some hat (by simp); rw [ho] at hx; exact DS.first hG hx
  ·cases he
 | sub id lo n _ hx =>
  unfold SubR at hx; simp only [decS] at he; split at he
  ·rename_i w t' r' tid hat
   obtain ⟨e, rfl⟩ := castL_some he; subst e; have ho := at_some hat (by simp); rw [ho] at hx; rcases hx with ⟨-, rfl, rfl, rfl, rfl⟩ | ⟨b, hb, hle, rfl⟩
   ·exact ⟨[], by simp [alenOf, cut], rfl, by simp [cut], by simpa [cut] using Rows.nil⟩
   ·rcases hR.obj id _ ho with ⟨e1, -⟩ | ⟨b', c, e1, e2, e3, e4⟩
    ·rw [hb] at e1; cases e1
    rw [hb] at e1; cases e1; have e5 := hH b (.inr ⟨id, hb, by simp [notAt, Key.top]⟩); have hlen : (cut r' lo n).length = n := by simp [cut]; omega
    have hmul : lo * t'.size + n * t'.size ≤ r'.length * t'.size := by rw [← Nat.add_mul]; exact Nat.mul_le_mul_right _ hle
    refine ⟨(c.drop (lo * t'.size)).take (n * t'.size), by rw [hlen]; rfl, by rw [hlen]; simp only [afirst, e5, e2]; rw [if_pos (by omega)], by rw [hlen]; simp; omega, ?_⟩; have := (drop_mul_rows e4 lo n hle).take (by simp only [List.length_take, List.length_drop]; rw [Nat.min_eq_left (by omega)]; omega); have h2 : ((r'.drop lo).take n).length = n := hlen; rw [h2] at this; exact this
  ·rename_i t' r' hat
   obtain ⟨e, rfl⟩ := castL_some he; subst e; have ho := at_some hat (by simp); rw [ho] at hx; exact DS.first hG hx
  ·cases he
 | _ => cases he
theorem newOf_sound {m : Mp} {h : THp} {H H1 : AH} (hR : HR m h.os H) {T : Ty} (hz : T.size ≠ 0) {u : TypeDesc} {x : TV} {x' : Value} (hx : RV m h.os x x') {l : List T.den} (he : newOf P T u x h = some l)
  (hH : ∀ b, (m.G b ≠ none ∨ ∃ i : Key, m.ρ i = some b ∧ notAt i.top x = false) → H1.get b = H.get b) :
  (∀ k, u ≠ .int k) ∧ ∃ new, alenOf x' = some l.length ∧ afirst T.size l.length x' H1 = some new ∧ new.length = l.length * T.size ∧ Rows (DC m.G T) T.size new l ∧ new.all AM.one = true := by
 have fin : (∃ new, alenOf x' = some l.length ∧ afirst T.size l.length x' H1 = some new ∧ new.length = l.length * T.size ∧ Rows (DC m.G T) T.size new l) → ∃ new, alenOf x' = some l.length ∧ afirst T.size l.length x' H1 = some new ∧ new.length = l.length * T.size ∧ Rows (DC m.G T) T.size new l ∧ new.all AM.one = true := by
  rintro ⟨new, a, b, c, d⟩
  exact ⟨new, a, b, c, d, d.one c hz⟩
 cases u with
 | string =>
  refine ⟨fun k q => (by cases q), fin ?_⟩; cases x with
  | str s =>
   cases T with
   | int k =>
    cases k with
    | u8 =>
     cases he; cases hx; refine ⟨s.map fun b => .int .u8 b.toNat, by simp [alenOf, ByteArray.size, byts], ?_, by simp [Ty.size, byts], fun i hi => ?_⟩
     ·simp only [afirst, Ty.size, if_true, byts, List.length_map]
      have : ((⟨s.toArray⟩ : ByteArray).extract 0 s.length).data.toList = s := by
       rw [ByteArray.data_extract]; simp
      rw [this]
     ·have hi' : i < s.length := by simpa [byts] using hi
      refine ⟨by simp [Ty.size]; omega, ?_⟩; show _ = _; simp only [Ty.size, Nat.mul_one, byts, List.getElem_map]; rw [List.drop_eq_getElem_cons (by simpa using hi')]; simp
    | _ => cases he
   | _ => cases he
  | _ => cases he
 | slice e =>
  refine ⟨fun k q => (by cases q), fin ?_⟩; simp only [newOf] at he; split at he
  ·rename_i u c hn
   cases x with
   | nest id i pos ver ct =>
    obtain ⟨w, T0, l0, tid, nt, ho, hi, hp, hns, -⟩ := nestOf_sound hR hx hn; obtain ⟨e1, rfl⟩ := castL_some he; subst e1; rcases hns with ⟨rfl, rfl⟩ | ⟨b, cc, g1, rfl, g3, g4, g5⟩
    ·exact ⟨[], rfl, rfl, by simp, .nil⟩
    ·have e5 := hH b (.inr ⟨_, g1, by simp [notAt, Key.top]⟩)
     exact ⟨(cc.drop 0).take (c.length * u.size), rfl, by simp only [afirst, e5, g3]; rw [if_pos (by omega)], by simp; omega, by simpa using g5.take g4⟩
   | _ => cases hn
  ·exact decS_rows hR hx he hH
 | _ => cases he

def aapp (P : Program) (ts : List TypeId) (args : List Value) (H : AH) : Option (Value × AH) := match aappendZ P ts args H with | some r => some r | none => aappend P ts args (atrunc args H)
theorem OpOK.after {m m1 : Mp} {h h1 h' : THp} {H H1 : AH} {r : Option (Value × AH)} {v : TV} (hR : HR m h.os H) (e : Ext m h H m1 h1 H1) (k : OpOK m1 h1 H1 r v h') : OpOK m h H r v h' := by
 obtain ⟨m', v', H', q1, q2, q3, q4⟩ := k
 exact ⟨m', v', H', q1, q2, e.trans hR q3, q4⟩
theorem lim_mul {n by_ : Nat} (h : n ≤ lim (by_ + 1)) : n * (by_ + 1) ≤ 2 ^ 47 ∧ n ≤ 2 ^ 62 := by
 unfold lim at h
 have h1 : n * (by_ + 1) ≤ 2 ^ 47 := (Nat.le_div_iff_mul_le (by omega)).1 h
 refine ⟨h1, ?_⟩
 have : n * 1 ≤ n * (by_ + 1) := Nat.mul_le_mul_left _ (by omega)
 omega
def appTail (s : Value) (size by_ : Nat) (z : Value) (n : Nat) (new : List Value) (H : AH) (e : TypeId) : Option (Value × AH) :=
 if new.all AM.one = true ∧ size ≠ 0 ∧ z.cells.size = size then
  match s with
  | .slice none 0 0 =>
   if n = 0 then some (s, H)
   else if n * by_ ≤ 2 ^ 47 ∧ n ≤ 2 ^ 62 then some (.slice (some ⟨H.next, 0, none⟩) n size, H.push (.cells new true size e)) else none
  | .slice (some ⟨b, 0, none⟩) len cs => match H.get b with
   | .cells c true sz ty =>
    if sz = size ∧ cs = size ∧ ty = e ∧ c.length = len * size then
     if n = 0 then some (s, H)
     else if (len + n) * by_ ≤ 2 ^ 47 ∧ len + n ≤ 2 ^ 62 then some (.slice (some ⟨H.next, 0, none⟩) (len + n) size, (H.set b .dead).push (.cells (c ++ new) true size ty)) else none
    else none
   | _ => none
  | _ => none
 else none
theorem aappend_eq {t u e : Nat} {ud : TypeDesc} {size by_ n : Nat} {z s x' : Value} {ts : List TypeId} {as new : List Value} {H : AH} (hni : ∀ k, ud ≠ .int k)
  (hu : P.underlying t = some (.slice e)) (hud : P.underlying u = some ud) (hs : sizeOf? P e = some size) (hby : bytesOf? P e = some by_) (hz : zero? P e = some z) (hn : alenOf x' = some n) (hf : afirst size n x' H = some new) :
  aappend P (t :: u :: ts) (s :: x' :: as) H = appTail s size by_ z n new H e := by
 unfold aappend appTail
 simp only [hu, hud, hs, hby, hz, hn]
 cases ud <;> first | exact absurd rfl (hni _) | (simp only [hf]; rfl)
theorem append_nil {m : Mp} {h : THp} {H : AH} (hR : HR m h.os H) {t u e : Nat} {ud : TypeDesc} {T : Ty} {by_ : Nat} {z x' : Value} {ts : List TypeId} {as : List Value} {l : List T.den} {new : List Value}
  (hu : P.underlying t = some (.slice e)) (hud : P.underlying u = some ud) (hs : sizeOf? P e = some T.size) (hby : bytesOf? P e = some (by_ + 1)) (hz : zero? P e = some z) (hz2 : z.cells.size = T.size) (hz0 : T.size ≠ 0)
  (hni : ∀ k, ud ≠ .int k) (hn : alenOf x' = some l.length) (hf : afirst T.size l.length x' H = some new) (hl : new.length = l.length * T.size) (hr : Rows (DC m.G T) T.size new l) (ho : new.all AM.one = true) (hle : l.length ≤ lim (by_ + 1)) :
  OpOK m h H (aappend P (t :: u :: ts) (.slice none 0 0 :: x' :: as) H) (.own h.os.length) (h.push (.row true T l e)) := by
 obtain ⟨b1, b2⟩ := lim_mul hle
 by_cases h0 : l.length = 0
 ·have hl0 : l = [] := List.eq_nil_of_length_eq_zero h0
  subst hl0; have e1 : aappend P (t :: u :: ts) (.slice none 0 0 :: x' :: as) H = some (.slice none 0 0, H) := by
   rw [aappend_eq hni hu hud hs hby hz hn hf]; unfold appTail; rw [if_pos ⟨ho, hz0, hz2⟩]; simp
  rw [e1]; obtain ⟨k1, k2, k3⟩ := push_nil hR T true e; exact ⟨_, _, _, rfl, k1, k2, k3⟩
 ·have e1 : aappend P (t :: u :: ts) (.slice none 0 0 :: x' :: as) H = some (.slice (some ⟨H.next, 0, none⟩) l.length T.size, H.push (.cells new true T.size e)) := by
   rw [aappend_eq hni hu hud hs hby hz hn hf]; unfold appTail; rw [if_pos ⟨ho, hz0, hz2⟩]; simp only [h0, if_false]; rw [if_pos ⟨b1, b2⟩]
  rw [e1]; exact push_row hR hl hr rfl
theorem atrunc_nil {as : List Value} {H : AH} : atrunc (.slice none 0 0 :: as) H = H := rfl
theorem append_pre {m : Mp} {h : THp} {H : AH} (hR : HR m h.os H) {t u e : Nat} {ud : TypeDesc} {T : Ty} {by_ : Nat} {z : Value} {ts : List TypeId} {as : List Value} {l new : List T.den} {id n0 : Nat} {x : TV} {x' s' : Value}
  (hu : P.underlying t = some (.slice e)) (hud : P.underlying u = some ud) (hs : sizeOf? P e = some T.size) (hby : bytesOf? P e = some (by_ + 1)) (hz : zero? P e = some z) (hz2 : z.cells.size = T.size) (hz0 : T.size ≠ 0)
  (ho : h.os[id]? = some (.row true T l e)) (hn0 : n0 ≤ l.length) (hsv : (m.ρ id = none ∧ l = [] ∧ s' = .slice none 0 0) ∨ ∃ b, m.ρ id = some b ∧ s' = .slice (some ⟨b, 0, none⟩) n0 T.size)
  (hx : RV m h.os x x') (hnot : notAt id x = true) (hnew : newOf P T ud x h = some new) (hle : n0 + new.length ≤ lim (by_ + 1)) :
  OpOK m h H (aappend P (t :: u :: ts) (s' :: x' :: as) (atrunc (s' :: x' :: as) H)) (.own h.os.length) ((h.set id .dead).push (.row true T (l.take n0 ++ new) e)) := by
 have hlen : (h.set id .dead).os.length = h.os.length := by simp [THp.set]
 rcases hsv with ⟨hn, rfl, rfl⟩ | ⟨b, hb, rfl⟩
 ·rw [atrunc_nil]
  obtain ⟨hni, nc, f1, f2, f3, f4, f5⟩ := newOf_sound (H1 := H) hR hz0 hx hnew (fun _ _ => rfl); obtain ⟨k1, k2⟩ := kill_ext (H' := H) hR ho rfl (fun _ _ => rfl); have hG : (updM m id none).G = m.G := rfl; have := append_nil k1 (ts := ts) (as := as) hu hud hs hby hz hz2 hz0 hni f1 f2 f3 (by rw [hG]; exact f4) f5 (by simp at hn0; omega); rw [hlen] at this; have e1 : List.take n0 ([] : List T.den) ++ new = new := by simp
  rw [e1]; exact this.after hR k2
 ·rcases hR.obj id _ ho with ⟨e1, -⟩ | ⟨b', c, e1, e2, e3, e4⟩
  ·rw [hb] at e1; cases e1
  rw [hb] at e1; cases e1; have hmul : n0 * T.size ≤ l.length * T.size := Nat.mul_le_mul_right _ hn0; obtain ⟨H1, hH1, g1, g2, g3⟩ : ∃ H1, atrunc (.slice (some ⟨b, 0, none⟩) n0 T.size :: x' :: as) H = H1 ∧ H1.next = H.next ∧ (∀ c, c ≠ b → H1.get c = H.get c) ∧ H1.get b = .cells (c.take (n0 * T.size)) true T.size e := by
   obtain ⟨k, hk⟩ : ∃ k, T.size = k + 1 := ⟨T.size - 1, by omega⟩; refine ⟨_, rfl, ?_⟩; rw [hk] at e2 ⊢; simp only [atrunc, e2]; split
   ·refine ⟨rfl, fun d hd => by rw [AH.get_set, if_neg (fun q => hd q.symm)], by rw [AH.get_set, if_pos rfl]⟩
   ·rename_i hlt
    refine ⟨rfl, fun _ _ => rfl, ?_⟩; rw [e2, List.take_of_length_le (by omega)]
  rw [hH1]; obtain ⟨hni, nc, f1, f2, f3, f4, f5⟩ := newOf_sound (H1 := H1) hR hz0 hx hnew (fun d hd => g2 d fun q => by
   subst q; rcases hd with hd | ⟨i, hi, hi2⟩
   ·exact hd (hR.disj id _ hb)
   ·have := hR.inj _ _ _ hi hb
    subst this; rw [show (Key.o id).top = id from rfl, hnot] at hi2; cases hi2)
  obtain ⟨b1, b2⟩ := lim_mul hle; have hcl : (c.take (n0 * T.size)).length = n0 * T.size := by simp; omega
  have hr0 : Rows (DC m.G T) T.size (c.take (n0 * T.size)) (l.take n0) := by
   have hle0 : (l.take n0).length = n0 := by simp; omega
   have := drop_mul_rows e4 0 n0 (by omega); rw [Nat.zero_mul, List.drop_zero, List.drop_zero] at this; have h2 := this.take (by rw [hle0]; omega)
   rwa [hle0] at h2
  have hl0 : (l.take n0).length = n0 := by simp; omega
  by_cases h0 : new.length = 0
  ·have hn' : new = [] := List.eq_nil_of_length_eq_zero h0
   subst hn'; have e5 : aappend P (t :: u :: ts) (.slice (some ⟨b, 0, none⟩) n0 T.size :: x' :: as) H1 = some (.slice (some ⟨b, 0, none⟩) n0 T.size, H1) := by
    rw [aappend_eq hni hu hud hs hby hz f1 f2]; unfold appTail; rw [if_pos ⟨f5, hz0, hz2⟩]; simp only [g3]; rw [if_pos ⟨trivial, trivial, trivial, hcl⟩]; simp
   rw [e5, List.append_nil]; obtain ⟨m', q1, q2, q3⟩ := move_ext (l' := l.take n0) hR ho hb g1 g2 g3 (by rw [hl0, hcl]; omega) hr0; rw [hl0] at q3; exact ⟨m', _, _, rfl, q1, q2, q3⟩
  ·have e5 : aappend P (t :: u :: ts) (.slice (some ⟨b, 0, none⟩) n0 T.size :: x' :: as) H1 = some (.slice (some ⟨H1.next, 0, none⟩) (n0 + new.length) T.size, (H1.set b .dead).push (.cells (c.take (n0 * T.size) ++ nc) true T.size e)) := by
    rw [aappend_eq hni hu hud hs hby hz f1 f2]; unfold appTail; rw [if_pos ⟨f5, hz0, hz2⟩]; simp only [g3]; rw [if_pos ⟨trivial, trivial, trivial, hcl⟩]; simp only [h0, if_false]; rw [if_pos ⟨b1, b2⟩]
   rw [e5]; obtain ⟨k1, k2⟩ := kill_ext (H' := H1.set b .dead) hR ho (by simp [g1]) (fun d hd => by
    have hdb : d ≠ b := fun q => hd (by rw [q]; exact hb)
    rw [AH.get_set, if_neg (fun q => hdb q.symm)]; exact g2 d hdb)
   have hG : (updM m id none).G = m.G := rfl; have := push_row k1 (e := e) (l := l.take n0 ++ new) (c := c.take (n0 * T.size) ++ nc) (by rw [List.length_append, hcl, f3, List.length_append, hl0, Nat.add_mul]) (by rw [hG]; exact hr0.append (by rw [hcl, hl0]) f4) (k := n0 + new.length) (by rw [List.length_append, hl0]); rw [hlen] at this; exact OpOK.after hR k2 this
theorem append_buf {m : Mp} {h : THp} {H : AH} (hR : HR m h.os H) {t u e : Nat} {ud : TypeDesc} {T : Ty} {by_ : Nat} {z : Value} {ts : List TypeId} {as : List Value} {l new : List T.den} {id : Nat} {x : TV} {x' s' : Value}
  (hu : P.underlying t = some (.slice e)) (hud : P.underlying u = some ud) (hs : sizeOf? P e = some T.size) (hby : bytesOf? P e = some (by_ + 1)) (hz : zero? P e = some z) (hz2 : z.cells.size = T.size) (hz0 : T.size ≠ 0)
  (ho : h.os[id]? = some (.row true T l e)) (hsv : (m.ρ id = none ∧ l = [] ∧ s' = .slice none 0 0) ∨ ∃ b, m.ρ id = some b ∧ l ≠ [] ∧ s' = .slice (some ⟨b, 0, none⟩) l.length T.size)
  (hx : RV m h.os x x') (hnot : notAt id x = true) (hnew : newOf P T ud x h = some new) (hle : l.length + new.length ≤ lim (by_ + 1)) :
  OpOK m h H (aappend P (t :: u :: ts) (s' :: x' :: as) (atrunc (s' :: x' :: as) H)) (.buf h.os.length) ((h.set id .dead).push (.row true T (l ++ new) e)) := by
 have key := append_pre (n0 := l.length) hR (ts := ts) (as := as) hu hud hs hby hz hz2 hz0 ho (Nat.le_refl _) (hsv.imp _root_.id fun ⟨b, a1, _, a2⟩ => ⟨b, a1, a2⟩) hx hnot hnew hle
 rw [List.take_length] at key
 obtain ⟨m', v', H', q1, q2, q3, q4⟩ := key
 refine ⟨m', v', H', q1, q2, q3, .buf _ _ ?_⟩
 cases q4 with
 | own _ _ hx4 =>
 unfold OwnR at hx4
 unfold BufR
 have hlen : (h.set id .dead).os.length = h.os.length := by simp [THp.set]
 have hg : ((h.set id .dead).push (.row true T (l ++ new) e)).os[h.os.length]? = some (.row true T (l ++ new) e) := by
  rw [← hlen]; simp only [THp.push, List.getElem?_concat_length]
 rw [hg] at hx4 ⊢
 rcases hx4 with a | ⟨b, b1, b2⟩
 ·exact .inl a
 ·refine .inr ⟨b, b1, fun e0 => ?_, b2⟩
  obtain ⟨rfl, rfl⟩ := List.append_eq_nil_iff.1 e0; rcases hsv with ⟨-, -, rfl⟩ | ⟨_, _, q, _⟩
  ·obtain ⟨hni, nc, f1, f2, f3, f4, f5⟩ := newOf_sound (H1 := H) hR hz0 hx hnew (fun _ _ => rfl)
   have e1 : aappend P (t :: u :: ts) (.slice none 0 0 :: x' :: as) H = some (.slice none 0 0, H) := by
    rw [aappend_eq hni hu hud hs hby hz f1 f2]; unfold appTail; rw [if_pos ⟨f5, hz0, hz2⟩]; simp
   rw [atrunc_nil, e1] at q1; cases q1; cases b2
  ·exact absurd rfl q
def CH (m : Mp) (H : AH) (id : Nat) (nt : List Nat) (T : Ty) (l : List T.den) (c : List Value) : Prop :=
 c.length = l.length * T.size ∧ ∀ (i : Nat) (h : i < l.length), NC m H id (i * T.size) nt false T 0 l[i] ((c.drop (i * T.size)).take T.size)
theorem CH.one {m : Mp} {H : AH} {id : Nat} {nt : List Nat} {T : Ty} {l : List T.den} {c : List Value} (h : CH m H id nt T l c) (hz : T.size ≠ 0) : c.all AM.one = true := by
 obtain ⟨hl, h⟩ := h
 rw [List.all_eq_true]
 intro v hv
 obtain ⟨k, hk, rfl⟩ := List.getElem_of_mem hv
 have hi : k / T.size < l.length := Nat.div_lt_of_lt_mul (by rw [Nat.mul_comm, ← hl]; exact hk)
 have h1 := NC.one _ _ _ _ (h _ hi)
 rw [List.all_eq_true] at h1
 apply h1
 have hm := Nat.div_add_mod k T.size
 have hlt := Nat.mod_lt k (Nat.pos_of_ne_zero hz)
 rw [List.mem_iff_getElem]
 refine ⟨k % T.size, ?_, ?_⟩
 ·have := mul_succ_le (sz := T.size) hi; simp; omega
 ·simp only [List.getElem_take, List.getElem_drop]
  congr 1
  rw [Nat.mul_comm]; exact hm
theorem chunk_take {c : List Value} {n i sz : Nat} (h : i < n) : ((c.take (n * sz)).drop (i * sz)).take sz = (c.drop (i * sz)).take sz := by
 have := mul_succ_le (sz := sz) h
 rw [List.drop_take, List.take_take, Nat.min_eq_left (by omega)]
theorem mat_CH {m : Mp} {os : List TObj} {H H1 : AH} {id : Nat} {w : Bool} {T : Ty} {l : List T.den} {tid : Nat} {nt : List Nat} {ver : Nat} (ho : os[id]? = some (.mat w T l tid nt ver none)) (hMR : MR m H id T l tid nt none) {v : Value} (hv : OwnR m os id v) (hH : ∀ b, m.ρ id = some b → H1.get b = H.get b) :
  ∃ c, CH m H id nt T l c ∧ alenOf v = some l.length ∧ afirst T.size l.length v H1 = some c ∧ ((m.ρ id = none ∧ v = .slice none 0 0 ∧ l = []) ∨ ∃ b cc, m.ρ id = some b ∧ v = .slice (some ⟨b, 0, none⟩) l.length T.size ∧ H.get b = .cells cc true T.size tid ∧ l.length * T.size ≤ cc.length ∧ c = cc.take (l.length * T.size)) := by
 rw [OwnR_mat ho mat_i] at hv
 obtain ⟨e, hM⟩ := hMR
 rcases hv with ⟨q1, q2, rfl⟩ | ⟨b, q1, rfl⟩
 ·have : l = [] := List.eq_nil_of_length_eq_zero (by omega)
  subst this; exact ⟨[], ⟨by simp, fun i hi => by simp at hi⟩, rfl, rfl, .inl ⟨q1, rfl, rfl⟩⟩
 ·rcases hM with ⟨r1, -⟩ | ⟨b', cc, r1, r2, r3, r4, r5⟩
  ·rw [q1] at r1; cases r1
  ·rw [q1] at r1; cases r1
   refine ⟨cc.take (l.length * T.size), ⟨by simp; omega, fun i hi => by rw [chunk_take hi]; exact r5 i hi⟩, by rw [← e]; rfl, ?_, .inr ⟨b, cc, q1, by rw [e], r3, r4, rfl⟩⟩; simp only [afirst, hH b q1, r3]; rw [if_pos (by omega)]; simp
theorem mapp_sound {m : Mp} {h : THp} {H H' : AH} (hR : HR m h.os H) (S : List Nat) {T : Ty} {l1 l2 : List T.den} {e : Nat} {nt : List Nat} {c1 c2 : List Value} {id1 id2 : Nat} (k1 : CH m H id1 nt T l1 c1) (k2 : CH m H id2 nt T l2 c2) (hne : id1 = id2 → l1 = [])
  (hS : ∀ i ∈ S, ∃ o, h.os[i]? = some o ∧ ((∃ t l tid, o = .row true t l tid) ∨ ∃ t l tid nt ver hole, o = .mat true t l tid nt ver hole)) (hs1 : id1 ∈ S) (hs2 : id2 ∈ S) (r : Option Nat) (hn : H.next ≤ H'.next)
  (hcase : (r = none ∧ l1 ++ l2 = []) ∨ ∃ b0, r = some b0 ∧ H'.get b0 = .cells (c1 ++ c2) true T.size e ∧ ((b0 = H.next ∧ H.next < H'.next) ∨ m.ρ (.o id1) = some b0))
  (hH : ∀ d, d < H.next → m.ρ (.o id1) ≠ some d → H'.get d = H.get d) :
  ∃ m', HR m' ((killN h S).push (.mat true T (l1 ++ l2) e nt 0 none)).os H' ∧ Ext m h H m' ((killN h S).push (.mat true T (l1 ++ l2) e nt 0 none)) H' ∧ m'.ρ h.os.length = r ∧ m'.ν h.os.length = (l1 ++ l2).length := by
 have hf : ∀ j b, (if j < l1.length * T.size then m.ρ (.n id1 j) else m.ρ (.n id2 (j - l1.length * T.size))) = some b → ∃ k0 : Key, k0.top ∈ S ∧ m.ρ k0 = some b ∧ (∀ i, k0 ≠ .o i) := fun j b hb => by
  split at hb
  ·exact ⟨.n id1 j, hs1, hb, fun i e => by cases e⟩
  ·exact ⟨.n id2 (j - l1.length * T.size), hs2, hb, fun i e => by cases e⟩
 obtain ⟨m', g1, g2, g3, g4, g5⟩ := mpush_sound (H' := H') (T := T) (l := l1 ++ l2) (e := e) (nt := nt) hR S (ver := 0) rfl r (fun j => if j < l1.length * T.size then m.ρ (.n id1 j) else m.ρ (.n id2 (j - l1.length * T.size))) (c1 ++ c2) hS hn
  (fun d hd hno => hH d hd (hno _ hs1))
  (fun b hb => by
   rcases hcase with ⟨q, -⟩ | ⟨b0, q1, q2, q3⟩
   ·rw [hb] at q; cases q
   ·rw [hb] at q1; cases q1
    rcases q3 with ⟨rfl, q3⟩ | q3
    ·refine ⟨.inr ⟨Nat.le_refl _, q3⟩, fun j hj => ?_⟩
     obtain ⟨k0, -, w, -⟩ := hf j _ hj; have := (hR.lt _ _ w).1; omega
    ·refine ⟨.inl ⟨.o id1, hs1, q3⟩, fun j hj => ?_⟩
     obtain ⟨k0, -, w, w2⟩ := hf j _ hj; exact w2 id1 (hR.inj _ _ _ w q3))
  (fun j b hb => by obtain ⟨k0, w1, w2, -⟩ := hf j b hb; exact .inl ⟨k0, w1, w2⟩)
  (fun j j' b hb hb' => by
   split at hb <;> split at hb'
   ·have := hR.inj _ _ _ hb hb'; cases this; rfl
   ·have := hR.inj _ _ _ hb hb'
    simp only [Key.n.injEq] at this; rw [hne this.1] at *; simp at *
   ·have := hR.inj _ _ _ hb hb'
    simp only [Key.n.injEq] at this; rw [hne this.1.symm] at *; simp at *
   ·have := hR.inj _ _ _ hb hb'
    simp only [Key.n.injEq] at this; omega)
  (fun m' q1 q2 q3 q4 q5 => by
   refine ⟨q5.symm, ?_⟩; rcases hcase with ⟨q, q'⟩ | ⟨b0, w1, w2, w3⟩
   ·exact .inl ⟨q1.trans q, q'⟩
   ·refine .inr ⟨b0, c1 ++ c2, q1.trans w1, q4, w2, by rw [List.length_append, List.length_append, k1.1, k2.1, Nat.add_mul]; exact Nat.le_refl _, fun i hi => ?_⟩
    have hget : ∀ (id j b : Nat), m.ρ (.n id j) = some b → H'.get b = H.get b := fun id j b hb => hH b (hR.lt _ _ hb).1 fun w => by have := hR.inj _ _ _ hb w; cases this
    by_cases hlt : i < l1.length
    ·have hm := mul_succ_le (sz := T.size) hlt
     rw [List.getElem_append_left hlt]; have : ((c1 ++ c2).drop (i * T.size)).take T.size = (c1.drop (i * T.size)).take T.size := by
      rw [List.drop_append_of_le_length (by rw [k1.1]; omega), List.take_append_of_le_length (by simp [k1.1]; omega)]
     rw [this]; refine NC.map (m := m) (m' := m') (by rw [q3]; exact Gle.refl _) _root_.id _ _ _ _ (fun p b _ hp hb => ⟨?_, hget _ _ _ hb⟩) (k1.2 i hlt); rw [q2, if_pos (by omega)]; exact hb
    ·have hi2 : i - l1.length < l2.length := by simp at hi; omega
     rw [List.getElem_append_right (by omega)]; have e1 : i * T.size = c1.length + (i - l1.length) * T.size := by rw [k1.1, ← Nat.add_mul]; congr 1; omega
     have : ((c1 ++ c2).drop (i * T.size)).take T.size = (c2.drop ((i - l1.length) * T.size)).take T.size := by
      rw [e1, List.drop_append, List.drop_eq_nil_of_le (by omega), List.nil_append]
      congr 2; omega
     rw [this]; refine NC.map (m := m) (m' := m') (by rw [q3]; exact Gle.refl _) _root_.id _ _ _ _ (fun p b _ hp hb => ⟨?_, hget _ _ _ hb⟩) (k2.2 _ hi2); rw [k1.1] at e1; rw [q2, if_neg (by omega), show i * T.size + p - l1.length * T.size = (i - l1.length) * T.size + p by omega]; exact hb)
 exact ⟨m', g1, g2, g3, g4⟩
theorem aappZ_none {t u e : Nat} {ud : TypeDesc} {ts : List TypeId} {s' x' : Value} {as : List Value} {H : AH} (hu : P.underlying t = some (.slice e)) (hud : P.underlying u = some ud) (hnu : ∀ k, ud ≠ .int k) : aappendZ P (t :: u :: ts) (s' :: x' :: as) H = none := by
 unfold aappendZ
 cases s' <;> try rfl
 rename_i a n c
 cases a <;> try rfl
 cases n <;> try rfl
 cases c <;> try rfl
 cases x' <;> try rfl
 rename_i k _
 cases k <;> try rfl
 simp only [hu, hud]
 cases ud <;> first | rfl | exact absurd rfl (hnu _)
theorem OpOK.mapp {m : Mp} {h : THp} {H H' : AH} {S : List Nat} {T : Ty} {l : List T.den} {e : Nat} {nt : List Nat} {r : Option Nat} {v : Value} (k : ∃ m', HR m' ((killN h S).push (.mat true T l e nt 0 none)).os H' ∧ Ext m h H m' ((killN h S).push (.mat true T l e nt 0 none)) H' ∧ m'.ρ h.os.length = r ∧ m'.ν h.os.length = l.length)
  (hv : (r = none ∧ l = [] ∧ v = .slice none 0 0) ∨ ∃ b, r = some b ∧ v = .slice (some ⟨b, 0, none⟩) l.length T.size) : OpOK m h H (some (v, H')) (.own h.os.length) ((killN h S).push (.mat true T l e nt 0 none)) := by
 obtain ⟨m', g1, g2, g3, g4⟩ := k
 refine ⟨m', v, H', rfl, g1, g2, .own _ _ ?_⟩
 have ho : ((killN h S).push (.mat true T l e nt 0 none)).os[h.os.length]? = some (.mat true T l e nt 0 none) := by
  simp only [THp.push]; rw [← killN_len S h, List.getElem?_concat_length]
 refine (OwnR_mat ho mat_i).2 ?_
 rcases hv with ⟨q1, q2, q3⟩ | ⟨b, q1, q2⟩
 ·exact .inl ⟨g3.trans q1, by rw [g4, q2]; rfl, q3⟩
 ·exact .inr ⟨b, g3.trans q1, by rw [g4]; exact q2⟩
theorem tappMat_sound {m : Mp} {h : THp} {H : AH} (hR : HR m h.os H) {t u e by_ : Nat} {ud : TypeDesc} {T : Ty} {ts : List TypeId} {s x : TV} {s' x' : Value} {as : List Value} {z : Value} (hu : P.underlying t = some (.slice e)) (hud : P.underlying u = some ud) (hs : sizeOf? P e = some T.size) (hby : bytesOf? P e = some (by_ + 1)) (hz : zero? P e = some z) (hz2 : z.cells.size = T.size) (hz0 : T.size ≠ 0)
  (hsv : RV m h.os s s') (hxv : RV m h.os x x') {c : List Bool} {v : TV} {h' : THp} (he : tappMat P e T (by_ + 1) s ud x h = some (c, v, h')) (hc : cOK c) : OpOK m h H (aapp P (t :: u :: ts) (s' :: x' :: as) H) v h' := by
 unfold tappMat at he
 split at he
 ·rename_i eu idx
  have hni : ∀ k, (TypeDesc.slice eu) ≠ .int k := fun k q => by cases q
  have hA : aapp P (t :: u :: ts) (s' :: x' :: as) H = aappend P (t :: u :: ts) (s' :: x' :: as) (atrunc (s' :: x' :: as) H) := by
   unfold aapp; rw [aappZ_none hu hud hni]
  rw [hA]; split at he
  ·rename_i T' new tid' nt' ver' hatx
   have hox := at_some hatx (by simp); split at he
   ·rename_i hq
    obtain ⟨rfl, rfl⟩ := hq; split at he
    ·rename_i new' hn'
     obtain ⟨eT, hn'⟩ := castL_some hn'; cases eT; subst hn'; cases hxv with
     | own _ _ hxo =>
     have hMx : MR m H idx T new tid' (ntOf P 12 tid') none := hR.obj idx _ hox; split at he
     ·cases he
      cases hsv with
      | nilS =>
      rw [atrunc_nil]; obtain ⟨c2, k2, a1, a2, -⟩ := mat_CH (H1 := H) hox hMx hxo (fun _ _ => rfl); rw [aappend_eq hni hu hud hs hby hz a1 a2]; unfold appTail; rw [if_pos ⟨k2.one hz0, hz0, hz2⟩]; have hS : ∀ i ∈ [idx], ∃ o, h.os[i]? = some o ∧ ((∃ t l tid, o = .row true t l tid) ∨ ∃ t l tid nt ver hole, o = .mat true t l tid nt ver hole) := fun i hi => by
       simp at hi; subst hi; exact ⟨_, hox, .inr ⟨_, _, _, _, _, _, rfl⟩⟩
      have k1 : CH m H idx (ntOf P 12 tid') T [] [] := ⟨by simp, fun i hi => by simp at hi⟩; by_cases h0 : new.length = 0
      ·rw [if_pos h0]
       have hnl := List.eq_nil_of_length_eq_zero h0; exact OpOK.mapp (S := [idx]) (r := none) (mapp_sound (H' := H) hR [idx] k1 k2 (fun _ => rfl) hS (by simp) (by simp) none (Nat.le_refl _) (.inl ⟨rfl, by simpa using hnl⟩) (fun _ _ _ => rfl)) (.inl ⟨rfl, hnl, rfl⟩)
      ·rw [if_neg h0]
       have hle := fits_true hc.head; simp only [len, Nat.zero_add] at hle; obtain ⟨b1, b2⟩ := lim_mul hle; rw [if_pos ⟨b1, b2⟩]; exact OpOK.mapp (S := [idx]) (r := some H.next) (mapp_sound (H' := H.push (.cells c2 true T.size tid')) hR [idx] k1 k2 (fun _ => rfl) hS (by simp) (by simp) (some H.next) (by simp) (.inr ⟨H.next, rfl, by rw [AH.get_push, if_pos rfl]; rfl, .inl ⟨rfl, by simp⟩⟩) (fun d hd _ => by rw [AH.get_push, if_neg (by omega)])) (.inr ⟨_, rfl, rfl⟩)
     ·rename_i id
      split at he
      ·cases he
      ·rename_i hne
       split at he
       ·rename_i T2 l tid nt ver2 hat
        have ho := at_some hat (by simp); split at he
        ·rename_i hq
         obtain ⟨rfl, rfl⟩ := hq; split at he
         ·rename_i l' hl'
          obtain ⟨eT, hl'⟩ := castL_some hl'; cases eT; subst hl'; cases he; cases hsv with
          | own _ _ hso =>
          have hM : MR m H id T l tid (ntOf P 12 tid) none := hR.obj id _ ho; obtain ⟨c1, k1, -, -, hcase⟩ := mat_CH (H1 := H) ho hM hso (fun _ _ => rfl); have hS : ∀ i ∈ [id, idx], ∃ o, h.os[i]? = some o ∧ ((∃ t l tid, o = .row true t l tid) ∨ ∃ t l tid nt ver hole, o = .mat true t l tid nt ver hole) := fun i hi => by
           simp at hi; rcases hi with rfl | rfl
           ·exact ⟨_, ho, .inr ⟨_, _, _, _, _, _, rfl⟩⟩
           ·exact ⟨_, hox, .inr ⟨_, _, _, _, _, _, rfl⟩⟩
          have hle := fits_true hc.head; simp only [len] at hle; obtain ⟨b1, b2⟩ := lim_mul hle; rcases hcase with ⟨q1, rfl, rfl⟩ | ⟨b, cc, q1, rfl, q3, q4, q5⟩
          ·rw [atrunc_nil]
           have hc1 : c1 = [] := List.eq_nil_of_length_eq_zero (by rw [k1.1]; simp); subst hc1; obtain ⟨c2, k2, a1, a2, -⟩ := mat_CH (H1 := H) hox hMx hxo (fun _ _ => rfl); rw [aappend_eq hni hu hud hs hby hz a1 a2]; unfold appTail; rw [if_pos ⟨k2.one hz0, hz0, hz2⟩]; by_cases h0 : new.length = 0
           ·rw [if_pos h0]
            have hnl := List.eq_nil_of_length_eq_zero h0; exact OpOK.mapp (S := [id, idx]) (r := none) (mapp_sound (H' := H) hR [id, idx] k1 k2 (fun q => absurd q hne) hS (by simp) (by simp) none (Nat.le_refl _) (.inl ⟨rfl, by simpa using hnl⟩) (fun _ _ _ => rfl)) (.inl ⟨rfl, by simpa using hnl, rfl⟩)
           ·rw [if_neg h0]
            simp only [List.length_nil, Nat.zero_add] at b1 b2; rw [if_pos ⟨b1, b2⟩]; exact OpOK.mapp (S := [id, idx]) (r := some H.next) (mapp_sound (H' := H.push (.cells c2 true T.size tid)) hR [id, idx] k1 k2 (fun q => absurd q hne) hS (by simp) (by simp) (some H.next) (by simp) (.inr ⟨H.next, rfl, by rw [AH.get_push, if_pos rfl]; rfl, .inl ⟨rfl, by simp⟩⟩) (fun d hd _ => by rw [AH.get_push, if_neg (by omega)])) (.inr ⟨_, rfl, rfl⟩)
          ·obtain ⟨H1, hH1, g1, g2, g3⟩ : ∃ H1, atrunc (.slice (some ⟨b, 0, none⟩) l.length T.size :: x' :: as) H = H1 ∧ H1.next = H.next ∧ (∀ c, c ≠ b → H1.get c = H.get c) ∧ H1.get b = .cells c1 true T.size tid := by
            obtain ⟨k, hk⟩ : ∃ k, T.size = k + 1 := ⟨T.size - 1, by omega⟩; refine ⟨_, rfl, ?_⟩; rw [hk] at q3 q5 ⊢; simp only [atrunc, q3]; split
            ·exact ⟨rfl, fun d hd => by rw [AH.get_set, if_neg (fun q => hd q.symm)], by rw [AH.get_set, if_pos rfl, q5]⟩
            ·rename_i hlt
             refine ⟨rfl, fun _ _ => rfl, ?_⟩; rw [q3, q5, List.take_of_length_le (by omega)]
           rw [hH1]; obtain ⟨c2, k2, a1, a2, -⟩ := mat_CH (H1 := H1) hox hMx hxo (fun d hd => g2 d fun q => by
            subst q; exact hne (Key.o.inj (hR.inj _ _ _ q1 hd)))
           rw [aappend_eq hni hu hud hs hby hz a1 a2]; unfold appTail; rw [if_pos ⟨k2.one hz0, hz0, hz2⟩]; simp only [g3]; rw [if_pos ⟨trivial, trivial, trivial, k1.1⟩]; have hother : ∀ d, d < H.next → m.ρ (.o id) ≠ some d → H1.get d = H.get d := fun d _ hd => g2 d fun q => hd (by rw [q]; exact q1)
           by_cases h0 : new.length = 0
           ·rw [if_pos h0]
            have hnl := List.eq_nil_of_length_eq_zero h0; have hc2 : c2 = [] := List.eq_nil_of_length_eq_zero (by rw [k2.1, h0]; simp); exact OpOK.mapp (S := [id, idx]) (r := some b) (mapp_sound (H' := H1) hR [id, idx] k1 k2 (fun q => absurd q hne) hS (by simp) (by simp) (some b) (by omega) (.inr ⟨b, rfl, by rw [g3, hc2, List.append_nil], .inr q1⟩) hother) (.inr ⟨_, rfl, by simp [app, hnl]⟩)
           ·rw [if_neg h0, if_pos ⟨b1, b2⟩]
            have hb := (hR.lt _ _ q1).1; exact OpOK.mapp (S := [id, idx]) (r := some H.next) (mapp_sound (H' := (H1.set b .dead).push (.cells (c1 ++ c2) true T.size tid)) hR [id, idx] k1 k2 (fun q => absurd q hne) hS (by simp) (by simp) (some H.next) (by simp; omega) (.inr ⟨H.next, rfl, by rw [AH.get_push, if_pos (by simp [g1])], .inl ⟨rfl, by simp; omega⟩⟩) (fun d hd hno => by
             rw [AH.get_push, if_neg (by simp; omega), AH.get_set, if_neg (fun q => hno (by rw [← q]; exact q1))]; exact hother d hd hno)) (.inr ⟨_, rfl, by simp [app, g1]⟩)
         ·cases he
        ·cases he
       ·cases he
     ·cases he
    ·cases he
   ·cases he
  ·cases he
 ·cases he
theorem nestOut_sound {m : Mp} {h : THp} {H H' : AH} (hR : HR m h.os H) {id i : Nat} {T : Ty} {l : List (List T.den)} {tid : Nat} {nt : List Nat} {ver : Nat} (ho : h.os[id]? = some (.mat true (.slice T) l tid nt ver none)) (hi : i < m.ν id)
  {l2 : List T.den} {e : Nat} (r : Option Nat) {v : Value} (hn : H.next ≤ H'.next)
  (hcase : (r = none ∧ l2 = [] ∧ v = .slice none 0 0) ∨ ∃ b0 c2, r = some b0 ∧ H'.get b0 = .cells c2 true T.size e ∧ l2.length * T.size ≤ c2.length ∧ Rows (DC m.G T) T.size c2 l2 ∧ v = .slice (some ⟨b0, 0, none⟩) l2.length T.size ∧ ((b0 = H.next ∧ H.next < H'.next) ∨ m.ρ (.n id i) = some b0))
  (hH : ∀ d, d < H.next → m.ρ (.n id i) ≠ some d → H'.get d = H.get d) :
  OpOK m h H (some (v, H')) (.own h.os.length) ((h.set id (.mat true (.slice T) l tid nt (ver + 1) (some i))).push (.row true T l2 e)) := by
 have hMR : MR m H id (.slice T) l tid nt none := hR.obj id _ ho
 have hid := (List.getElem?_eq_some_iff.1 ho).1
 let m' : Mp := ⟨fun k => match k with
  | .o q => if q = h.os.length then r else m.ρ (.o q)
  | .n q j => if q = id ∧ j = i then none else m.ρ (.n q j), m.G, m.μ, m.ν⟩
 have oO : ∀ q, q ≠ h.os.length → m'.ρ (.o q) = m.ρ (.o q) := fun q hq => if_neg hq
 have oN : m'.ρ (.o h.os.length) = r := if_pos rfl
 have nO : ∀ q j, ¬ (q = id ∧ j = i) → m'.ρ (.n q j) = m.ρ (.n q j) := fun q j hq => if_neg hq
 have nN : m'.ρ (.n id i) = none := if_pos ⟨rfl, rfl⟩
 have src : ∀ (k : Key) d, m'.ρ k = some d → (m.ρ k = some d ∧ k ≠ .n id i ∧ k ≠ .o h.os.length) ∨ (k = .o h.os.length ∧ r = some d) := fun k d hd => by
  cases k with
  | o q =>
   by_cases hq : q = h.os.length
   ·subst hq; rw [oN] at hd; exact .inr ⟨rfl, hd⟩
   ·rw [oO q hq] at hd; exact .inl ⟨hd, (by simp), ko hq⟩
  | n q j =>
   by_cases hq : q = id ∧ j = i
   ·obtain ⟨rfl, rfl⟩ := hq; rw [nN] at hd; cases hd
   ·rw [nO q j hq] at hd; exact .inl ⟨hd, (fun w => hq (by cases w; exact ⟨rfl, rfl⟩)), (by simp)⟩
 have rOf : ∀ d, r = some d → (m.ρ (.n id i) = some d) ∨ (d = H.next ∧ H.next < H'.next) := fun d hd => by
  rcases hcase with ⟨q, -⟩ | ⟨b0, c2, q1, -, -, -, -, q2⟩
  ·rw [hd] at q; cases q
  ·rw [hd] at q1; cases q1; exact q2.symm
 have hlen : ((h.set id (.mat true (.slice T) l tid nt (ver + 1) (some i))).push (.row true T l2 e)).os.length = h.os.length + 1 := by simp [THp.push, THp.set]
 have os0 : ∀ q, q < h.os.length → q ≠ id → ((h.set id (.mat true (.slice T) l tid nt (ver + 1) (some i))).push (.row true T l2 e)).os[q]? = h.os[q]? := fun q hq hne => by
  simp only [THp.push, THp.set]; rw [List.getElem?_append_left (by simpa using hq), List.getElem?_set_ne (fun w => hne w.symm)]
 have os1 : ((h.set id (.mat true (.slice T) l tid nt (ver + 1) (some i))).push (.row true T l2 e)).os[id]? = some (.mat true (.slice T) l tid nt (ver + 1) (some i)) := by
  simp only [THp.push, THp.set]; rw [List.getElem?_append_left (by simpa using hid), List.getElem?_set_self hid]
 have os2 : ((h.set id (.mat true (.slice T) l tid nt (ver + 1) (some i))).push (.row true T l2 e)).os[h.os.length]? = some (.row true T l2 e) := by
  simp only [THp.push, THp.set]; rw [← List.length_set (as := h.os) (i := id) (a := .mat true (.slice T) l tid nt (ver + 1) (some i)), List.getElem?_concat_length]
 have key := rework (m' := m') (os' := ((h.set id (.mat true (.slice T) l tid nt (ver + 1) (some i))).push (.row true T l2 e)).os) (H' := H') hR [id]
  (by rw [hlen]; omega)
  (fun q hq hnS => os0 q hq (by simpa using hnS))
  (fun k h1 h2 => by
   cases k with
   | o q => exact oO q (by have : q < h.os.length := h1; omega)
   | n q j => exact nO q j fun w => h2 (by simp [Key.top, w.1]))
  (fun _ _ _ => ⟨rfl, rfl⟩) rfl
  (fun k d hd => by
   rcases src k d hd with ⟨w, -, -⟩ | ⟨rfl, w⟩
   ·refine ⟨by rw [hlen]; have := (hR.lt _ _ w).2; omega, ?_⟩
    by_cases g : k.top ∈ [id]
    ·exact .inr (.inl ⟨k, g, w⟩)
    ·exact .inl ⟨(hR.lt _ _ w).2, g⟩
   ·refine ⟨by rw [hlen]; simp [Key.top], ?_⟩
    rcases rOf d w with g | ⟨rfl, g⟩
    ·exact .inr (.inl ⟨.n id i, by simp [Key.top], g⟩)
    ·exact .inr (.inr ⟨Nat.le_refl _, g⟩))
  (fun k k' d _ _ g1 g2 => by
   rcases src k d g1 with ⟨w, w1, w2⟩ | ⟨rfl, w⟩ <;> rcases src k' d g2 with ⟨u, u1, u2⟩ | ⟨rfl, u⟩
   ·exact hR.inj _ _ _ w u
   ·rcases rOf d u with g | ⟨rfl, g⟩
    ·exact absurd (hR.inj _ _ _ w g) w1
    ·have := (hR.lt _ _ w).1; omega
   ·rcases rOf d w with g | ⟨rfl, g⟩
    ·exact absurd (hR.inj _ _ _ u g) u1
    ·have := (hR.lt _ _ u).1; omega
   ·rfl)
  hn (fun d hd hno => hH d hd (hno (.n id i) (by simp [Key.top])))
  (fun q hq o hoq => by
   simp at hq; subst hq; rw [ho] at hoq; cases hoq; exact ⟨.inl ⟨_, rfl⟩, _, os1, .inr ⟨rfl, .inl ⟨l, ver + 1, some i, rfl, rfl, by omega⟩⟩, .inr ⟨⟨_, rfl⟩, ⟨_, rfl⟩, oO _ (by omega), rfl, fun _ => rfl⟩⟩)
  (fun hm q o' hoq hq => by
   by_cases eq : q = id
   ·subst eq
    rw [os1] at hoq; cases hoq; refine ⟨hMR.1, ?_⟩; rcases hMR.2 with ⟨w1, w2⟩ | ⟨b, c, w1, w2, w3, w4, w5⟩
    ·exact .inl ⟨(oO _ (by omega)).trans w1, w2⟩
    ·refine .inr ⟨b, c, (oO _ (by omega)).trans w1, w2, ?_, w4, fun j hj => ?_⟩
     ·rw [hH b (hR.lt _ _ w1).1 fun g => by have := hR.inj _ _ _ w1 g; cases this]; exact w3
     ·by_cases ej : j = i
      ·subst ej
       obtain ⟨v0, z1, -⟩ := w5 j hj; exact ⟨v0, z1, .inl (by simp)⟩
      ·refine NC.map (m := m) (m' := m') (Gle.refl _) (fun g => by simp at g) _ _ _ _ (fun p d _ hp hd => ?_) (w5 j hj)
       have hp0 : p = 0 := by simp [Ty.size] at hp; exact hp
       subst hp0; have hji : ¬ (q = q ∧ j * (Ty.slice T).size + 0 = i) := by simp [Ty.size, ej]
       refine ⟨(nO _ _ hji).trans hd, hH d (hR.lt _ _ hd).1 fun g => ?_⟩; have := hR.inj _ _ _ hd g; simp only [Key.n.injEq] at this; exact hji ⟨rfl, this.2⟩
   ·rcases hq with hq | hq
    ·simp at hq; exact absurd hq eq
    ·have := (List.getElem?_eq_some_iff.1 hoq).1
     rw [hlen] at this; have : q = h.os.length := by omega
     subst this; rw [os2] at hoq; cases hoq; rcases hcase with ⟨w1, w2, -⟩ | ⟨b0, c2, w1, w2, w3, w4, -⟩
     ·exact .inl ⟨oN.trans w1, w2⟩
     ·exact .inr ⟨b0, c2, oN.trans w1, w2, w3, w4⟩)
 refine ⟨m', v, H', rfl, key.1, key.2, .own _ _ ?_⟩
 unfold OwnR
 rw [os2]
 rcases hcase with ⟨w1, w2, w3⟩ | ⟨b0, c2, w1, -, -, -, w3, -⟩
 ·exact .inl ⟨oN.trans w1, w2, w3⟩
 ·exact .inr ⟨b0, oN.trans w1, w3⟩
theorem tappNest_sound {m : Mp} {h : THp} {H : AH} (hR : HR m h.os H) {t u e by_ : Nat} {ud : TypeDesc} {T : Ty} {ts : List TypeId} {s x : TV} {s' x' : Value} {as : List Value} {z : Value} (hu : P.underlying t = some (.slice e)) (hud : P.underlying u = some ud) (hs : sizeOf? P e = some T.size) (hby : bytesOf? P e = some (by_ + 1)) (hz : zero? P e = some z) (hz2 : z.cells.size = T.size) (hz0 : T.size ≠ 0)
  (hsv : RV m h.os s s') (hxv : RV m h.os x x') {c : List Bool} {v : TV} {h' : THp} (he : tappNest P e T (by_ + 1) s ud x h = some (c, v, h')) (hc : cOK c) : OpOK m h H (aapp P (t :: u :: ts) (s' :: x' :: as) H) v h' := by
 unfold tappNest at he
 split at he
 ·rename_i id i ver
  split at he
  ·rename_i hnot
   split at he
   ·rename_i uu l tid nt ver' hat
    split at he
    ·rename_i hq
     obtain ⟨rfl, hnt⟩ := hq; split at he
     ·rename_i c0 new hc0 hnew
      cases he; obtain ⟨eT, hc0⟩ := castL_some hc0; cases eT; subst hc0; have ho := at_some hat (by simp); have hle := fits_true hc.head; simp only [len] at hle; obtain ⟨b1, b2⟩ := lim_mul hle; have hni : ∀ k, ud ≠ .int k := fun k q => by subst q; cases hnew
      unfold aapp; rw [aappZ_none hu hud hni]; simp only; have hne : nestOf h (.nest id i 0 ver' none) = some ⟨T, rd l i []⟩ := by
       simp only [nestOf, hat, if_true, getN, cutO, Ty.dflt]
      obtain ⟨w2, T2, l3, tid3, nt3, ho3, hi, -, hns, -⟩ := nestOf_sound hR hsv hne; rw [ho] at ho3; cases ho3; simp only [Ty.size, Nat.mul_one, Nat.add_zero, hnt] at hns; rcases hns with ⟨rfl, hnil⟩ | ⟨b, cc, q1, rfl, q3, q4, q5⟩
      ·rw [atrunc_nil]
       obtain ⟨-, nc, f1, f2, f3, f4, f5⟩ := newOf_sound (H1 := H) hR hz0 hxv hnew (fun _ _ => rfl); rw [aappend_eq hni hu hud hs hby hz f1 f2]; unfold appTail; rw [if_pos ⟨f5, hz0, hz2⟩]; rw [hnil] at hle b1 b2 ⊢; simp only [List.length_nil, Nat.zero_add] at b1 b2; by_cases h0 : new.length = 0
       ·rw [if_pos h0]
        have hnl := List.eq_nil_of_length_eq_zero h0; exact nestOut_sound hR ho hi none (Nat.le_refl _) (.inl ⟨rfl, by simpa using hnl, rfl⟩) (fun _ _ _ => rfl)
       ·rw [if_neg h0, if_pos ⟨b1, b2⟩]
        exact nestOut_sound (H' := H.push (.cells nc true T.size e)) hR ho hi (some H.next) (by simp) (.inr ⟨H.next, nc, rfl, by rw [AH.get_push, if_pos rfl], by simp [f3], f4, by simp, .inl ⟨rfl, by simp⟩⟩) (fun d hd _ => by rw [AH.get_push, if_neg (by omega)])
      ·generalize hrow : rd l i [] = c0 at *
       obtain ⟨H1, hH1, g1, g2, g3⟩ : ∃ H1, atrunc (.slice (some ⟨b, 0, none⟩) c0.length T.size :: x' :: as) H = H1 ∧ H1.next = H.next ∧ (∀ c, c ≠ b → H1.get c = H.get c) ∧ H1.get b = .cells (cc.take (c0.length * T.size)) true T.size e := by
        obtain ⟨k, hk⟩ : ∃ k, T.size = k + 1 := ⟨T.size - 1, by omega⟩; refine ⟨_, rfl, ?_⟩; rw [hk] at q3 q4 ⊢; simp only [atrunc, q3]; split
        ·exact ⟨rfl, fun d hd => by rw [AH.get_set, if_neg (fun q => hd q.symm)], by rw [AH.get_set, if_pos rfl]⟩
        ·rename_i hlt
         refine ⟨rfl, fun _ _ => rfl, ?_⟩; rw [q3, List.take_of_length_le (by omega)]
       rw [hH1]; obtain ⟨-, nc, f1, f2, f3, f4, f5⟩ := newOf_sound (H1 := H1) hR hz0 hxv hnew (fun d hd => g2 d fun q => by
        subst q; rcases hd with hd | ⟨k, hk, hk2⟩
        ·exact hd (hR.disj _ _ q1)
        ·have := hR.inj _ _ _ hk q1
         subst this; rw [show (Key.n id i).top = id from rfl, hnot] at hk2; cases hk2)
       rw [aappend_eq hni hu hud hs hby hz f1 f2]; unfold appTail; rw [if_pos ⟨f5, hz0, hz2⟩]; simp only [g3]; have hcl : (cc.take (c0.length * T.size)).length = c0.length * T.size := by simp; omega
       rw [if_pos ⟨trivial, trivial, trivial, hcl⟩]; have hr0 := q5.take q4; have hother : ∀ d, d < H.next → m.ρ (.n id i) ≠ some d → H1.get d = H.get d := fun d _ hd => g2 d fun q => hd (by rw [q]; exact q1)
       by_cases h0 : new.length = 0
       ·rw [if_pos h0]
        have hnl := List.eq_nil_of_length_eq_zero h0; subst hnl; refine nestOut_sound (H' := H1) hR ho hi (some b) (by omega) (.inr ⟨b, _, rfl, g3, by rw [hcl]; simp, by simpa using hr0, by simp, .inr q1⟩) hother
       ·rw [if_neg h0, if_pos ⟨b1, b2⟩]
        have hb := (hR.lt _ _ q1).1; refine nestOut_sound (H' := (H1.set b .dead).push (.cells (cc.take (c0.length * T.size) ++ nc) true T.size e)) hR ho hi (some H.next) (by simp; omega) (.inr ⟨H.next, _, rfl, by rw [AH.get_push, if_pos (by simp [g1])], by simp only [List.length_append, hcl, f3, Nat.add_mul]; exact Nat.le_refl _, hr0.append hcl f4, by simp [g1], .inl ⟨rfl, by simp; omega⟩⟩) (fun d hd hno => by
         rw [AH.get_push, if_neg (by simp; omega), AH.get_set, if_neg (fun q => hno (by rw [← q]; exact q1))]; exact hother d hd hno)
     ·cases he
    ·cases he
   ·cases he
  ·cases he
 ·cases he
theorem tappend_sound {m : Mp} {h : THp} {H : AH} (hR : HR m h.os H) {ts : List TypeId} {args : List TV} {args' : List Value} (ha : RL m h.os args args') {c : List Bool} {v : TV} {h' : THp} (he : tappend P ts args h = some (c, v, h')) (hc : cOK c) :
  OpOK m h H (aapp P ts args' H) v h' := by
 unfold tappend at he
 split at he
 ·rename_i t u ts' s x xs
  obtain ⟨s', r1, rfl, hs', ha1⟩ := ha.cons_inv; obtain ⟨x', r2, rfl, hx', ha2⟩ := ha1.cons_inv; split at he
  ·rename_i e ud hu hud
   split at he
   ·rename_i T by_ hT hby
    obtain ⟨hs, hag, hz0⟩ := elemTy_some hT; split at he
    ·rename_i hzo
     obtain ⟨z, z1, z2, z3⟩ := zeroOk_sound hzo m.G; split at he
     ·rename_i r hr
      cases he; exact tappMat_sound hR hu hud hs hby z1 z2 hz0 hs' hx' hr hc
     ·rename_i r hr0 hr
      cases he; exact tappNest_sound hR hu hud hs hby z1 z2 hz0 hs' hx' hr hc
     rename_i hm1 hm2; clear hm1 hm2; split at he
     ·-- zeros
      rename_i k n; cases he; cases hs' with
      | nilS =>
      cases hx' with
      | int _ _ =>
      have c1 := lt_true hc.head; have c2 := fits_true hc.tail.head; obtain ⟨b1, b2⟩ := lim_mul (show tn n ≤ lim (by_ + 1) by omega); obtain ⟨q1, q2⟩ := Rows.replicate (R := DC m.G T) (sz := T.size) z3 (by simpa using z2) n.toNat; have e1 : aapp P (t :: u :: ts') (.slice none 0 0 :: .int .i64 n :: r2) H = some (.slice (some ⟨H.next, 0, none⟩) n.toNat T.size, H.push (.cells (repeatCells z.cells.toList n.toNat) true T.size e)) := by
       have e2 : aappendZ P (t :: u :: ts') (.slice none 0 0 :: .int .i64 n :: r2) H = some (.slice (some ⟨H.next, 0, none⟩) n.toNat T.size, H.push (.cells (repeatCells z.cells.toList n.toNat) true T.size e)) := by
        simp only [aappendZ, hu, hud, hs, hby, z1]; rw [if_pos ⟨c1, b1, b2, hz0, z2⟩]
       unfold aapp; rw [e2]
      rw [e1]; exact push_row hR (by rw [q2, List.length_replicate]) q1 (by simp)
     ·rename_i hnz
      split at he
      ·rename_i new hnew
       have hZ : aappendZ P (t :: u :: ts') (s' :: x' :: r2) H = none := by
        have hnu : ∀ k, ud ≠ .int k := fun k q => by subst q; cases hnew
        unfold aappendZ; cases s' <;> try rfl
        rename_i a n c; cases a <;> try rfl
        cases n <;> try rfl
        cases c <;> try rfl
        cases x' <;> try rfl
        rename_i k _; cases k <;> try rfl
        simp only [hu, hud]; cases ud <;> first | rfl | exact absurd rfl (hnu _)
       unfold aapp; rw [hZ]; split at he
       ·cases he
        cases hs' with
        | nilS =>
        rw [atrunc_nil]; obtain ⟨hni, nc, f1, f2, f3, f4, f5⟩ := newOf_sound (H1 := H) hR hz0 hx' hnew (fun _ _ => rfl); exact append_nil hR hu hud hs hby z1 z2 hz0 hni f1 f2 f3 f4 f5 (by have := fits_true hc.head; simp only [len] at this; omega)
       ·rename_i id
        split at he
        ·rename_i hnot
         split at he
         ·rename_i T' l tid hat
          split at he
          ·rename_i e'; subst e'
           split at he
           ·rename_i l' hl'
            obtain ⟨eT, rfl⟩ := castL_some hl'; subst eT; cases he; have ho := at_some hat (by simp); cases hs' with
            | own _ _ hx =>
            unfold OwnR at hx; rw [ho] at hx; have := append_pre (n0 := l.length) hR (ts := ts') (as := r2) hu hud hs hby z1 z2 hz0 ho (Nat.le_refl _) hx hx' hnot hnew (fits_true hc.head); rw [List.take_length] at this; exact this
           ·cases he
          ·cases he
         ·cases he
        ·cases he
       ·rename_i id
        split at he
        ·rename_i hnot
         split at he
         ·rename_i T' l tid hat
          split at he
          ·rename_i e'; subst e'
           split at he
           ·rename_i l' hl'
            obtain ⟨eT, rfl⟩ := castL_some hl'; subst eT; cases he; have ho := at_some hat (by simp); cases hs' with
            | buf _ _ hx =>
            unfold BufR at hx; rw [ho] at hx; exact append_buf hR (ts := ts') (as := r2) hu hud hs hby z1 z2 hz0 ho hx hx' hnot hnew (fits_true hc.head)
           ·cases he
          ·cases he
         ·cases he
        ·cases he
       ·rename_i id n0
        split at he
        ·rename_i hnot
         split at he
         ·rename_i T' l tid hat
          split at he
          ·rename_i e'; subst e'
           split at he
           ·rename_i l' hl'
            obtain ⟨eT, rfl⟩ := castL_some hl'; subst eT; cases he; have ho := at_some hat (by simp); cases hs' with
            | sub _ _ _ _ hx =>
            unfold SubR at hx; rw [ho] at hx; have hn0 : n0 ≤ l.length := by
             rcases hx with ⟨-, -, rfl, -, -⟩ | ⟨b, -, hle, -⟩ <;> omega
            have hx2 : (m.ρ id = none ∧ l = [] ∧ s' = .slice none 0 0) ∨ ∃ b, m.ρ id = some b ∧ s' = .slice (some ⟨b, 0, none⟩) n0 T'.size := by
             rcases hx with ⟨a1, -, rfl, a2, a3⟩ | ⟨b, a1, hle, a2⟩
             ·exact .inl ⟨a1, a2, a3⟩
             ·exact .inr ⟨b, a1, by rw [a2, Nat.zero_mul]⟩
            exact append_pre (n0 := n0) hR (ts := ts') (as := r2) hu hud hs hby z1 z2 hz0 ho hn0 hx2 hx' hnot hnew (fits_true hc.head)
           ·cases he
          ·cases he
         ·cases he
        ·cases he
       ·cases he
      ·cases he
    ·cases he
   ·cases he
  ·cases he
 ·cases he
end Go.TM
