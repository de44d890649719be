/- All operations. -/

import Derived.Test.YtgpligmjbecbjaaDoorTmEff3
set_option linter.unusedVariables false
set_option linter.unusedSimpArgs false
set_option linter.unusedSectionVars false
namespace Go.TM
open Go Go.AM
variable {P : Program}

theorem isb_bytes : ∀ (l : List Int), isb l = true → (l.map (Value.int .u8)).mapM byteOf? = some (bstr l) := by
 intro l
 induction l with
 | nil => intro _; rfl
 | cons a r ih =>
  intro h
  simp only [isb, List.all_cons, Bool.and_eq_true, decide_eq_true_eq] at h
  have := ih (by simpa [isb] using h.2)
  simp only [List.map_cons, List.mapM_cons, byteOf?, bstr]
  rw [if_pos h.1]
  simp only [bstr] at this
  simp [this]
theorem rows_u8 {G : Nat → Option (List Value)} {c : List Value} {l : List Int} (h : Rows (DC G (.int .u8)) 1 c l) (hl : c.length = l.length * 1) : c = l.map (Value.int .u8) := by
 apply List.ext_getElem
 ·simpa using hl
 ·intro i h1 h2
  have hi : i < l.length := by simpa using h2
  have := (h i hi).2
  have e : (c.drop (i * 1)).take 1 = [.int .u8 l[i]] := this
  have e0 := congrArg (fun z : List Value => z[0]?) e
  simp only [Nat.mul_one, List.getElem?_take_of_lt (Nat.zero_lt_one), List.getElem?_drop, Nat.add_zero, List.getElem?_eq_getElem h1, List.getElem?_cons_zero, Option.some.injEq] at e0
  simp [e0]
theorem tconvert_sound {m : Mp} {h : THp} {H : AH} (hR : HR m h.os H) {s d : Nat} {x : TV} {x' : Value} (hx : RV m h.os x x') {c : List Bool} {v : TV} {h' : THp} (he : tconvert P s d x h = some (c, v, h')) (hc : cOK c) :
  OpOK m h H (aconvert P s d x' H) v h' := by
 unfold tconvert at he
 split at he
 ·rename_i k0 k k' n hs hd
  cases he
  cases hx
  rw [tconvInt_sound (m := m) (os := h.os) hs hd]
  exact .quiet hR (.int _ _)
 ·rename_i b hs hd
  cases he
  cases hx
  rw [tconvStr_sound (m := m) (os := h.os) hs hd]
  exact .quiet hR (.str _)
 ·rename_i k0 k' n hs hd
  cases he
  cases hx
  rw [tconvRune_sound hs hd]
  exact .quiet hR (.str _)
 ·rename_i e b hs hd
  split at he
  ·rename_i hu hsz
   cases he
   cases hx
   have hle := fits_true hc.head
   have e1 : aconvert P s d (.string ⟨b.toArray⟩) H = some (.slice (some ⟨H.next, 0, none⟩) b.length 1, H.push (.cells (b.map fun b => Value.int .u8 b.toNat) true 1 e)) := by
    simp only [aconvert, hs, hd, hu, hsz, ByteArray.size, List.size_toArray]
    rw [if_pos (by simp only [len] at hle; omega)]
   rw [e1]
   refine push_row (T := .int .u8) (l := byts b) hR (by simp [byts, Ty.size]) (fun i hi => ?_) (by simp [byts])
   have hi' : i < b.length := by simpa [byts] using hi
   refine ⟨by simp [Ty.size]; omega, ?_⟩
   show _ = _
   simp only [Ty.size, Nat.mul_one, byts, List.getElem_map]
   rw [List.drop_eq_getElem_cons (by simpa using hi')]
   simp
  ·cases he
 ·rename_i e hs hd
  split at he
  ·rename_i hu
   split at he
   ·rename_i l hl
    cases he
    obtain ⟨new, f1, f2, f3, f4⟩ := decS_rows (H1 := H) hR hx hl (fun _ _ => rfl)
    have f5 : new = l.map (Value.int .u8) := rows_u8 f4 f3
    have f6 := isb_bytes l hc.head
    rw [← f5] at f6
    have e1 : aconvert P s d x' H = some (.string ⟨(bstr l).toArray⟩, H) := by
     cases x' with
     | slice a n cc =>
      cases a with
      | none =>
       have hn : n = 0 ∧ cc = 0 := by
        cases n with
        | zero => cases cc with
         | zero => exact ⟨rfl, rfl⟩
         | succ c => cases f2
        | succ n => cases f2
       obtain ⟨rfl, rfl⟩ := hn
       have hl0 : l = [] := by
        have : l.length = 0 := (Option.some.inj f1).symm
        exact List.eq_nil_of_length_eq_zero this
       subst hl0
       have e : pureV P (convert s d (.slice none 0 0)) = some (.string .empty) := by
        refine pureV_of ?_ rfl
        unfold convert
        rw [pureRun_bind _ _ (pureRun_underlying hs), pureRun_bind _ _ (pureRun_underlying hd)]
        show pureRun P (do match ← underlying e with | .int .u8 => Conv.bytesToString (.slice none 0 0) | .int .i32 => Conv.runesToString (.slice none 0 0) | _ => stuck "Convert: a slice of what to string?") = _
        rw [pureRun_bind _ _ (pureRun_underlying hu)]
        rfl
       simp only [aconvert, hs, hd]
       rw [if_pos (show flat (.slice none 0 0) = true from rfl), e]
       rfl
      | some a =>
       obtain ⟨b, off, spot⟩ := a
       cases spot with
       | some _ => cases f2
       | none =>
        have hn : n = l.length := Option.some.inj f1
        subst hn
        simp only [afirst] at f2
        split at f2
        ·rename_i cells own sz ty hg
         split at f2
         ·rename_i hle
          cases f2
          simp only [Ty.size, Nat.mul_one] at hle f6
          simp only [aconvert, hs, hd, hu, hg]
          rw [if_pos hle, f6]
          rfl
         ·cases f2
        ·cases f2
     | func f a b =>
      cases f with
      | methodOf n str =>
       have hn : n = l.length := Option.some.inj f1
       subst hn
       simp only [afirst] at f2
       split at f2
       ·rename_i hle
        cases f2
        simp only [Ty.size, Nat.mul_one] at hle f6
        simp only [aconvert, hs, hd, hu]
        rw [if_pos hle, f6]
        rfl
       ·cases f2
      | _ => cases f1
     | string str =>
      exfalso
      unfold decS at hl
      cases hx with
      | deep _ _ _ hh => rcases hh.rowV with ⟨_, _, q⟩ | ⟨_, _, _, q⟩ <;> cases q
      | own id _ hh =>
       unfold OwnR at hh
       split at hh
       ·rcases hh with ⟨_, _, q⟩ | ⟨_, _, q⟩ <;> cases q
       ·rcases DS.rowV hh with ⟨_, _, q⟩ | ⟨_, _, _, q⟩ <;> cases q
       ·rename_i e; simp [THp.at_, List.getD_eq_getElem?_getD, e] at hl
       ·rcases hh with ⟨_, _, q⟩ | ⟨_, _, q⟩ <;> cases q
       ·rcases hh with ⟨_, _, q⟩ | ⟨_, _, q⟩ <;> cases q
       ·exact hh
      | sub id lo n _ hh =>
       unfold SubR at hh
       split at hh
       ·rcases hh with ⟨_, _, _, _, q⟩ | ⟨_, _, _, q⟩ <;> cases q
       ·rcases DS.rowV hh with ⟨_, _, q⟩ | ⟨_, _, _, q⟩ <;> cases q
       ·rename_i e; simp [THp.at_, List.getD_eq_getElem?_getD, e] at hl
       ·exact hh
      | _ => simp at hl
     | _ => cases f1
    rw [e1]
    exact .quiet hR (.str _)
   ·cases he
  ·cases he
 ·rename_i t id hs hd
  split at he
  ·rename_i w c0 cs tid n hat hsz
   cases he
   cases hx with
   | ptr _ _ b hb hf =>
   obtain ⟨b', cc, e1, e2, e3, e4⟩ := hR.obj id _ (at_some hat (by simp))
   rw [hb] at e1; cases e1
   obtain ⟨v0, r0, rfl, -, -⟩ := e4.cons_inv
   have e1 : aconvert P s d (.pointer (some ⟨b, 0, none⟩)) H = some (.pointer (some ⟨b, 0, none⟩), H) := by
    simp [aconvert, hs, hd, flat, flat1, aunsafe, e2, hsz]
   rw [e1]
   exact .quiet hR (.ptr _ _ _ hb hf)
  ·cases he
 ·rename_i u id hs hd
  split at he
  ·rename_i w cs tid n hat hsz
   split at he
   ·rename_i hle
    cases he
    cases hx with
    | ptr _ _ b hb hf =>
    obtain ⟨b', cc, e1, e2, e3, e4⟩ := hR.obj id _ (at_some hat (by simp))
    rw [hb] at e1; cases e1
    have e1 : aconvert P s d (.pointer (some ⟨b, 0, none⟩)) H = some (.pointer (some ⟨b, 0, none⟩), H) := by
     simp only [aconvert, hs, hd, flat, flat1, aunsafe, e2, hsz, Bool.false_eq_true, if_false]
     rw [if_pos ⟨hle.1, by rw [← e4.1]; exact hle.2⟩]
    rw [e1]
    exact .quiet hR (.ptr _ _ _ hb hf)
   ·cases he
  ·cases he
 ·cases he

theorem decN_rows {m : Mp} {h : THp} {T : Ty} : ∀ (k : Nat) (cs : List TV) (l : List T.den) (vs : List Value), tindexArr.decN h T k cs = some l → (∀ v ∈ cs, Calm h.os v) → RP m h.os cs vs → l.length = k ∧ k * T.size ≤ vs.length ∧ Rows (DC m.G T) T.size vs l := by
 intro k
 induction k with
 | zero => intro cs l vs hd hc hr; cases hd; exact ⟨rfl, by simp, .nil⟩
 | succ k ih =>
  intro cs l vs hd hc hr
  simp only [tindexArr.decN] at hd
  split at hd
  ·rename_i x r hx
   split at hd
   ·rename_i l' hl'
    cases hd
    have hRL : RL m h.os cs (vs.take cs.length) := by
     have := hr.take cs.length
     rw [List.take_length] at this
     exact .of_rp this (by have := hr.1; simp; omega)
    obtain ⟨v1, v2, e1, e2, e3, c1, rfl⟩ := decC_calm _ _ _ _ _ hx hc hRL
    have hl1 := e2.length
    have hc1 : c1.length = v1.length := by
     have a := congrArg List.length e1
     have b := e3.1
     simp at a b
     have := hr.1; simp at this; omega
    have hvs : vs.take v1.length = v1 := by
     have := congrArg (List.take v1.length) e1
     rw [List.take_take, List.take_append_of_le_length (Nat.le_refl _), List.take_of_length_le (Nat.le_refl _)] at this
     rwa [Nat.min_eq_left (by simp; omega)] at this
    have hdrop : RP m h.os r (vs.drop v1.length) := by
     have := hr.drop c1.length
     rw [List.drop_left] at this
     rwa [hc1] at this
    obtain ⟨g1, g2, g3⟩ := ih r l' _ hl' (fun v hv => hc v (List.mem_append_right _ hv)) hdrop
    have hlen : v1.length ≤ vs.length := by have := congrArg List.length hvs; simp at this; omega
    refine ⟨by simp [g1], by rw [Nat.add_mul, Nat.one_mul]; simp at g2; omega, fun i hi => ?_⟩
    cases i with
    | zero =>
     refine ⟨by omega, ?_⟩
     simp only [Nat.zero_mul, List.drop_zero, List.getElem_cons_zero]
     rw [← hl1, hvs]; exact e2
    | succ i =>
     obtain ⟨f1, f2⟩ := g3 i (by simpa using hi)
     rw [List.length_drop] at f1
     have e6 : (i + 1) * T.size = T.size + i * T.size := by rw [Nat.add_mul, Nat.one_mul, Nat.add_comm]
     refine ⟨by omega, ?_⟩
     rw [List.drop_drop, hl1] at f2
     rw [e6]
     exact f2
   ·cases hd
  ·cases hd
theorem ownIds_calm {os : List TObj} {cs : List TV} (h : ownIds cs = []) : ∀ v ∈ cs, Calm os v := calm_of cs (by rw [h]; intro id hid; cases hid)
theorem tindexArr_sound {m : Mp} {h : THp} {H : AH} (hR : HR m h.os H) {t : Nat} {x i : TV} {x' i' : Value} {ci : Option Int} (hx : RV m h.os x x') (hi : RV m h.os i i') (hci : ∀ n, ci = some n → ∃ k, i' = .int k n) {c : List Bool} {v : TV} {h' : THp}
  (he : tindexArr P t x ci i h = some (c, v, h')) (hc : cOK c) : h' = h ∧ ∃ v', aindexAddr P t x' i' = some v' ∧ RV m h.os v v' := by
 unfold tindexArr at he
 split at he
 ·rename_i k e kk n hu
  cases hi with
  | int _ _ =>
  split at he
  ·rename_i T hT
   obtain ⟨hs, ha, hz⟩ := elemTy_some hT
   split at he
   ·rename_i id off cc
    split at he
    ·rename_i hlt
     cases he
     obtain ⟨k', hk'⟩ := hci _ rfl
     cases hk'
     cases hx with
     | ptr _ _ b hb hf =>
     refine ⟨rfl, .pointer (some ⟨b, off + cc * T.size, none⟩), ?_, .ptr _ _ _ hb hf⟩
     simp only [aindexAddr, hu, hs]
     rw [if_pos ⟨Int.natCast_nonneg cc, by simpa using hlt⟩]
     simp
    ·cases he
   ·rename_i cs cc
    split at he
    ·rename_i hlt
     obtain ⟨hlt, hle⟩ := hlt
     cases he
     obtain ⟨k', hk'⟩ := hci _ rfl
     cases hk'
     cases hx with
     | dptrM _ s arr y hl hh =>
      refine ⟨rfl, DPTR (arr.toList.drop (cc * T.size)).toArray, ?_, .dptrM _ _ _ _ (by simp; omega) fun i a b => ?_⟩
      ·simp only [aindexAddr, hu, hs]
       rw [if_pos ⟨Int.natCast_nonneg cc, by simpa using hlt, by simp; omega⟩]
       simp
      ·have := hh (cc * T.size + i) (by simp at a; omega) (by simp at b; omega)
       simpa using this
     | dptrP _ b off c hG hl hh =>
      refine ⟨rfl, .pointer (some ⟨b, off + cc * T.size, none⟩), ?_, .dptrP _ b _ c hG (by simp; omega) fun i a b => ?_⟩
      ·simp only [aindexAddr, hu, hs]
       rw [if_pos ⟨Int.natCast_nonneg cc, by simpa using hlt⟩]
       simp
      ·have := hh (cc * T.size + i) (by simp at a; omega) (by omega)
       simpa [Nat.add_assoc] using this
    ·cases he
   ·rename_i cs
    split at he
    ·rename_i hcalm
     split at he
     ·rename_i l hl
      cases he
      obtain ⟨c1, c2⟩ := ix_true hc.head
      have calm := ownIds_calm (os := h.os) hcalm
      have hlt : n.toNat < k := by omega
      cases hx with
      | dptrM _ s arr y hal hh =>
       obtain ⟨g1, g2, g3⟩ := decN_rows (m := m) _ _ _ arr.toList hl calm ⟨by simpa using hal, fun i a b => by simpa using hh i a (by simpa using b)⟩
       obtain ⟨p1, p2⟩ := g3.at (m := m) (os := h.os) rfl (show n.toNat < l.length by omega)
       refine ⟨rfl, DPTR (arr.toList.drop (n.toNat * T.size)).toArray, ?_, .dptrM _ _ _ _ (by have := p1.1; simpa using this) fun i a b => ?_⟩
       ·simp only [aindexAddr, hu, hs]
        rw [if_pos ⟨c1, c2, by simpa using p2⟩]
       ·have := p1.2 i a (by simpa using b)
        simpa using this
      | dptrP _ b off c hG hal hh =>
       obtain ⟨g1, g2, g3⟩ := decN_rows (m := m) _ _ _ (c.drop off) hl calm ⟨by simp; omega, fun i a b => by simp only [List.getElem_drop]; exact hh i a _⟩
       obtain ⟨p1, p2⟩ := g3.at (m := m) (os := h.os) rfl (show n.toNat < l.length by omega)
       refine ⟨rfl, .pointer (some ⟨b, off + n.toNat * T.size, none⟩), ?_, .dptrP _ b _ c hG (by have := p1.1; rw [List.length_drop, List.length_drop, cellsT_length] at this; rw [List.length_drop] at p2; rw [cellsT_length]; omega) fun i a b => ?_⟩
       ·simp only [aindexAddr, hu, hs]
        rw [if_pos ⟨c1, c2⟩]
       ·have := p1.2 i a (by simp; omega)
        simpa [Nat.add_assoc] using this
     ·cases he
    ·cases he
   ·cases he
  ·cases he
 ·cases he

def resOf : Option ANx → Option (Value × AH)
 | some (.val v H) => some (v, H)
 | some (.skip H) => some (undef, H)
 | _ => none
theorem resOf_aval {v : Option Value} {H : AH} : resOf (aval v H) = v.map fun v => (v, H) := by cases v <;> rfl
theorem resOf_avalH {r : Option (Value × AH)} : resOf (avalH r) = r := by cases r <;> rfl
def NxOK (m : Mp) (h : THp) (H : AH) (a : Option ANx) : TN → Prop
 | .val c v h' => cOK c → OpOK m h H (resOf a) v h'
 | .call f args => ∃ args', a = some (.call f args') ∧ RL m h.os args args'
 | .yld id args => ∃ b args', a = some (.yld b args') ∧ m.ρ id = some b ∧ RL m h.os args args'
theorem NxOK.res {m : Mp} {h : THp} {H : AH} {a : Option ANx} {r : Res} {nx : TN} (hr : ofRes r = some nx) (k : ∀ c v h', r = some (c, v, h') → cOK c → OpOK m h H (resOf a) v h') : NxOK m h H a nx := by
 cases r with
 | none => cases hr
 | some q => obtain ⟨c, v, h'⟩ := q; cases hr; exact k c v h' rfl
theorem NxOK.ofV {m : Mp} {h : THp} {H : AH} {a : Option ANx} {r : Option TV} {nx : TN} (hr : TM.ofV h r = some nx) (k : ∀ v, r = some v → OpOK m h H (resOf a) v h) : NxOK m h H a nx := by
 cases r with
 | none => cases hr
 | some q => cases hr; exact fun _ => k q rfl
theorem OpOK.q {m : Mp} {h : THp} {H : AH} (hR : HR m h.os H) {v : TV} {r : Option Value} (hv : ∃ v', r = some v' ∧ RV m h.os v v') : OpOK m h H (r.map fun v => (v, H)) v h := by
 obtain ⟨v', rfl, h2⟩ := hv
 exact .quiet hR h2
theorem OpOK.q2 {m : Mp} {h h' : THp} {H : AH} (hR : HR m h.os H) {v : TV} {r : Option Value} (hv : h' = h ∧ ∃ v', r = some v' ∧ RV m h.os v v') : OpOK m h H (r.map fun v => (v, H)) v h' := by
 obtain ⟨rfl, h2⟩ := hv
 exact .q hR h2
theorem mapO_or {m : Mp} {os : List TObj} {ρT : Operand → TV} {ρA : Operand → Value} (hρ : ∀ x, RV m os (ρT x) (ρA x)) (x : Option Operand) : OR m os (mapO ρT x) (x.map ρA) := by
 cases x with
 | none => trivial
 | some o => exact hρ o
theorem RL.ofMap {m : Mp} {os : List TObj} {ρT : Operand → TV} {ρA : Operand → Value} (hρ : ∀ x, RV m os (ρT x) (ρA x)) (l : List Operand) : RL m os (l.map ρT) (l.map ρA) := RL.map l ρT ρA fun x _ => hρ x
theorem newSelf_sound {m : Mp} {h : THp} {H : AH} (hR : HR m h.os H) {e eb : TypeId} {z : Value} (hz : z.cells.toList = [.pointer none, .slice none 0 0]) {c : List Bool} {u : TV} {h' : THp} (he : newSelf e eb h = some (c, u, h')) :
  OpOK m h H (some (AM.newVar e z H)) u h' := by
 cases he
 obtain ⟨p1, p2, p3⟩ := push_nil hR (.int .u8) true eb
 have hlen : (h.push (.row true (.int .u8) [] eb)).os.length = h.os.length + 1 := by simp [THp.push]
 have hm := mapLe_push p1 (.box [true, true] [.nilOr (h.os.length + 1) true, .buf h.os.length] e) (some H.next)
 have ho : ObjR (updM (updM m h.os.length none) (h.push (.row true (.int .u8) [] eb)).os.length (some H.next)) ((h.push (.row true (.int .u8) [] eb)).os ++ [.box [true, true] [.nilOr (h.os.length + 1) true, .buf h.os.length] e]) (H.push (.cells z.cells.toList true 0 e))
   (h.push (.row true (.int .u8) [] eb)).os.length (.box [true, true] [.nilOr (h.os.length + 1) true, .buf h.os.length] e) := by
  refine ⟨H.next, z.cells.toList, updM_self _ _ _, by rw [AH.get_push, if_pos rfl], rfl, ?_⟩
  rw [hz]
  refine .cons (.nilOr _ _ _ (.inl ⟨rfl, rfl⟩) ?_) (.cons ?_ .nil)
  ·unfold isFix
   rw [← hlen]
   simp only [List.getElem?_concat_length]
  ·refine .buf _ _ ?_
   unfold BufR
   rw [List.getElem?_append_left (by rw [hlen]; omega)]
   simp only [THp.push, List.getElem?_concat_length]
   refine .inl ⟨?_, trivial, trivial⟩
   rw [updM_ne _ _ (by simp)]
   exact updM_self _ _ _
 obtain ⟨k1, k2⟩ := push_new p1 _ _ ho
 refine ⟨_, _, _, rfl, k1, p2.trans hR k2, ?_⟩
 have hf : isFix ((h.push (.row true (.int .u8) [] eb)).push (.box [true, true] [.nilOr (h.os.length + 1) true, .buf h.os.length] e)).os (h.os.length + 1) := by
  unfold isFix
  rw [← hlen]
  simp only [THp.push, List.getElem?_concat_length]
 exact .ptr _ _ _ (by rw [← hlen]; exact updM_self _ _ _) hf
theorem selfTy_cells {e eb : TypeId} {z : Value} (h : selfTy P e z = some eb) : z.cells.toList = [.pointer none, .slice none 0 0] := by
 unfold selfTy at h
 split at h
 ·assumption
 ·cases h
theorem bytes_take {G : Nat → Option (List Value)} {c : List Value} {l : List Int} (h : Rows (DC G (.int .u8)) 1 c l) (hl : l.length ≤ c.length) (hb : isb l = true) : (c.take l.length).mapM byteOf? = some (bstr l) := by
 have h2 : Rows (DC G (.int .u8)) 1 (c.take l.length) l := fun i hi => by
  obtain ⟨h1, h3⟩ := h i hi
  refine ⟨by simp; omega, ?_⟩
  have e : ((c.take l.length).drop (i * 1)).take 1 = (c.drop (i * 1)).take 1 := by
   rw [List.drop_take, List.take_take, Nat.min_eq_left (by omega)]
  rw [e]; exact h3
 have h3 := rows_u8 h2 (by simp; omega)
 rw [h3]
 exact isb_bytes l hb
theorem tunsafeString_sound {m : Mp} {h : THp} {H : AH} (hR : HR m h.os H) {ts : List TypeId} {args : List TV} {args' : List Value} (ha : RL m h.os args args') {c : List Bool} {v : TV} {h' : THp} (he : tbuiltin P .unsafeString ts args h = some (c, v, h')) (hc : cOK c) :
  OpOK m h H (aunsafeString P ts args' H) v h' := by
 simp only [tbuiltin] at he
 split at he
 ·rename_i pt q id n
  split at he
  ·rename_i l tid e hat hu
   split at he
   ·rename_i hh
    cases he
    obtain ⟨rfl, hs⟩ := hh
    obtain ⟨a', r1, rfl, g1, g2⟩ := ha.cons_inv
    obtain ⟨b', r2, rfl, g3, g4⟩ := g2.cons_inv
    have g5 := g4.nil_inv
    subst g5
    cases g3
    have ho := at_some hat (by simp)
    cases g1 with
    | sdat _ _ hx =>
    unfold SdR at hx
    rw [ho] at hx
    have c1 := eq_true' hc.head
    have c2 := hc.tail.head
    have c3 := fits_true hc.tail.tail.head
    simp only [ni, len] at c1 c3
    rcases hx with ⟨hn, rfl, rfl⟩ | ⟨b, hb, hl0, rfl⟩
    ·have hn0 : n = 0 := by simpa using c1
     subst hn0
     obtain ⟨k1, k2⟩ := kill_ext (H' := H) hR ho rfl fun _ _ => rfl
     exact ⟨_, _, H, rfl, k1, k2, .str _⟩
    ·rcases hR.obj id _ ho with ⟨e1, -⟩ | ⟨b', cc, e1, e2, e3, e4⟩
     ·rw [hb] at e1; cases e1
     rw [hb] at e1; cases e1
     have hlen : l.length ≤ cc.length := by simpa [Ty.size] using e3
     have hpos : 0 < l.length := by cases l with | nil => exact absurd rfl hl0 | cons _ _ => simp
     have e5 : aunsafeString P [pt, q] [.pointer (some ⟨b, 0, none⟩), .int .i64 n] H = some (.string ⟨(bstr l).toArray⟩, H.set b .dead) := by
      have hnl : n.toNat = l.length := by omega
      have e2' : H.get b = .cells cc true 1 tid := e2
      simp only [aunsafeString, e2', hu]
      rw [if_pos ⟨by omega, by omega, by omega, trivial, hs⟩, hnl, bytes_take e4 hlen c2]
      rfl
     rw [e5]
     obtain ⟨k1, k2⟩ := kill_ext (H' := H.set b .dead) hR ho rfl fun d hd => by
      rw [AH.get_set, if_neg fun q => hd (by rw [← q]; exact hb)]
     exact ⟨_, _, _, rfl, k1, k2, .str _⟩
   ·cases he
  ·cases he
 ·cases he
variable [EqV]
theorem top_sound {m : Mp} {h : THp} {H : AH} (hR : HR m h.os H) {o : Op} {ty : TypeId} {ρT : Operand → TV} {ρA : Operand → Value} (hρ : ∀ x, RV m h.os (ρT x) (ρA x)) (hconst : ∀ v, ρA (.const v) = v) {nx : TN} (he : top P o ρT h = some nx) : NxOK m h H (aop P o ty ρA H) nx := by
 cases o with
 | move x => cases he; exact fun _ => .quiet hR (hρ x)
 | assign x => cases he; exact fun _ => .quiet hR (hρ x)
 | pick c a b => cases he
 | alloc e =>
  simp only [top] at he
  split at he
  ·rename_i z hz
   split at he
   ·rename_i eb hself
    refine NxOK.res he fun c v h' hb _ => ?_
    have := newSelf_sound hR (selfTy_cells hself) hb
    simpa only [aop, hz, resOf] using this
   ·refine NxOK.res he fun c v h' hb _ => ?_
    have := newBox_sound hR (tvV_rv (m := m) (os := h.os) z) hb
    simpa only [aop, hz, resOf] using this
  ·cases he
 | box e x => exact NxOK.res he fun c v h' hb _ => newBox_sound hR (hρ x) hb
 | build t parts =>
  refine NxOK.ofV he fun v hv => ?_
  simp only [aop, resOf_aval]
  exact .q hR (tbuild_sound (by simp) (by rw [List.map_map, List.map_map]; exact RL.map _ _ _ fun p _ => hρ p.2) hv)
 | buildSlice t len parts =>
  refine NxOK.res he fun c v h' hb _ => ?_
  simp only [aop, resOf_avalH]
  exact tbuildSlice_sound hR (by simp) (by rw [List.map_map, List.map_map]; exact RL.map _ _ _ fun p _ => hρ p.2) hb
 | load t a =>
  refine NxOK.res he fun c v h' hb _ => ?_
  simp only [aop, resOf_aval]
  exact .q2 hR (tload_sound hR (hρ a) hb).2
 | store t a v =>
  simp only [top] at he
  split at he
  ·rename_i ks h' hs
   cases he
   intro hks
   obtain ⟨m', H', e1, e2, e3⟩ := tstore_sound hR (hρ a) (hρ v) hs hks
   exact ⟨m', undef, H', by simp only [aop, e1, Option.map_some, resOf], e2, e3, .junk _⟩
  ·cases he
 | nilCheck x =>
  simp only [top] at he
  have hx := hρ x
  split at he
  ·rename_i id off hh
   cases he
   rw [hh] at hx
   intro _
   cases hx' : ρA x with
   | pointer p => rw [hx'] at hx; cases hx; simp only [aop, hx', resOf]; exact .quiet hR (.ptr _ _ _ ‹_› ‹_›)
   | _ => rw [hx'] at hx; cases hx
  ·cases he
  ·rename_i cs hh
   cases he
   rw [hh] at hx
   intro _
   cases hx' : ρA x with
   | func f a b => rw [hx'] at hx; cases hx; simp only [aop, hx', resOf]; exact .quiet hR (.dptrM _ _ _ _ ‹_› ‹_›)
   | pointer p => rw [hx'] at hx; cases hx; simp only [aop, hx', resOf]; exact .quiet hR (.dptrP _ _ _ _ ‹_› ‹_› ‹_›)
   | _ => rw [hx'] at hx; cases hx
  ·rename_i f a b hh
   cases he
   rw [hh] at hx
   intro _
   cases hx' : ρA x with
   | func f a b => rw [hx'] at hx; cases hx; simp only [aop, hx', resOf]; exact .quiet hR (.func _ _ _ _ _ ‹_› ‹_› ‹_› ‹_›)
   | _ => rw [hx'] at hx; cases hx
  ·cases he
 | binOp op t x y yt =>
  refine NxOK.res he fun c v h' hb hc => ?_
  simp only [aop, resOf_aval]
  exact .q2 hR (tbin_sound (hρ x) (hρ y) hb hc)
 | unOp op t x =>
  refine NxOK.res he fun c v h' hb hc => ?_
  obtain ⟨e1, e2, e3⟩ := tun_sound (P := P) (hρ x) hb
  simp only [aop, e2, if_true, resOf_aval]
  exact .q2 hR ⟨e1, e3⟩
 | convert s d x =>
  refine NxOK.res he fun c v h' hb hc => ?_
  simp only [aop, resOf_avalH]
  exact tconvert_sound hR (hρ x) hb hc
 | makeFunc fn first cap =>
  cases fn with
  | func f =>
   cases he
   intro _
   simp only [aop, resOf]
   refine .quiet hR (.func _ _ _ _ _ (by simp) (by simp) (fun i a b => ?_) fun i a b => ?_)
   ·simpa using hρ _
   ·simpa using hρ _
  | _ => cases he
 | makeSlice t l c =>
  refine NxOK.res he fun cc v h' hb hc => ?_
  simp only [aop, resOf_avalH]
  exact tmakeSlice_sound hR (hρ l) (hρ c) hb hc
 | slice t x lo hi mx =>
  refine NxOK.res he fun cc v h' hb hc => ?_
  simp only [aop, resOf_aval]
  exact .q2 hR (tslice_sound hR (hρ x) (mapO_or hρ lo) (mapO_or hρ hi) (mapO_or hρ mx) hb hc)
 | fieldAddr s x f =>
  refine NxOK.ofV he fun v hv => ?_
  simp only [aop, resOf_aval]
  exact .q hR (tfieldAddr_sound hR (hρ x) hv)
 | field t x f =>
  refine NxOK.ofV he fun v hv => ?_
  simp only [aop, resOf_aval]
  exact .q hR (tfield_sound (hρ x) hv)
 | indexAddr t x i =>
  simp only [top] at he
  split at he
  ·refine NxOK.res he fun cc v h' hb hc => ?_
   simp only [aop, resOf_aval]
   refine .q2 hR (tindexArr_sound hR (hρ x) (hρ i) (fun n hn => ?_) hb hc)
   cases i with
   | const w =>
    cases w with
    | int k q => cases hn; exact ⟨k, hconst _⟩
    | _ => cases hn
   | _ => cases hn
  ·refine NxOK.res he fun cc v h' hb hc => ?_
   simp only [aop, resOf_aval]
   exact .q2 hR (tindexAddr_sound hR (hρ x) (hρ i) hb hc)
 | index t x i =>
  refine NxOK.res he fun cc v h' hb hc => ?_
  simp only [aop, resOf_aval]
  exact .q2 hR (tindex_sound (hρ x) (hρ i) hb hc)
 | range t x =>
  simp only [top] at he
  split at he
  ·rename_i s hu hs
   cases he
   have hx := hρ x
   rw [hs] at hx
   intro _
   cases hx' : ρA x with
   | string b =>
    rw [hx'] at hx
    cases hx
    simp only [aop, resOf_avalH, arange, hu, hx']
    obtain ⟨k1, k2⟩ := push_new hR (.iter true s 0) (.iter ⟨s.toArray⟩ 0) ⟨H.next, updM_self _ _ _, by rw [AH.get_push, if_pos rfl]⟩
    refine ⟨_, _, _, rfl, k1, k2, .ptr _ _ _ (updM_self _ _ _) ?_⟩
    unfold isFix
    simp only [THp.push, List.getElem?_concat_length]
   | _ => rw [hx'] at hx; cases hx
  ·cases he
 | extract x i =>
  simp only [top] at he
  split at he
  ·rename_i vs hvs
   have hx := hρ x
   rw [hvs] at hx
   refine NxOK.ofV he fun v hv => ?_
   cases hx' : ρA x with
   | tuple arr =>
    rw [hx'] at hx
    cases hx with
    | tup _ _ hl hh =>
    simp only [aop, hx', resOf_aval]
    obtain ⟨v', e1, e2⟩ := (RL.ofArr hl hh).rp.get? hv
    exact .q hR ⟨v', by simpa using e1, e2⟩
   | _ => rw [hx'] at hx; cases hx
  ·cases he
 | call c =>
  obtain ⟨callee, args, argTypes⟩ := c
  cases callee with
  | value f =>
   simp only [top] at he
   have hf := hρ f
   split at he
   ·rename_i k first cap hk
    cases he
    rw [hk] at hf
    cases hf' : ρA f with
    | func fn a b =>
     rw [hf'] at hf
     cases hf with
     | func _ _ _ _ _ hx hy h1 h2 =>
     exact ⟨_, by simp only [aop, acallV, hf'], ((RL.ofArr hx h1).append (RL.ofMap hρ args.toList)).append (RL.ofArr hy h2)⟩
    | _ => rw [hf'] at hf; cases hf
   ·rename_i id hk
    split at he
    ·rename_i hat
     cases he
     rw [hk] at hf
     cases hf with
     | yld _ _ hy =>
     unfold YldR at hy
     rw [at_some hat (by simp)] at hy
     obtain ⟨b', hb, hv⟩ := hy
     exact ⟨b', args.toList.map ρA, by simp only [aop, acallV, hv]; rfl, hb, RL.ofMap hρ args.toList⟩
    ·cases he
   ·cases he
  | invoke r s => cases he
  | builtin b =>
   simp only [top] at he
   refine NxOK.res he fun cc v h' hb hc => ?_
   have ha := RL.ofMap hρ args.toList
   simp only [aop]
   cases b <;> simp only [tbuiltin] at hb <;> (try cases hb)
   case append =>
    simp only [abuiltin, resOf_avalH]
    exact tappend_sound hR ha hb hc
   case cap =>
    split at hb
    ·rename_i t ts as hts harg
     split at hb
     ·rename_i e hu
      cases hb
      rw [harg] at ha
      obtain ⟨a', r', e1, e2, -⟩ := ha.cons_inv
      cases e2
      rw [e1, hts]
      simp only [abuiltin, abuiltinX, resOf_avalH, hu]
      exact .quiet hR (.int _ _)
     ·cases hb
    ·cases hb
   case unsafeString =>
    simp only [abuiltin, abuiltinX, resOf_avalH]
    exact tunsafeString_sound hR ha (by simp only [tbuiltin]; exact hb) hc
   case unsafeSliceData =>
    split at hb
    ·rename_i id harg
     split at hb
     ·rename_i w l tid hat
      cases hb
      rw [harg] at ha
      obtain ⟨a', r', e1, e2, e3⟩ := ha.cons_inv
      have e7 := e3.nil_inv
      subst e7
      rw [e1]
      have ho := at_some hat (by simp)
      cases e2 with
      | buf _ _ hx =>
      unfold BufR at hx
      rw [ho] at hx
      have rsd : ∀ v, SdR m h.os id v → RV m h.os (.sdat id) v := fun v hv => .sdat id v hv
      unfold SdR at rsd
      rw [ho] at rsd
      simp only [abuiltin, abuiltinX, resOf_avalH]
      rcases hx with ⟨hn, rfl, rfl⟩ | ⟨b, hb, hl0, rfl⟩
      ·exact .quiet hR (rsd _ (.inl ⟨hn, rfl, rfl⟩))
      ·obtain ⟨k, hk⟩ : ∃ k, l.length = k + 1 := ⟨l.length - 1, by cases l with | nil => exact absurd rfl hl0 | cons _ _ => simp⟩
       rw [hk]
       exact .quiet hR (rsd _ (.inr ⟨b, hb, hl0, rfl⟩))
     ·cases hb
    ·cases hb
   case len =>
    simp only [abuiltin, resOf_aval]
    exact .q2 hR (tlen_sound hR ha hb)
   case min =>
    split at hb
    ·rename_i k m1 k' n1 harg
     split at hb
     ·rename_i ek; subst ek
      cases hb
      rw [harg] at ha
      obtain ⟨a', r', e1, e2, e3⟩ := ha.cons_inv
      obtain ⟨b', r2, e4, e5, e6⟩ := e3.cons_inv
      have e7 := e6.nil_inv
      subst e7; subst e4
      cases e2; cases e5
      rw [e1]
      simp only [abuiltin, List.all_cons, flat1, List.all_nil, Bool.and_true, if_true, resOf_aval]
      rw [min_sound]
      exact .quiet hR (.int _ _)
     ·cases hb
    ·cases hb
   case max =>
    split at hb
    ·rename_i k m1 k' n1 harg
     split at hb
     ·rename_i ek; subst ek
      cases hb
      rw [harg] at ha
      obtain ⟨a', r', e1, e2, e3⟩ := ha.cons_inv
      obtain ⟨b', r2, e4, e5, e6⟩ := e3.cons_inv
      have e7 := e6.nil_inv
      subst e7; subst e4
      cases e2; cases e5
      rw [e1]
      simp only [abuiltin, List.all_cons, flat1, List.all_nil, Bool.and_true, if_true, resOf_aval]
      rw [max_sound]
      exact .quiet hR (.int _ _)
     ·cases hb
    ·cases hb
 | _ => cases he
end Go.TM
