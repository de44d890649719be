/- Regions. -/

import Derived.Test.YtgpligmjbecbjaaDoorTmEff4
set_option linter.unusedVariables false
set_option linter.unusedSimpArgs false
set_option linter.unusedSectionVars false
namespace Go.TM
open Go Go.AM
variable {P : Program} [EqV]

def Step (m : Mp) (h : THp) (H : AH) (res : Option (Value × AH)) (K : TV → THp → Prop) : Prop :=
 ∃ m' tv h' v' H', K tv h' ∧ res = some (v', H') ∧ HR m' h'.os H' ∧ Ext m h H m' h' H' ∧ RV m' h'.os tv v'
structure OcOK (P : Program) (cf : Oc) (cfA : Oracle) : Prop where
 fn : ∀ (R : Type) ctx f args h (k : TV → THp → Option R) r, cf R ctx (.fn f) args h k = some r → ∀ m H vals, HR m h.os H → RL m h.os args vals → Step m h H (cfA (.fn f) vals H) fun tv h' => k tv h' = some r
 yld : ∀ (R : Type) ctx id args h (k : TV → THp → Option R) r, cf R ctx (.yld id) args h k = some r → ∀ m H vals b, HR m h.os H → RL m h.os args vals → m.ρ id = some b → Step m h H (cfA (.yld b) vals H) fun tv h' => k tv h' = some r
def GlOK (gl : Nat → Option (List TV)) : Prop := ∀ g cs, gl g = some cs → ∃ arr, EqV.glob g = some arr ∧ cs = arr.toList.map tvV1

theorem ev_rv {gl : Nat → Option (List TV)} (hgl : GlOK gl) {m : Mp} {os : List TObj} {env : List TV} {a : Env} (he : RL m os env a) (x : Operand) : RV m os (ev1 gl env x) (evA a x) := by
 cases x with
 | tmp t => exact he.getD t
 | const v => exact tvV_rv v
 | global g =>
  simp only [ev1, evA]
  split
  ·rename_i cs hcs
   obtain ⟨arr, e1, rfl⟩ := hgl g cs hcs
   rw [e1]
   exact .dptrM _ _ _ _ (by simp) fun i a b => by simpa using tvV1_rv arr[i]
  ·exact .junk _
 | func f => exact .func f [] [] #[] #[] rfl rfl (fun i a => by simp at a) fun i a => by simp at a

theorem brs_some {R : Type} {c : List Bool} {x : Option R} {r : R} (h : brs c x = some r) : cOK c ∧ x = some r := by
 induction c with
 | nil => exact ⟨.nil, h⟩
 | cons b t ih =>
  simp only [brs, br] at h
  cases b with
  | false => cases h
  | true => obtain ⟨h1, h2⟩ := ih h; exact ⟨fun x hx => (List.mem_cons.1 hx).elim (fun e => e) (h1 x), h2⟩
theorem brB_some {R : Type} {c : SB} {x y : Option R} {r : R} (h : brB c x y = some r) : (c.get = true ∧ x = some r) ∨ (c.get = false ∧ y = some r) := by
 cases c with
 | t => exact .inl ⟨rfl, h⟩
 | f => exact .inr ⟨rfl, h⟩
 | v b => cases b with
  | true => exact .inl ⟨rfl, h⟩
  | false => exact .inr ⟨rfl, h⟩
theorem doOp_res {cfA : Oracle} {o : Oper} {a : Env} {H : AH} {v : Value} {H' : AH} (h : resOf (aop P o.op o.type (evA a) H) = some (v, H')) : doOp P cfA o a H = some (v, H') := by
 unfold doOp
 cases hq : aop P o.op o.type (evA a) H with
 | none => rw [hq] at h; cases h
 | some q => rw [hq] at h; cases q <;> first | exact h | cases h
theorem tmOp_sound {gl : Nat → Option (List TV)} (hgl : GlOK gl) {cf : Oc} {cfA : Oracle} (hcf : OcOK P cf cfA) {R : Type} {ctx : List Nat} {o : Oper} {env : List TV} {h : THp} {k : TV → THp → Option R} {r : R} (he : tmOp P gl cf ctx o env h k = some r)
  {m : Mp} {a : Env} {H : AH} (hR : HR m h.os H) (ha : RL m h.os env a) : Step m h H (doOp P cfA o a H) fun tv h' => k tv h' = some r := by
 have hρ := ev_rv hgl ha
 unfold tmOp at he
 split at he
 ·rename_i c x y hop
  split at he
  ·rename_i cb hc
   have hcv := hρ c
   rw [hc] at hcv
   have hcv' : evA a c = .bool cb.get := by cases hcv' : evA a c <;> rw [hcv'] at hcv <;> cases hcv; rfl
   have e : ∀ (v : Value), (if cb.get then evA a x else evA a y) = v → doOp P cfA o a H = some (v, H) := fun v hv => by
    refine doOp_res ?_
    simp only [hop, aop, hcv']
    cases hb : cb.get <;> rw [hb] at hv <;> simp only [resOf] <;> simp at hv <;> rw [hv]
   rcases brB_some he with ⟨h1, h2⟩ | ⟨h1, h2⟩
   ·exact ⟨m, _, h, evA a x, H, h2, e _ (by rw [h1]; rfl), hR, .refl hR, hρ x⟩
   ·exact ⟨m, _, h, evA a y, H, h2, e _ (by rw [h1]; rfl), hR, .refl hR, hρ y⟩
  ·cases he
 ·rename_i x hop
  split at he
  ·rename_i id hx
   have hxv := hρ x
   rw [hx] at hxv
   split at he
   ·rename_i s pos hat
    have ho := at_some hat (by simp)
    obtain ⟨b, hb, hg⟩ := hR.obj id _ ho
    have hxv' : evA a x = .pointer (some ⟨b, 0, none⟩) := by
     cases hq : evA a x <;> rw [hq] at hxv <;> cases hxv
     rename_i b' hb' hf'
     rw [hb] at hb'; cases hb'; rfl
    have hsz : (⟨s.toArray⟩ : ByteArray).size = s.length := by simp [ByteArray.size]
    simp only [br] at he
    cases hlt : nlt pos (len s) with
    | true =>
     rw [hlt] at he
     have hp : pos < s.length := of_decide_eq_true hlt
     obtain ⟨k1, k2⟩ := set_ext (ob := .iter ⟨s.toArray⟩ (pos + (Utf8.decode ⟨s.toArray⟩ pos).2)) (o' := .iter true s (nadd pos (runw s pos))) hR hb ho ⟨_, rfl, fun h => by cases h⟩ (fun _ _ e => by cases e) rfl (fun _ => ⟨b, hb, by rw [AH.get_set, if_pos rfl]⟩)
     refine ⟨m, _, _, .tuple #[.bool true, goInt pos, .int .i32 (Utf8.decode ⟨s.toArray⟩ pos).1], _, he, doOp_res ?_, k1, k2, ?_⟩
     ·simp only [hop, aop, resOf_avalH, hxv', anext, hg]
      rw [if_pos (by rw [hsz]; exact hp)]
     ·refine .tup _ _ rfl fun i p q => ?_
      match i with
      | 0 => exact .bool .t
      | 1 => exact .int _ _
      | 2 => exact .int _ _
      | i + 3 => simp at p; omega
    | false =>
     rw [hlt] at he
     have hp : ¬ pos < s.length := of_decide_eq_false hlt
     refine ⟨m, _, h, .tuple #[.bool false], H, he, doOp_res ?_, hR, .refl hR, ?_⟩
     ·simp only [hop, aop, resOf_avalH, hxv', anext, hg]
      rw [if_neg (by rw [hsz]; exact hp)]
     ·refine .tup _ _ rfl fun i p q => ?_
      match i with
      | 0 => exact .bool .f
      | i + 1 => simp at p
   ·cases he
  ·cases he
 ·split at he
  ·rename_i c v h' ht
   obtain ⟨hc, hk⟩ := brs_some he
   have := top_sound (ty := o.type) hR hρ (fun _ => rfl) ht hc
   obtain ⟨m', v', H', q1, q2, q3, q4⟩ := this
   exact ⟨m', v, h', v', H', hk, doOp_res q1, q2, q3, q4⟩
  ·rename_i f args ht
   obtain ⟨args', e1, e2⟩ := top_sound (ty := o.type) hR hρ (fun _ => rfl) ht
   have := hcf.fn R ctx f args h k r he m H args' hR e2
   unfold doOp
   rw [e1]
   exact this
  ·rename_i id args ht
   obtain ⟨b, args', e1, e2, e3⟩ := top_sound (ty := o.type) hR hρ (fun _ => rfl) ht
   have := hcf.yld R ctx id args h k r he m H args' b hR e3 e2
   unfold doOp
   rw [e1]
   exact this
  ·cases he

theorem loadOk_sound {t : Nat} {m : Mp} {h : THp} {v : TV} {v' : Value} (hv : RV m h.os v v') (ho : loadOk P t v h = true) : isAgg? P t = some (isAggV v') := by
 unfold loadOk at ho
 split at ho
 ·rename_i e
  cases hv with
  | agg _ _ _ _ => exact e
 ·rename_i e
  have := (one_of ho hv).2.1
  rw [e]
  cases v' <;> first | rfl | cases this
 ·cases ho
theorem alloc_cells {o : Op} {ty : TypeId} {ρ : Operand → Value} {H H' : AH} {v : Value} (hk : okind P o = .alloc) (h : resOf (aop P o ty ρ H) = some (v, H')) : (∃ c sz ty, H'.get H.next = .cells c true sz ty ∧ H'.next = H.next + 1) ∧ (v = .pointer (some ⟨H.next, 0, none⟩) ∨ ∃ n z, v = .slice (some ⟨H.next, 0, none⟩) n z) := by
 have push : ∀ (ob : AObj) (c : List Value) own sz ty, ob = .cells c own sz ty → own = true → H' = H.push ob → ∃ c sz ty, H'.get H.next = .cells c true sz ty ∧ H'.next = H.next + 1 := fun ob c own sz ty e1 e0 e2 => ⟨c, sz, ty, by rw [e2, AH.get_push, if_pos rfl, e1, e0], by rw [e2]; rfl⟩
 cases o with
 | alloc e =>
  simp only [aop] at h
  split at h
  ·cases h; exact ⟨push _ _ _ _ _ rfl rfl rfl, .inl rfl⟩
  ·cases h
 | box e x => cases h; exact ⟨push _ _ _ _ _ rfl rfl rfl, .inl rfl⟩
 | buildSlice t len parts =>
  simp only [aop, resOf_avalH, abuildSlice] at h
  split at h
  ·split at h
   ·split at h
    ·obtain ⟨c, hc, e⟩ := Option.map_eq_some_iff.1 h
     cases e; exact ⟨push _ _ _ _ _ rfl rfl rfl, .inr ⟨_, _, rfl⟩⟩
    ·cases h
   ·cases h
  ·cases h
 | makeSlice t l c =>
  simp only [aop, resOf_avalH, amakeSlice] at h
  split at h
  ·split at h
   ·split at h
    ·cases h; exact ⟨push _ _ _ _ _ rfl rfl rfl, .inr ⟨_, _, rfl⟩⟩
    ·cases h
   ·cases h
  ·cases h
 | convert s d x => simp only [okind] at hk; split at hk <;> cases hk
 | call c =>
  simp only [okind] at hk
  split at hk <;> first | (rename_i hh _; cases hh; done) | (rename_i hh; cases hh; done) | (rename_i hh _ _; cases hh; done) | (cases hk; done) | (split at hk <;> cases hk; done) | simp_all
 | _ => cases hk

theorem alloc_res {cfA : Oracle} {o : Oper} {a : Env} {H H' : AH} {v : Value} (hk : okind P o.op = .alloc) (h : doOp P cfA o a H = some (v, H')) : resOf (aop P o.op o.type (evA a) H) = some (v, H') := by
 unfold doOp at h
 cases hq : aop P o.op o.type (evA a) H with
 | none => rw [hq] at h; cases h
 | some q =>
  rw [hq] at h
  cases q with
  | val v1 H1 => exact h
  | skip H1 => exact h
  | call f args =>
   exfalso
   cases ho : o.op with
   | call c => rw [ho] at hk; simp only [okind] at hk; split at hk <;> first | (rename_i hh _; cases hh; done) | (rename_i hh; cases hh; done) | (rename_i hh _ _; cases hh; done) | (cases hk; done) | (split at hk <;> cases hk; done) | simp_all
   | alloc e => rw [ho] at hq; simp only [aop] at hq; split at hq <;> cases hq
   | box e x => rw [ho] at hq; cases hq
   | buildSlice t l p => rw [ho] at hq; simp only [aop, avalH] at hq; obtain ⟨_, _, e⟩ := Option.map_eq_some_iff.1 hq; cases e
   | makeSlice t l p => rw [ho] at hq; simp only [aop, avalH] at hq; obtain ⟨_, _, e⟩ := Option.map_eq_some_iff.1 hq; cases e
   | convert s d x => rw [ho] at hk; simp only [okind] at hk; split at hk <;> cases hk
   | _ => rw [ho] at hk; cases hk
  | yld f args =>
   exfalso
   cases ho : o.op with
   | call c => rw [ho] at hk; simp only [okind] at hk; split at hk <;> first | (rename_i hh _; cases hh; done) | (rename_i hh; cases hh; done) | (rename_i hh _ _; cases hh; done) | (cases hk; done) | (split at hk <;> cases hk; done) | simp_all
   | alloc e => rw [ho] at hq; simp only [aop] at hq; split at hq <;> cases hq
   | box e x => rw [ho] at hq; cases hq
   | buildSlice t l p => rw [ho] at hq; simp only [aop, avalH] at hq; obtain ⟨_, _, e⟩ := Option.map_eq_some_iff.1 hq; cases e
   | makeSlice t l p => rw [ho] at hq; simp only [aop, avalH] at hq; obtain ⟨_, _, e⟩ := Option.map_eq_some_iff.1 hq; cases e
   | convert s d x => rw [ho] at hk; simp only [okind] at hk; split at hk <;> cases hk
   | _ => rw [ho] at hk; cases hk

def Tr (m : Mp) (id b : Nat) : Prop := ∀ i : Key, m.ρ i = some b → i.top = id
theorem Tr.step {m m' : Mp} {h h' : THp} {H H' : AH} (he : Ext m h H m' h' H') {l : List Nat} (hl : h'.dirty = l ++ h.dirty) {id b : Nat} (ht : Tr m id b) (hb : b < H.next) (hid : id ∉ l) : H'.get b = H.get b ∧ Tr m' id b := by
 obtain ⟨l', e, -, d2, d3⟩ := he.dirty
 have : l' = l := List.append_cancel_right (e.symm.trans hl)
 subst this
 refine ⟨?_, fun i hi => ?_⟩
 ·by_cases h1 : ∃ k : Key, m.ρ k = some b
  ·obtain ⟨k, hk⟩ := h1
   exact d2 k b hk (by rw [ht k hk]; exact hid)
  ·exact he.frame b hb fun i hi => h1 ⟨i, hi⟩
 ·rcases d3 i b hi with g | ⟨j, j1, g⟩ | g
  ·exact ht i g
  ·rw [ht j g] at j1; exact absurd j1 hid
  ·omega
theorem newDirty_of {h h' : THp} {l : List Nat} (hl : h'.dirty = l ++ h.dirty) : newDirty h h' = l := by
 unfold newDirty
 rw [hl]; simp
theorem chOk_cons {z : TRec} {rs : List TRec} {lo hi x : Nat} (h : chOk (z :: rs) lo hi x = true) : chOk rs lo hi x = true := by
 unfold chOk at *
 simp only [List.all_cons, Bool.and_eq_true] at h
 exact h.2
theorem chOk_append {l rs : List TRec} {lo hi x : Nat} (h : chOk (l ++ rs) lo hi x = true) : chOk rs lo hi x = true := by
 unfold chOk at *
 rw [List.all_append, Bool.and_eq_true] at h
 exact h.2
theorem chOk_self {rs : List TRec} {lo hi x q n : Nat} {ch : List Nat} (h : chOk rs lo hi x = true) (hm : TRec.effect q n ch ∈ rs ∨ TRec.alloc q n ch ∈ rs) (h1 : lo ≤ q) (h2 : q ≤ hi) : x ∉ ch := by
 unfold chOk at h
 rw [List.all_eq_true] at h
 intro hx
 rcases hm with hm | hm
 all_goals
  have := h _ hm
  simp only [Bool.or_eq_true, Bool.not_eq_true', Bool.and_eq_false_iff, decide_eq_false_iff_not] at this
  rcases this with (g | g) | g
  ·omega
  ·omega
  ·simp at g; exact g hx
theorem chOk_mono {rs : List TRec} {lo hi lo' hi' x : Nat} (h : chOk rs lo hi x = true) (h1 : lo ≤ lo') (h2 : hi' ≤ hi) : chOk rs lo' hi' x = true := by
 unfold chOk at *
 rw [List.all_eq_true] at h ⊢
 intro z hz
 have := h z hz
 cases z with
 | load _ _ => rfl
 | alloc q n ch =>
  simp only [Bool.or_eq_true, Bool.not_eq_true', Bool.and_eq_false_iff, decide_eq_false_iff_not] at this ⊢
  rcases this with (g | g) | g
  ·exact .inl (.inl (by omega))
  ·exact .inl (.inr (by omega))
  ·exact .inr g
 | effect q n ch =>
  simp only [Bool.or_eq_true, Bool.not_eq_true', Bool.and_eq_false_iff, decide_eq_false_iff_not] at this ⊢
  rcases this with (g | g) | g
  ·exact .inl (.inl (by omega))
  ·exact .inl (.inr (by omega))
  ·exact .inr g

def Single (m : Mp) (h : THp) (H : AH) (rs : List TRec) (i : Nat) : TRec → Rec → Prop
 | .load q oid, .load q' b off vs => q' = q ∧ q < i ∧ b < H.next ∧ ((∃ id, oid = some id ∧ (chOk rs q i id = true → Tr m id b ∧ cellsAt H b off vs.length = some vs)) ∨ (oid = none ∧ (∀ j, m.ρ j ≠ some b) ∧ cellsAt H b off vs.length = some vs))
 | .alloc q id ch, .alloc q' b vs sz ty => q' = q ∧ q < i ∧ b < H.next ∧ (chOk rs q i id = true → Tr m id b ∧ H.get b = .cells vs true sz ty)
 | .effect q n ch, .effect q' Hb Ha => q' = q ∧ q < i ∧ Hb.next ≤ Ha.next ∧ Ha.next ≤ H.next ∧ n ≤ h.os.length ∧
   (∀ (k : Key) b, k.top < n → m.ρ k = some b → chOk rs q i k.top = true → b < Hb.next ∧ Hb.get b = H.get b ∧ Ha.get b = H.get b) ∧
   ∀ b, (m.G b).isSome = true → chOk rs q i gmark = true → b < Hb.next ∧ Hb.get b = H.get b ∧ Ha.get b = H.get b
 | _, _ => False
def PairR (rs : List TRec) : TRec → Rec → TRec → Rec → Prop
 | .effect k n _, .effect _ Hb Ha, .load i oid, .load _ b off vs => match oid with
  | some id => (i < k ∨ id < n) → chOk rs (min i k) (max i k) id = true → sameAt Hb b off vs = true ∧ sameAt Ha b off vs = true
  | none => (i < k ∨ chOk rs k i gmark = true) → sameAt Hb b off vs = true ∧ sameAt Ha b off vs = true
 | .effect k n _, .effect _ Hb Ha, .alloc i id _, .alloc _ b vs sz ty => i ≤ k → chOk rs i k id = true → wholeAt Ha b vs sz ty = true
 | _, _, _, _ => True
theorem PairR.mono {l rs : List TRec} {x : TRec} {x' : Rec} {y : TRec} {y' : Rec} (h : PairR rs x x' y y') : PairR (l ++ rs) x x' y y' := by
 unfold PairR at *
 split at h
 ·split at h
  ·exact fun h1 h2 => h h1 (chOk_append h2)
  ·exact fun h1 => h (h1.imp id chOk_append)
 ·exact fun h1 h2 => h h1 (chOk_append h2)
 ·exact h
structure DInv (m : Mp) (h : THp) (H : AH) (rs : List TRec) (rsA : List Rec) (i : Nat) (M : List (TRec × Rec)) : Prop where
 snd : M.map (·.2) = rsA
 fst : ∀ p ∈ M, p.1 ∈ rs
 one : ∀ p ∈ M, Single m h H rs i p.1 p.2
 two : ∀ p ∈ M, ∀ q ∈ M, PairR rs p.1 p.2 q.1 q.2

theorem cellsEq_refl (hE : ∀ v, EqV.eq v v = true) : ∀ l : List Value, cellsEq l l = true := by
 intro l
 induction l with
 | nil => rfl
 | cons v r ih => simp only [cellsEq, hE, ih, Bool.and_self]
theorem sameAt_of (hE : ∀ v, EqV.eq v v = true) {H : AH} {b off : Nat} {vs : List Value} (h : cellsAt H b off vs.length = some vs) : sameAt H b off vs = true := by
 unfold sameAt
 rw [h]; exact cellsEq_refl hE vs
theorem cellsAt_congr {H H' : AH} {b off n : Nat} (hg : H'.get b = H.get b) (h1 : b < H'.next) (h2 : b < H.next) : cellsAt H' b off n = cellsAt H b off n := by
 unfold cellsAt
 rw [hg]
 split
 ·simp [h1, h2]
 ·rfl
theorem DInv.ok (hE : ∀ v, EqV.eq v v = true) {m : Mp} {h : THp} {H : AH} {ops : Array Oper} {rs : List TRec} {rsA : List Rec} {i : Nat} {M : List (TRec × Rec)} (hd : DInv m h H rs rsA i M) (hok : trecsOk ops rs = true) : recsOk ops rsA = true := by
 unfold recsOk
 rw [← hd.snd, List.all_eq_true]
 intro x hx
 obtain ⟨p, hp, rfl⟩ := List.mem_map.1 hx
 have hs := hd.one p hp
 obtain ⟨tx, rx⟩ := p
 cases rx with
 | load _ _ _ _ => rfl
 | alloc _ _ _ _ _ => rfl
 | bad => cases tx <;> exact hs.elim
 | effect k Hb Ha =>
  cases tx with
  | load _ _ => exact hs.elim
  | alloc _ _ _ => exact hs.elim
  | effect k' n ch =>
   obtain ⟨rfl, -⟩ := hs
   rw [List.all_eq_true]
   intro y hy
   obtain ⟨q, hq, rfl⟩ := List.mem_map.1 hy
   have hs2 := hd.one q hq
   have hpair := hd.two _ hp q hq
   have hpo : pairOk (ancF (masks ops.toList [])) rs k n q.1 = true := by
    unfold trecsOk at hok
    simp only [trecsG] at hok
    rw [List.all_eq_true] at hok
    have := hok _ (hd.fst _ hp)
    simp only at this
    rw [List.all_eq_true] at this
    exact this _ (hd.fst q hq)
   obtain ⟨ty, ry⟩ := q
   cases ry with
   | effect _ _ _ => rfl
   | bad => cases ty <;> exact hs2.elim
   | load i' b off vs =>
    cases ty with
    | effect _ _ _ => exact hs2.elim
    | alloc _ _ _ => exact hs2.elim
    | load i'' oid =>
     obtain ⟨rfl, -⟩ := hs2
     cases oid with
     | some id =>
      simp only [pairOk, Bool.or_eq_true, Bool.and_eq_true, decide_eq_true_eq] at hpo ⊢
      rcases hpo with (g | g) | ⟨g1, g2⟩
      ·exact .inl (.inl (ancF_ok g))
      ·exact .inl (.inr (ancF_ok g))
      ·exact .inr (hpair g1 g2)
     | none =>
      simp only [pairOk, Bool.or_eq_true, decide_eq_true_eq] at hpo
      simp only [Bool.or_eq_true, Bool.and_eq_true]
      rcases hpo with ((g | g) | g) | g
      ·exact .inl (.inl (ancF_ok g))
      ·exact .inl (.inr (ancF_ok g))
      ·exact .inr (hpair (.inl g))
      ·exact .inr (hpair (.inr g))
   | alloc i' b vs sz tyy =>
    cases ty with
    | effect _ _ _ => exact hs2.elim
    | load _ _ => exact hs2.elim
    | alloc i'' id ch' =>
     obtain ⟨rfl, -⟩ := hs2
     simp only [pairOk, Bool.or_eq_true, decide_eq_true_eq] at hpo
     simp only [Bool.or_eq_true, decide_eq_true_eq]
     rcases hpo with (g | g) | g
     ·exact .inl (.inl g)
     ·exact .inl (.inr (ancF_ok g))
     ·by_cases hik : i' ≤ k
      ·exact .inr (hpair hik g)
      ·exact .inl (.inl (by omega))

theorem Single.step {m m1 : Mp} {h h1 : THp} {H H1 : AH} (hR : HR m h.os H) (hR1 : HR m1 h1.os H1) (he : Ext m h H m1 h1 H1) {l0 : List Nat} (hl : h1.dirty = l0 ++ h.dirty) {lr rs : List TRec} {i : Nat} (hch : ∀ q x, q ≤ i → chOk (lr ++ rs) q (i + 1) x = true → x ∉ l0)
  {t : TRec} {r : Rec} (hs : Single m h H rs i t r) : Single m1 h1 H1 (lr ++ rs) (i + 1) t r := by
 have old : ∀ q x, chOk (lr ++ rs) q (i + 1) x = true → chOk rs q i x = true := fun q x hx => chOk_mono (chOk_append hx) (Nat.le_refl _) (by omega)
 obtain ⟨l', el, dc, d2, d3⟩ := he.dirty
 have : l' = l0 := List.append_cancel_right (el.symm.trans hl)
 subst this
 cases t with
 | load q oid =>
  cases r with
  | load q' b off vs =>
   obtain ⟨rfl, h1', h2, h3⟩ := hs
   refine ⟨rfl, by omega, Nat.lt_of_lt_of_le h2 he.next, ?_⟩
   rcases h3 with ⟨id, e, h3⟩ | ⟨e, h3, h4⟩
   ·refine .inl ⟨id, e, fun hc => ?_⟩
    obtain ⟨k1, k2⟩ := h3 (old _ _ hc)
    obtain ⟨g1, g2⟩ := k1.step he hl h2 (hch q' id (by omega) hc)
    exact ⟨g2, by rw [cellsAt_congr g1 (Nat.lt_of_lt_of_le h2 he.next) h2]; exact k2⟩
   ·refine .inr ⟨e, fun j hj => ?_, by rw [cellsAt_congr (he.frame b h2 h3) (Nat.lt_of_lt_of_le h2 he.next) h2]; exact h4⟩
    rcases d3 j b hj with g | ⟨j', -, g⟩ | g
    ·exact h3 j g
    ·exact h3 j' g
    ·omega
  | _ => exact hs.elim
 | alloc q id ch =>
  cases r with
  | alloc q' b vs sz ty =>
   obtain ⟨rfl, h1', h2, h3⟩ := hs
   refine ⟨rfl, by omega, Nat.lt_of_lt_of_le h2 he.next, fun hc => ?_⟩
   obtain ⟨k1, k2⟩ := h3 (old _ _ hc)
   obtain ⟨g1, g2⟩ := k1.step he hl h2 (hch q' id (by omega) hc)
   exact ⟨g2, g1.trans k2⟩
  | _ => exact hs.elim
 | effect q n ch =>
  cases r with
  | effect q' Hb Ha =>
   obtain ⟨rfl, h1', h2, h3, h4, h5, h6⟩ := hs
   refine ⟨rfl, by omega, h2, Nat.le_trans h3 he.next, Nat.le_trans h4 he.keep.len, fun id b hid hb hc => ?_, fun b hb hc => ?_⟩
   ·have k1 := he.old _ hl id b (by omega) (hch q' id.top (by omega) hc) hb
    obtain ⟨g1, g2, g3⟩ := h5 id b hid k1 (old _ _ hc)
    have := d2 id b k1 (hch q' id.top (by omega) hc)
    exact ⟨g1, by rw [this]; exact g2, by rw [this]; exact g3⟩
   ·obtain ⟨c, hc'⟩ := Option.isSome_iff_exists.1 hb
    have k1 := dc (hch q' gmark (by omega) hc) b c hc'
    obtain ⟨g1, g2, g3⟩ := h6 b (by rw [k1]; rfl) (old _ _ hc)
    have hno : ∀ j, m.ρ j ≠ some b := fun j hj => by rw [hR.disj j b hj] at k1; cases k1
    have := he.frame b (by omega) hno
    exact ⟨g1, by rw [this]; exact g2, by rw [this]; exact g3⟩
  | _ => exact hs.elim
theorem DInv.step {m m1 : Mp} {h h1 : THp} {H H1 : AH} (hR : HR m h.os H) (hR1 : HR m1 h1.os H1) (he : Ext m h H m1 h1 H1) {l0 : List Nat} (hl : h1.dirty = l0 ++ h.dirty) {lr rs : List TRec} {rsA : List Rec} {i : Nat} {M : List (TRec × Rec)} (hd : DInv m h H rs rsA i M)
  (hch : ∀ q x, q ≤ i → chOk (lr ++ rs) q (i + 1) x = true → x ∉ l0) : DInv m1 h1 H1 (lr ++ rs) rsA (i + 1) M :=
 ⟨hd.snd, fun p hp => List.mem_append_right _ (hd.fst p hp), fun p hp => (hd.one p hp).step hR hR1 he hl hch, fun p hp q hq => (hd.two p hp q hq).mono⟩
theorem DInv.add {m : Mp} {h : THp} {H : AH} {rs : List TRec} {rsA : List Rec} {i : Nat} {M : List (TRec × Rec)} (hd : DInv m h H rs rsA i M) {t : TRec} {r : Rec} (h1 : t ∈ rs) (h2 : Single m h H rs i t r) (h3 : ∀ p ∈ M, PairR rs t r p.1 p.2) (h4 : ∀ p ∈ M, PairR rs p.1 p.2 t r) (h5 : PairR rs t r t r) :
  DInv m h H rs (r :: rsA) i ((t, r) :: M) := by
 refine ⟨by rw [List.map_cons, hd.snd], fun p hp => ?_, fun p hp => ?_, fun p hp q hq => ?_⟩
 ·rcases List.mem_cons.1 hp with rfl | hp
  ·exact h1
  ·exact hd.fst p hp
 ·rcases List.mem_cons.1 hp with rfl | hp
  ·exact h2
  ·exact hd.one p hp
 ·rcases List.mem_cons.1 hp with rfl | hp <;> rcases List.mem_cons.1 hq with rfl | hq
  ·exact h5
  ·exact h3 q hq
  ·exact h4 p hp
  ·exact hd.two p hp q hq
theorem load_cells {t b off : Nat} {H : AH} {v : Value} (h : aload P t (.pointer (some ⟨b, off, none⟩)) H = some v) (ha : isAgg? P t = some (isAggV v)) (hb : b < H.next) : cellsAt H b off v.cells.toList.length = some v.cells.toList := by
 simp only [aload] at h
 split at h
 ·rename_i c own sz ty hg
  unfold cellsAt
  rw [hg]
  unfold part? at h
  cases hv : isAggV v with
  | true =>
   rw [hv] at ha
   simp only [ha] at h
   cases hs : sizeOf? P t with
   | none => rw [hs] at h; cases h
   | some n =>
    rw [hs] at h
    simp only at h
    split at h
    ·rename_i hle
     cases h
     simp only [Value.cells, List.length_take, List.length_drop]
     rw [if_pos ⟨hb, by omega⟩]
     congr 1
     rw [Nat.min_eq_left (by omega)]
    ·cases h
  | false =>
   rw [hv] at ha
   have h' : c[off]? = some v := by cases hs : sizeOf? P t <;> simpa only [ha, hs] using h
   have hc : v.cells = #[v] := by cases v <;> first | rfl | cases hv
   rw [hc]
   obtain ⟨h1, h2⟩ := List.getElem?_eq_some_iff.1 h'
   simp only [List.length_cons, List.length_nil]
   rw [if_pos ⟨hb, by omega⟩, List.drop_eq_getElem_cons h1, h2]
   rfl
 ·cases h

theorem isEmpty_nil {α : Type} {l : List α} (h : l.isEmpty = true) : l = [] := by cases l <;> first | rfl | cases h

theorem rec_step (hE : ∀ v, EqV.eq v v = true) {cfA : Oracle} {o : Oper} {i : Nat} {m m1 : Mp} {h h1 : THp} {a : Env} {H H1 : AH} {ρT : Operand → TV} {tv : TV} {v' : Value} {lr rs : List TRec} {rsA : List Rec} {M : List (TRec × Rec)} (hR : HR m h.os H) (hR1 : HR m1 h1.os H1) (he : Ext m h H m1 h1 H1)
  (hρ : ∀ x, RV m h.os (ρT x) (evA a x)) (ht : trecOf P o i ρT tv h h1 = some lr) (hd : doOp P cfA o a H = some (v', H1)) (hv : RV m1 h1.os tv v') (hD : DInv m h H rs rsA i M) : ∃ M', DInv m1 h1 H1 (lr ++ rs) (recOf P o i a H v' H1 ++ rsA) (i + 1) M' := by
 obtain ⟨l0, el, dc, d2, d3⟩ := he.dirty
 have hnd := newDirty_of el
 unfold trecOf at ht
 unfold recOf
 cases hk : okind P o.op with
 | quiet =>
  rw [hk] at ht
  simp only [hnd] at ht
  split at ht
  ·rename_i hem
   cases ht
   have := isEmpty_nil hem
   subst this
   exact ⟨M, hD.step (lr := []) hR hR1 he el fun _ _ _ _ => by simp⟩
  ·cases ht
 | load =>
  rw [hk] at ht
  simp only at ht ⊢
  cases ho : o.op with
  | load t x =>
   rw [ho] at ht
   simp only [hnd] at ht ⊢
   split at ht
   ·rename_i hok
    simp only [Bool.and_eq_true] at hok
    have := isEmpty_nil hok.2
    subst this
    have hag := loadOk_sound hv hok.1
    have hx := hρ x
    have hload : aload P t (evA a x) H = some v' ∧ H1 = H := by
     unfold doOp at hd
     rw [ho] at hd
     simp only [aop, aval] at hd
     cases hl : aload P t (evA a x) H with
     | none => rw [hl] at hd; cases hd
     | some u => rw [hl] at hd; cases hd; exact ⟨rfl, rfl⟩
    obtain ⟨hld, rfl⟩ := hload
    have base : ∀ lr, DInv m1 h1 H1 (lr ++ rs) rsA (i + 1) M := fun lr => hD.step (lr := lr) hR hR1 he el fun _ _ _ _ => by simp
    have keepTr : ∀ {id b}, b < H1.next → Tr m id b → Tr m1 id b := fun hb h => (h.step he el hb (by simp)).2
    have owned : ∀ {k0 : Key} {b off : Nat}, m.ρ k0 = some b → evA a x = .pointer (some ⟨b, off, none⟩) → ∃ M', DInv m1 h1 H1 ([TRec.load i (some k0.top)] ++ rs) ([Rec.load i b off v'.cells.toList] ++ rsA) (i + 1) M' := fun {k0 b off} hb hxe => by
     rw [hxe] at hld
     have hbn := (hR.lt k0 b hb).1
     have hc := load_cells hld hag hbn
     have htr : Tr m k0.top b := fun j hj => by rw [hR.inj _ _ _ hj hb]
     refine ⟨_, (base [TRec.load i (some k0.top)]).add (t := .load i (some k0.top)) (r := .load i b off v'.cells.toList) (List.mem_cons_self ..) ⟨rfl, by omega, hbn, .inl ⟨k0.top, rfl, fun _ => ⟨keepTr hbn htr, hc⟩⟩⟩ (fun p _ => by obtain ⟨p1, p2⟩ := p; trivial) (fun p hp => ?_) trivial⟩
     obtain ⟨p1, p2⟩ := p
     have hs := hD.one _ hp
     cases p1 <;> cases p2 <;> first | trivial | exact hs.elim | skip
     rename_i k n ch k' Hb Ha
     obtain ⟨rfl, e1, e2, e3, e4, e5, e6⟩ := hs
     intro hlt hcc
     have hid : k0.top < n := by rcases hlt with g | g; omega; exact g
     rw [Nat.min_eq_right (by omega), Nat.max_eq_left (by omega)] at hcc
     obtain ⟨g1, g2, g3⟩ := e5 k0 b hid hb (chOk_cons hcc)
     exact ⟨sameAt_of hE (by rw [cellsAt_congr g2 g1 hbn]; exact hc), sameAt_of hE (by rw [cellsAt_congr g3 (by omega) hbn]; exact hc)⟩
    split at ht
    ·rename_i id off hrx
     rw [hrx] at hx
     split at ht
     ·rename_i w cs tid hat
      cases ht
      cases hx' : evA a x <;> rw [hx'] at hx <;> cases hx
      rename_i b hb hf
      simp only
      rw [if_pos ⟨(hR.lt id b hb).1, hag⟩]
      exact owned (k0 := .o id) hb hx'
     ·cases ht
    ·rename_i id ii off hrx
     rw [hrx] at hx
     split at ht
     ·rename_i w T r tid hat
      cases ht
      have hos := at_some hat (by simp)
      cases hx' : evA a x <;> rw [hx'] at hx <;> (cases hx with | elt _ _ _ _ he => ?_)
      all_goals (unfold EltR at he; rw [hos] at he; obtain ⟨b, hb, hi, e⟩ := he; cases e)
      simp only
      rw [if_pos ⟨(hR.lt id b hb).1, hag⟩]
      exact owned (k0 := .o id) hb hx'
     ·rename_i w T r tid nt ver hole hat
      cases ht
      have hos := at_some hat (by simp)
      cases hx' : evA a x <;> rw [hx'] at hx <;> (cases hx with | elt _ _ _ _ he => ?_)
      all_goals (rw [EltR_mat hos mat_i] at he; obtain ⟨b, hb, hi, e⟩ := he; cases e)
      simp only
      rw [if_pos ⟨(hR.lt id b hb).1, hag⟩]
      exact owned (k0 := .o id) hb hx'
     ·cases ht
    ·rename_i id ii pos j off ver hrx
     rw [hrx] at hx
     split at ht
     ·rename_i uc hne
      cases ht
      simp only [nestOf] at hne
      split at hne
      ·rename_i w T r tid nt ver' hat
       split at hne
       ·rename_i ev; subst ev
        split at hne
        ·rename_i u c hg
         have hos := at_some hat (by simp)
         cases hx' : evA a x <;> rw [hx'] at hx <;> (cases hx with | elt2 _ _ _ _ _ _ _ he => ?_)
         all_goals (obtain ⟨hi, hp, c0, b, n0, z0, q1, q2, q3, e⟩ := Elt2R_at hos rfl he; cases e)
         obtain ⟨hl, b0, c1, r1, r2, r3, r4, r5, r6⟩ := MR.at (hR.obj id _ hos) hi
         rw [q1] at r2; cases r2
         obtain ⟨v0, w1, w2⟩ := NC.get T 0 pos _ _ _ _ r6 hg
         rw [List.getElem?_take_of_lt hp, List.getElem?_drop, q2] at w1
         cases w1
         rcases w2 with ⟨w2, -⟩ | ⟨b2, c2', w2, w3, -⟩
         ·cases w2
         cases w3
         simp only
         rw [if_pos ⟨(hR.lt _ _ w2).1, hag⟩]
         exact owned w2 hx'
        ·cases hne
       ·cases hne
      ·cases hne
     ·cases ht
    ·rename_i cs hrx
     cases ht
     rw [hrx] at hx
     cases hx' : evA a x with
     | pointer p =>
      rw [hx'] at hx hld
      cases hx with
      | dptrP _ b off c hG hl hh =>
      simp only
      have hbn := (hR.gr b c hG).1
      rw [if_pos ⟨hbn, hag⟩]
      have hc := load_cells hld hag hbn
      have hno : ∀ j, m.ρ j ≠ some b := fun j hj => by rw [hR.disj j b hj] at hG; cases hG
      refine ⟨_, (base [TRec.load i none]).add (t := .load i none) (r := .load i b off v'.cells.toList) (List.mem_cons_self ..) ⟨rfl, by omega, hbn, .inr ⟨rfl, fun j hj => ?_, hc⟩⟩ (fun p _ => by obtain ⟨p1, p2⟩ := p; trivial) (fun p hp => ?_) trivial⟩
      ·rcases d3 j b hj with g | ⟨j', -, g⟩ | g
       ·exact hno j g
       ·exact hno j' g
       ·omega
      ·obtain ⟨p1, p2⟩ := p
       have hs := hD.one _ hp
       cases p1 <;> cases p2 <;> first | trivial | exact hs.elim | skip
       rename_i k n ch k' Hb Ha
       obtain ⟨rfl, e1, e2, e3, e4, e5, e6⟩ := hs
       intro hlt
       have hcc : chOk ([TRec.load i none] ++ rs) k' i gmark = true := by rcases hlt with g | g; omega; exact g
       obtain ⟨g1, g2, g3⟩ := e6 b (by rw [hG]; rfl) (chOk_cons hcc)
       exact ⟨sameAt_of hE (by rw [cellsAt_congr g2 g1 hbn]; exact hc), sameAt_of hE (by rw [cellsAt_congr g3 (by omega) hbn]; exact hc)⟩
     | func f p q =>
      rw [hx'] at hx; cases hx
      exact ⟨M, base _⟩
     | _ => rw [hx'] at hx; cases hx
    ·cases ht
   ·cases ht
  | _ => rw [ho] at ht; cases ht
 | alloc =>
  rw [hk] at ht
  simp only [hnd] at ht ⊢
  obtain ⟨⟨c, sz, ty, hc, hnx⟩, hform⟩ := alloc_cells hk (alloc_res hk hd)
  rw [hc]
  simp only
  have fin : m1.ρ h.os.length = some H.next → lr = [.alloc i h.os.length l0] → ∃ M', DInv m1 h1 H1 (lr ++ rs) ([Rec.alloc i H.next c sz ty] ++ rsA) (i + 1) M' := fun hρn hlr => by
   subst hlr
   have base := hD.step (lr := [TRec.alloc i h.os.length l0]) hR hR1 he el fun q x hq hx => chOk_self hx (.inr (List.mem_cons_self ..)) hq (by omega)
   refine ⟨_, base.add (t := .alloc i h.os.length l0) (r := .alloc i H.next c sz ty) (List.mem_cons_self ..) ⟨rfl, by omega, by omega, fun _ => ⟨fun j hj => by rw [hR1.inj _ _ _ hj hρn]; rfl, hc⟩⟩ (fun p _ => by obtain ⟨p1, p2⟩ := p; trivial) (fun p hp => ?_) trivial⟩
   obtain ⟨p1, p2⟩ := p
   have hs := hD.one _ hp
   cases p1 <;> cases p2 <;> first | trivial | exact hs.elim | skip
   rename_i k n ch k' Hb Ha
   obtain ⟨rfl, e1, -⟩ := hs
   intro hle
   omega
  split at ht
  ·rename_i id
   split at ht
   ·rename_i hid
    cases ht
    cases hv with
    | ptr _ _ b hb _ =>
    rcases hform with e | ⟨_, _, e⟩
    ·cases e; subst hid; exact fin hb rfl
    ·cases e
   ·cases ht
  ·rename_i id
   split at ht
   rotate_left
   ·rename_i w T r tid nt ver hole hat
    split at ht
    ·rename_i hid
     cases ht
     cases hv with
     | own _ _ hv =>
     rw [OwnR_mat (at_some hat (by simp)) mat_i] at hv
     rcases hform with e | ⟨_, _, e⟩
     ·rcases hv with ⟨_, _, q⟩ | ⟨_, _, q⟩ <;> rw [e] at q <;> cases q
     ·rcases hv with ⟨_, _, q⟩ | ⟨b, q1, q⟩
      ·rw [e] at q; cases q
      ·rw [e] at q; cases q; subst hid; exact fin q1 rfl
    ·cases ht
   rotate_left
   ·rename_i w T r tid hat
    split at ht
    ·rename_i hid
     cases ht
     cases hv with
     | own _ _ hv =>
     unfold OwnR at hv
     rw [at_some hat (by simp)] at hv
     rcases hform with e | ⟨_, _, e⟩
     ·rcases hv with ⟨_, _, q⟩ | ⟨_, _, q⟩ <;> rw [e] at q <;> cases q
     ·rcases hv with ⟨_, _, q⟩ | ⟨b, q1, q⟩
      ·rw [e] at q; cases q
      ·rw [e] at q; cases q; subst hid; exact fin q1 rfl
    ·cases ht
   ·cases ht
  ·cases ht
 | effect =>
  rw [hk] at ht
  simp only [hnd] at ht ⊢
  cases ht
  have base := hD.step (lr := [TRec.effect i h.os.length l0]) hR hR1 he el fun q x hq hx => chOk_self hx (.inl (List.mem_cons_self ..)) hq (by omega)
  have hno : ∀ {x}, chOk ([TRec.effect i h.os.length l0] ++ rs) i (i + 1) x = true → x ∉ l0 := fun hx => chOk_self hx (.inl (List.mem_cons_self ..)) (Nat.le_refl _) (by omega)
  refine ⟨_, base.add (t := .effect i h.os.length l0) (r := .effect i H H1) (List.mem_cons_self ..) ⟨rfl, by omega, he.next, Nat.le_refl _, he.keep.len, fun id b hid hb hc => ?_, fun b hb hc => ?_⟩ (fun p hp => ?_) (fun p hp => ?_) trivial⟩
  ·have k1 := he.old _ el id b hid (hno hc) hb
   exact ⟨(hR.lt id b k1).1, (d2 id b k1 (hno hc)).symm, rfl⟩
  ·obtain ⟨c, hc'⟩ := Option.isSome_iff_exists.1 hb
   have k1 := dc (hno hc) b c hc'
   have hbn := (hR.gr b c k1).1
   exact ⟨hbn, (he.frame b hbn fun j hj => by rw [hR.disj j b hj] at k1; cases k1).symm, rfl⟩
  ·obtain ⟨p1, p2⟩ := p
   have hs := hD.one _ hp
   cases p1 <;> cases p2 <;> first | trivial | exact hs.elim | skip
   ·rename_i q oid q' b off vs
    obtain ⟨rfl, e1, e2, e3⟩ := hs
    rcases e3 with ⟨id, rfl, e3⟩ | ⟨rfl, e3, e4⟩
    ·intro _ hcc
     rw [Nat.min_eq_left (by omega), Nat.max_eq_right (by omega)] at hcc
     obtain ⟨k1, k2⟩ := e3 (chOk_cons hcc)
     have hid : id ∉ l0 := chOk_self hcc (.inl (List.mem_cons_self ..)) (by omega) (Nat.le_refl _)
     obtain ⟨g1, -⟩ := k1.step he el e2 hid
     exact ⟨sameAt_of hE k2, sameAt_of hE (by rw [cellsAt_congr g1 (Nat.lt_of_lt_of_le e2 he.next) e2]; exact k2)⟩
    ·intro _
     exact ⟨sameAt_of hE e4, sameAt_of hE (by rw [cellsAt_congr (he.frame b e2 e3) (Nat.lt_of_lt_of_le e2 he.next) e2]; exact e4)⟩
   ·rename_i q id ch q' b vs sz ty
    obtain ⟨rfl, e1, e2, e3⟩ := hs
    intro hle hcc
    obtain ⟨k1, k2⟩ := e3 (chOk_cons hcc)
    have hid : id ∉ l0 := chOk_self hcc (.inl (List.mem_cons_self ..)) (by omega) (Nat.le_refl _)
    obtain ⟨g1, -⟩ := k1.step he el e2 hid
    unfold wholeAt
    rw [g1, k2]
    simp [cellsEq_refl hE]
  ·obtain ⟨p1, p2⟩ := p
   cases p1 <;> cases p2 <;> trivial

def Unw (w : List Nat) (env env' : List TV) (a a' : Env) : Prop := env'.length = env.length ∧ ∀ i, i ∉ w → env'[i]? = env[i]? ∧ a'[i]? = a[i]?
theorem Unw.refl (w : List Nat) (env : List TV) (a : Env) : Unw w env env a a := ⟨rfl, fun _ _ => ⟨rfl, rfl⟩⟩
theorem Unw.trans {w : List Nat} {e e1 e2 : List TV} {a a1 a2 : Env} (h : Unw w e e1 a a1) (k : Unw w e1 e2 a1 a2) : Unw w e e2 a a2 :=
 ⟨k.1.trans h.1, fun i hi => ⟨(k.2 i hi).1.trans (h.2 i hi).1, (k.2 i hi).2.trans (h.2 i hi).2⟩⟩
theorem Unw.mono {w w' : List Nat} {e e1 : List TV} {a a1 : Env} (h : Unw w e e1 a a1) (hw : ∀ i ∈ w, i ∈ w') : Unw w' e e1 a a1 := ⟨h.1, fun i hi => h.2 i fun q => hi (hw i q)⟩
theorem Unw.set {w : List Nat} {env : List TV} {a : Env} {d : Nat} (hd : d ∈ w) (v : TV) (v' : Value) : Unw w env (env.set d v) a (a.set d v') :=
 ⟨by simp, fun i hi => by
  have : d ≠ i := fun e => hi (e ▸ hd)
  exact ⟨List.getElem?_set_ne this, List.getElem?_set_ne this⟩⟩
theorem wrOps_mem {l : List Oper} {o : Oper} {d : Nat} (ho : o ∈ l) (hd : o.dst = some d) : d ∈ wrOps l := by
 induction l with
 | nil => cases ho
 | cons x r ih =>
  simp only [wrOps]
  rcases List.mem_cons.1 ho with rfl | ho
  ·rw [hd]; exact List.mem_cons_self ..
  ·cases x.dst with
   | none => exact ih ho
   | some e => exact List.mem_cons_of_mem _ (ih ho)
theorem putT_rl {m : Mp} {os : List TObj} {env : List TV} {a : Env} (h : RL m os env a) (d : Option Nat) {v : TV} {v' : Value} (hv : RV m os v v') : RL m os (putT env d v) (putA a d v') := by
 cases d with
 | none => exact h
 | some d => exact h.set d hv
theorem putT_unw {l : List Oper} {o : Oper} (ho : o ∈ l) (env : List TV) (a : Env) (v : TV) (v' : Value) : Unw (wrOps l) env (putT env o.dst v) a (putA a o.dst v') := by
 cases hd : o.dst with
 | none => exact .refl _ _ _
 | some d => exact .set (wrOps_mem ho hd) v v'
theorem getD_bool {m : Mp} {os : List TObj} {env : List TV} {a : Env} (h : RL m os env a) {d : Nat} {c : SB} (hc : env.getD d .junk = .bool c) : a[d]? = some (.bool c.get) := by
 by_cases hd : d < env.length
 ·have hd' : d < a.length := by rw [← h.1]; exact hd
  have := h.2 d hd hd'
  rw [List.getD_eq_getElem?_getD, List.getElem?_eq_getElem hd] at hc
  simp only [Option.getD_some] at hc
  rw [hc] at this
  rw [List.getElem?_eq_getElem hd']
  cases hq : a[d] <;> rw [hq] at this <;> cases this
  rfl
 ·rw [List.getD_eq_getElem?_getD, List.getElem?_eq_none (by omega)] at hc; cases hc
theorem undef_rv {m : Mp} {os : List TObj} : RV m os (.tup []) undef := .tup [] #[] rfl fun i a => by simp at a
theorem tmOps_sound (hE : ∀ v, EqV.eq v v = true) {gl : Nat → Option (List TV)} (hgl : GlOK gl) {cf : Oc} {cfA : Oracle} (hcf : OcOK P cf cfA) {R : Type} {ctx : List Nat} {ops : Array Oper} {draw : Bool} {n0 : Nat} : ∀ (l : List Oper), (∀ o ∈ l, o ∈ ops.toList) → ∀ (i : Nat) (env : List TV) (h : THp) (rs : List TRec) (k : List TV → THp → Option R) (r : R),
  tmOps P gl cf ctx ops draw n0 l i env h rs k = some r → ∀ {m : Mp} {a : Env} {H : AH} {rsA : List Rec}, HR m h.os H → RL m h.os env a → (draw = true → ∃ M, DInv m h H rs rsA i M) →
  ∃ m' env' h' a' H', k env' h' = some r ∧ (draw = false → evalOps P cfA ops l a H = some (a', H')) ∧ (draw = true → ∃ rs', evalDraw P cfA ops l i a H rsA = some (a', H', rs') ∧ recsOk ops rs' = true) ∧ HR m' h'.os H' ∧ RL m' h'.os env' a' ∧ Ext m h H m' h' H' ∧ Unw (wrOps ops.toList) env env' a a' := by
 intro l
 induction l with
 | nil =>
  intro _ i env h rs k r he m a H rsA hR ha hcl
  simp only [tmOps] at he
  cases draw with
  | false => exact ⟨m, env, h, a, H, he, fun _ => rfl, fun e => (by cases e), hR, ha, .refl hR, .refl _ _ _⟩
  | true =>
   simp only [if_true] at he
   split at he
   ·rename_i hok
    obtain ⟨M, hM⟩ := hcl rfl
    exact ⟨m, env, h, a, H, he, fun e => (by cases e), fun _ => ⟨rsA, rfl, hM.ok hE hok⟩, hR, ha, .refl hR, .refl _ _ _⟩
   ·cases he
 | cons o l ih =>
  intro hmem i env h rs k r he m a H rsA hR ha hcl
  have ho : o ∈ ops.toList := hmem o (List.mem_cons_self ..)
  have hl : ∀ o ∈ l, o ∈ ops.toList := fun x hx => hmem x (List.mem_cons_of_mem _ hx)
  have run : ∀ (env1 : List TV), RL m h.os env1 a → Unw (wrOps ops.toList) env env1 a a → wantedA ops o a = true →
    tmOp P gl cf ctx o env1 h (fun v h' => match (if draw then trecOf P o i (ev1 gl env1) v h h' else some []) with
     | some l1 => tmOps P gl cf ctx ops draw n0 l (i + 1) (putT env1 o.dst v) h' (l1 ++ rs) k
     | none => none) = some r → ∃ m' env' h' a' H', k env' h' = some r ∧ (draw = false → evalOps P cfA ops (o :: l) a H = some (a', H')) ∧ (draw = true → ∃ rs', evalDraw P cfA ops (o :: l) i a H rsA = some (a', H', rs') ∧ recsOk ops rs' = true) ∧ HR m' h'.os H' ∧ RL m' h'.os env' a' ∧ Ext m h H m' h' H' ∧ Unw (wrOps ops.toList) env env' a a' := by
   intro env1 ha1 hu1 hw hop
   obtain ⟨m1, tv, h1, v', H1, g1, g2, g3, g4, g5⟩ := tmOp_sound hgl hcf hop hR ha1
   split at g1
   ·rename_i l1 hl1
    have ha2 := putT_rl (ha1.mono g4.le) o.dst g5
    have hcl2 : draw = true → ∃ M, DInv m1 h1 H1 (l1 ++ rs) (recOf P o i a H v' H1 ++ rsA) (i + 1) M := fun hd => by
     rw [if_pos hd] at hl1
     obtain ⟨M, hM⟩ := hcl hd
     exact rec_step hE hR g3 g4 (ev_rv hgl ha1) hl1 g2 g5 hM
    obtain ⟨m', env', h', a', H', k1, k2, k3, k4, k5, k6, k7⟩ := ih hl (i + 1) _ h1 (l1 ++ rs) k r g1 (rsA := if draw then recOf P o i a H v' H1 ++ rsA else rsA) g3 ha2 (fun hd => by
     subst hd
     simpa using hcl2 rfl)
    refine ⟨m', env', h', a', H', k1, fun hd => ?_, fun hd => ?_, k4, k5, g4.trans hR k6, (hu1.trans (putT_unw ho _ _ _ _)).trans k7⟩
    ·simp only [evalOps, hw, if_true, g2, Option.bind_some]
     exact k2 hd
    ·obtain ⟨rs', e1, e2⟩ := k3 hd
     refine ⟨rs', ?_, e2⟩
     simp only [evalDraw, hw, if_true, g2, Option.bind_some]
     rw [hd] at e1
     exact e1
   ·cases g1
  simp only [tmOps] at he
  split at he
  ·cases he
  ·rename_i hg
   have hnone : o.guard = none := by
    unfold guardSlot at hg
    split at hg
    ·assumption
    ·split at hg
     ·split at hg <;> cases hg
     ·cases hg
   exact run env ha (.refl _ _ _) (by simp [wantedA, Region.wanted, hnone]) he
  ·rename_i d b hg
   obtain ⟨j, p, hj, hp, hd⟩ : ∃ j p, o.guard = some (j, b) ∧ ops[j]? = some p ∧ p.dst = some d := by
    unfold guardSlot at hg
    split at hg
    ·cases hg
    ·rename_i j b' hgo
     split at hg
     ·rename_i p hp
      split at hg
      ·rename_i d' hd'
       cases hg
       exact ⟨j, p, hgo, hp, hd'⟩
      ·cases hg
     ·cases hg
   have hdw : d ∈ wrOps ops.toList := wrOps_mem (by
    have := Array.mem_of_getElem? hp
    simpa using this) hd
   split at he
   ·rename_i c hc
    have hac := getD_bool ha hc
    have hy : yieldedA ops a j = some c.get := by
     simp only [yieldedA, hp, Option.bind_some, hd, hac]
    have hwant : wantedA ops o a = (c.get == b) := by
     simp only [wantedA, Region.wanted, hj, hy]
     cases c.get <;> cases b <;> rfl
    have key : (c.get = b ∧ tmOp P gl cf ctx o (env.set d (.bool (.of b))) h (fun v h' => match (if draw then trecOf P o i (ev1 gl (env.set d (.bool (.of b)))) v h h' else some []) with
      | some l1 => tmOps P gl cf ctx ops draw n0 l (i + 1) (putT (env.set d (.bool (.of b))) o.dst v) h' (l1 ++ rs) k
      | none => none) = some r) ∨ (c.get = (!b) ∧ tmOps P gl cf ctx ops draw n0 l (i + 1) (putT (env.set d (.bool (.of (!b)))) o.dst (.tup [])) h rs k = some r) := by
     cases b with
     | true => exact brB_some he
     | false => exact (brB_some he).symm
    have setb : ∀ b, c.get = b → RL m h.os (env.set d (.bool (.of b))) a := fun b hb => by
     have := ha.set d (v := .bool (.of b)) (v' := .bool b) (by have := RV.bool (m := m) (os := h.os) (.of b); rwa [show (SB.of b).get = b by cases b <;> rfl] at this)
     have e : a.set d (.bool b) = a := by
      apply List.ext_getElem?
      intro q
      by_cases hq : d = q
      ·subst hq
       rw [hac, hb]
       rw [List.getElem?_set_self (List.getElem?_eq_some_iff.1 hac).1]
      ·rw [List.getElem?_set_ne hq]
     rwa [e] at this
    have unwb : ∀ b, Unw (wrOps ops.toList) env (env.set d (.bool b)) a a := fun b => ⟨by simp, fun q hq => ⟨List.getElem?_set_ne fun e => hq (by rw [← e]; exact hdw), rfl⟩⟩
    rcases key with ⟨h1, h2⟩ | ⟨h1, h2⟩
    ·exact run _ (setb b h1) (unwb _) (by rw [hwant, h1]; simp) h2
    ·have hw : wantedA ops o a = false := by rw [hwant, h1]; cases b <;> rfl
     obtain ⟨m', env', h', a', H', k1, k2, k3, k4, k5, k6, k7⟩ := ih hl (i + 1) _ h rs k r h2 (rsA := rsA) hR (putT_rl (setb _ h1) o.dst undef_rv) (fun hd => by
      obtain ⟨M, hM⟩ := hcl hd
      exact ⟨M, hM.step (l0 := []) (lr := []) hR hR (.refl hR) rfl fun _ _ _ _ => by simp⟩)
     refine ⟨m', env', h', a', H', k1, fun hd => ?_, fun hd => ?_, k4, k5, k6, ((unwb _).trans (putT_unw ho _ _ _ _)).trans k7⟩
     ·simp only [evalOps, hw]
      exact k2 hd
     ·obtain ⟨rs', e1, e2⟩ := k3 hd
      refine ⟨rs', ?_, e2⟩
      simp only [evalDraw, hw]
      exact e1
   ·rename_i hc
    have hac : ∀ x, a[d]? ≠ some (.bool x) := fun x hx => by
     have hlt := lt_of_get hx
     have hlt' : d < env.length := by rw [ha.1]; exact hlt
     have := ha.2 d hlt' hlt
     rw [List.getD_eq_getElem?_getD, List.getElem?_eq_getElem hlt'] at hc
     rw [List.getElem?_eq_getElem hlt] at hx
     simp only [Option.getD_some, Option.some.injEq] at hc hx
     rw [hc, hx] at this
     cases this
    have hy : yieldedA ops a j = none := by
     simp only [yieldedA, hp, Option.bind_some, hd]
    have hw : wantedA ops o a = false := by
     simp only [wantedA, Region.wanted, hj, hy]
     first | rfl | (cases b <;> rfl)
    obtain ⟨m', env', h', a', H', k1, k2, k3, k4, k5, k6, k7⟩ := ih hl (i + 1) _ h rs k r he (rsA := rsA) hR (putT_rl ha o.dst undef_rv) (fun hd => by
      obtain ⟨M, hM⟩ := hcl hd
      exact ⟨M, hM.step (l0 := []) (lr := []) hR hR (.refl hR) rfl fun _ _ _ _ => by simp⟩)
    refine ⟨m', env', h', a', H', k1, fun hd => ?_, fun hd => ?_, k4, k5, k6, (putT_unw ho _ _ _ _).trans k7⟩
    ·simp only [evalOps, hw]
     exact k2 hd
    ·obtain ⟨rs', e1, e2⟩ := k3 hd
     refine ⟨rs', ?_, e2⟩
     simp only [evalDraw, hw]
     exact e1
   ·cases he
end Go.TM
