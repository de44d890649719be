/- Calls: the limit of the abstract machine's evaluators; functions by what they come to. -/

import Derived.Test.YtgpligmjbecbjaaGreatDoorTmCode
set_option linter.unusedVariables false
set_option linter.unusedSimpArgs false
set_option linter.unusedSectionVars false
namespace Go.TM
open Go Go.AM
variable {P : Program} {S : Summ} [EqV]

open Classical in
noncomputable def evL (P : Program) (S : Summ) : Oracle := fun t args H => if h : ∃ r n, ∀ k, n ≤ k → ev P S k t args H = some r then some h.choose else none
theorem evL_of {t : Task} {args : List Value} {H : AH} {r : Value × AH} (h : ∃ n, ∀ k, n ≤ k → ev P S k t args H = some r) : evL P S t args H = some r := by
 obtain ⟨n, hn⟩ := h
 have hex : ∃ r n, ∀ k, n ≤ k → ev P S k t args H = some r := ⟨r, n, hn⟩
 unfold evL
 rw [dif_pos hex]
 obtain ⟨n', hn'⟩ := hex.choose_spec
 have e1 := hn (max n n') (by omega)
 have e2 := hn' (max n n') (by omega)
 rw [e1] at e2
 exact e2.symm
theorem evL_lim : Lim (evL P S) (ev P S) := fun t args H r h => by
 unfold evL at h
 split at h
 ·rename_i hex
  cases h; exact hex.choose_spec
 ·cases h
theorem evL_fn {f : Nat} {fn : Func} {c : Code} (hS : S f = none) (hf : P.funcs[f]? = some fn) (hc : fn.body = some c) {args : List Value} {H H' : AH} {e : AEx} {a' : Env} (hw : wCode P (evL P S) c (args ++ List.replicate (fn.ntmps - args.length) undef) H = some (e, a', H'))
  (he : ∀ id, e ≠ .exit id) {v : Value} (hv : aresults P fn a' H' = some v) : evL P S (.fn f) args H = some (v, H') := by
 obtain ⟨n, g⟩ := wCode_lim (evL_lim (P := P) (S := S)) _ _ _ _ hw
 refine evL_of ⟨n + 1, fun k hk => ?_⟩
 obtain ⟨k, rfl⟩ : ∃ i, k = i + 1 := ⟨k - 1, by omega⟩
 have e1 := g k (by omega)
 simp only [ev, Summ.ap, hS, hf, hc]
 rw [e1]
 cases e with
 | exit id => exact absurd rfl (he id)
 | normal => simp only [hv, Option.map_some]
 | ret => simp only [hv, Option.map_some]
theorem evL_yld {l : Nat} {args : List Value} {H : AH} {tmps : List Value} {ps : List Tmp} {asg body : Code} (hg : H.get l = .loop tmps ps asg body 0 none) (hlen : args.length = ps.length) {a1 : Env} {H1 : AH}
  (h1 : wCode P (evL P S) asg (putAll tmps (ps.zip args)) H = some (.normal, a1, H1)) {tmps' : List Value} {ps' : List Tmp} {asg' body' : Code} {pend' : Option Code} (hg1 : H1.get l = .loop tmps' ps' asg' body' 0 pend') {e : AEx} {a2 : Env} {H2 : AH}
  (h2 : wCode P (evL P S) body a1 (H1.set l (.loop tmps' ps' asg' body' 1 pend')) = some (e, a2, H2)) {tmps2 : List Value} {ps2 : List Tmp} {asg2 body2 : Code} {st2 : Nat} {pend2 : Option Code} (hg2 : H2.get l = .loop tmps2 ps2 asg2 body2 st2 pend2) :
  evL P S (.yld l) args H = some (match e with
   | .normal => (.bool true, H2.set l (.loop tmps2 ps2 asg2 body2 0 none))
   | .ret => (.bool false, H2.set l (.loop tmps2 ps2 asg2 body2 2 (some .ret)))
   | .exit id => (.bool false, H2.set l (.loop tmps2 ps2 asg2 body2 2 (some (.exit id))))) := by
 obtain ⟨n1, g1⟩ := wCode_lim (evL_lim (P := P) (S := S)) _ _ _ _ h1
 obtain ⟨n2, g2⟩ := wCode_lim (evL_lim (P := P) (S := S)) _ _ _ _ h2
 refine evL_of ⟨max n1 n2 + 1, fun k hk => ?_⟩
 obtain ⟨k, rfl⟩ : ∃ i, k = i + 1 := ⟨k - 1, by omega⟩
 have e1 := g1 k (by omega)
 have e2 := g2 k (by omega)
 simp only [ev, hg, hlen, if_true]
 rw [e1]
 simp only [hg1]
 rw [e2]
 simp only [hg2]
 cases e <;> rfl
theorem evL_sound (hP : POk2 P) (hSo : SummOK P S) : Sound P (evL P S) := by
 refine ⟨fun N t args H v H1 h hL => ?_, fun N f args H v H1 h hL => ?_, fun N l args H v H1 h hL => ?_⟩
 ·obtain ⟨n, g⟩ := evL_lim _ _ _ _ h
  exact (ev_sound hP hSo n).loops N t args H v H1 (g n (Nat.le_refl _)) hL
 ·obtain ⟨n, g⟩ := evL_lim _ _ _ _ h
  exact (ev_sound hP hSo n).fn N f args H v H1 (g n (Nat.le_refl _)) hL
 ·obtain ⟨n, g⟩ := evL_lim _ _ _ _ h
  exact (ev_sound hP hSo n).yld N l args H v H1 (g n (Nat.le_refl _)) hL

def ValR (G : Nat → Option (List Value)) (t : Ty) (x : t.den) (v : Value) : Prop := if t.isSt then ∃ arr : Array Value, v = .agg arr ∧ DC G t x arr.toList else DC G t x [v]
def ArgsR (G : Nat → Option (List Value)) : (ts : List Ty) → Tys ts → List Value → Prop
 | [], _, vs => vs = []
 | [t], x, vs => ∃ v, vs = [v] ∧ ValR G t x v
 | t :: u :: r, x, vs => ∃ v vs', vs = v :: vs' ∧ ValR G t x.1 v ∧ ArgsR G (u :: r) x.2 vs'
theorem ValR.rv {m : Mp} {os : List TObj} {t : Ty} {x : t.den} {v : Value} (h : ValR m.G t x v) : RV m os (valT t x) v := by
 unfold ValR at h
 unfold valT
 split at h
 ·rename_i ht
  rw [if_pos ht]; obtain ⟨arr, rfl, h⟩ := h; have := RV.of_DC (m := m) (os := os) rfl t x _ h; simpa using RV.ofRL_agg this
 ·rename_i ht
  rw [if_neg ht]; have := RV.of_DC (m := m) (os := os) rfl t x _ h; cases hc : cellsT t x with
  | nil => have := this.1; rw [hc] at this; simp at this
  | cons c r =>
   rw [hc] at this; obtain ⟨v', r', e, h1, -⟩ := this.cons_inv; cases e; exact h1
theorem ArgsR.rl {m : Mp} {os : List TObj} : ∀ (ts : List Ty) (x : Tys ts) (vs : List Value), ArgsR m.G ts x vs → RL m os (argsT ts x) vs
 | [], x, vs, h => by rw [show vs = [] from h]; exact .nil
 | [t], x, vs, h => by obtain ⟨v, rfl, h⟩ := h; exact .cons h.rv .nil
 | t :: u :: r, x, vs, h => by obtain ⟨v, vs', rfl, h1, h2⟩ := h; exact .cons h1.rv (ArgsR.rl (u :: r) x.2 vs' h2)
theorem ValR.mono {G G' : Nat → Option (List Value)} (hG : Gle G G') {t : Ty} {x : t.den} {v : Value} (h : ValR G t x v) : ValR G' t x v := by
 unfold ValR at *
 split
 ·rename_i ht
  rw [if_pos ht] at h; obtain ⟨arr, e, h⟩ := h; exact ⟨arr, e, h.mono hG⟩
 ·rename_i ht
  rw [if_neg ht] at h; exact h.mono hG
theorem decV_val {m : Mp} {h : THp} {T : Ty} {v : TV} {x : T.den} (hd : decV h T v = some x) (hc : ∀ u ∈ v.cells, Calm h.os u) {v' : Value} (hv : RV m h.os v v') : ValR m.G T x v' := by
 have gen : ∀ (T : Ty) (x : T.den), T.isSt = false → (match decC h T [v] with | some (x, []) => some x | _ => none) = some x → v.cells = [v] → ValR m.G T x v' := by
  intro T x ht hd hcv; split at hd
  ·rename_i y hy
   cases hd; obtain ⟨v1, v2, e1, e2, e3, -⟩ := decC_calm T [v] [v'] _ _ hy (fun u hu => hc u (by rw [hcv]; exact hu)) (.cons hv .nil); have := e3.nil_inv; subst this; rw [List.append_nil] at e1; unfold ValR; rw [if_neg (by rw [ht]; simp), e1]; exact e2
  ·cases hd
 unfold decV at hd
 split at hd
 ·rename_i a cs
  split at hd
  ·rename_i y hy
   cases hd; cases hv with
   | agg _ arr hl hh =>
   obtain ⟨v1, v2, e1, e2, e3, -⟩ := decC_calm a cs arr.toList _ _ hy (fun u hu => hc u hu) (RL.ofArr hl hh); have := e3.nil_inv; subst this; rw [List.append_nil] at e1; unfold ValR; rw [if_pos (show (Ty.st a).isSt = true from rfl)]; exact ⟨arr, rfl, by rw [e1]; exact e2⟩
  ·cases hd
 ·cases hd
 ·cases hd
 ·cases hd
 ·rename_i hna hnb hnc
  refine gen _ _ ?_ hd ?_
  ·cases T with
   | st a => simp_all
   | _ => rfl
  ·cases v with
   | agg cs => simp_all
   | _ => rfl
theorem decVs_args {m : Mp} {h : THp} : ∀ (ts : List Ty) (vs : List TV) (x : Tys ts) (vs' : List Value), decVs h ts vs = some x → (∀ u ∈ vs.flatMap (·.cells), Calm h.os u) → RL m h.os vs vs' → ArgsR m.G ts x vs'
 | [], [], x, vs', hd, hc, hr => hr.nil_inv
 | [], _ :: _, x, vs', hd, hc, hr => by cases hd
 | [t], [], x, vs', hd, hc, hr => by cases hd
 | [t], [v], x, vs', hd, hc, hr => by
  obtain ⟨v', r, rfl, h1, h2⟩ := hr.cons_inv; have := h2.nil_inv; subst this; exact ⟨v', rfl, decV_val hd (fun u hu => hc u (by simpa using hu)) h1⟩
 | [t], _ :: _ :: _, x, vs', hd, hc, hr => by cases hd
 | t :: u :: r, [], x, vs', hd, hc, hr => by cases hd
 | t :: u :: r, v :: vs, x, vs', hd, hc, hr => by
  obtain ⟨v', r', rfl, h1, h2⟩ := hr.cons_inv; simp only [decVs] at hd; split at hd
  ·rename_i x1 hx1
   split at hd
   ·rename_i x2 hx2
    cases hd; simp only [List.flatMap_cons, List.mem_append] at hc; exact ⟨v', r', rfl, decV_val hx1 (fun u hu => hc u (.inl hu)) h1, decVs_args (u :: r) vs x2 r' hx2 (fun u hu => hc u (.inr hu)) h2⟩
   ·cases hd
  ·cases hd

def ResR1 (G : Nat → Option (List Value)) (H : AH) (ow : Ow) : (t : Ty) → t.den → Value → Rk → Prop
 | .slice e, l, v, k => match ow with
  | .row tid => ∃ r, k = .of r ∧ RowV' G H e l tid r v
  | .mat tid nt => MatV G H e l tid nt k v
  | .no => k = .no ∧ ValR G (.slice e) l v
  | .cp => k = .no ∧ ValR (fun _ => none) (.slice e) l v
 | t, x, v, k => k = .no ∧ ValR G t x v
def ResR (G : Nat → Option (List Value)) (H : AH) : (ts : List Ty) → List Ow → Tys ts → List Value → List Rk → Prop
 | [], _, _, vs, rs => vs = [] ∧ rs = []
 | [t], ow, y, vs, rs => ∃ v r, vs = [v] ∧ rs = [r] ∧ ResR1 G H (ow.headD .no) t y v r
 | t :: u :: l, ow, y, vs, rs => ∃ v vs' r rs', vs = v :: vs' ∧ rs = r :: rs' ∧ ResR1 G H (ow.headD .no) t y.1 v r ∧ (∀ b, r.has b → ∀ k ∈ rs', ¬ k.has b) ∧ ResR G H (u :: l) ow.tail y.2 vs' rs'
def GrOK (G : Nat → Option (List Value)) (H : AH) : Prop := ∀ b c, G b = some c → b < H.next ∧ ∃ own sz ty, H.get b = .cells c own sz ty
def SpecOK (cfA : Oracle) (f : Nat) (sp : FSpec) : Prop := ∀ (x : Tys sp.args) (y : Tys sp.res), sp.fn x = some y → ∀ (G : Nat → Option (List Value)) (H : AH) (vals : List Value), GrOK G H → ArgsR G sp.args x vals →
 ∃ vs H1 G1 rs, cfA (.fn f) vals H = some (tupleOf vs, H1) ∧ H.next ≤ H1.next ∧ (∀ b, b < H.next → H1.get b = H.get b) ∧ Gle G G1 ∧ (∀ b c, G1 b = some c → G b = some c ∨ H.next ≤ b) ∧ GrOK G1 H1 ∧
  ResR G1 H1 sp.res sp.own y vs rs ∧ ∀ k ∈ rs, ∀ b, k.has b → H.next ≤ b
def EffOK (cfA : Oracle) (f : Nat) (ef : List TV → THp → Res) : Prop := ∀ args h c v h', ef args h = some (c, v, h') → cOK c → ∀ m H vals, HR m h.os H → RL m h.os args vals → OpOK m h H (cfA (.fn f) vals H) v h'

theorem putRes1_sound {m : Mp} {h : THp} {H : AH} (hR : HR m h.os H) (ow : Ow) : ∀ (t : Ty) (x : t.den) (v : Value) (r : Rk), ResR1 m.G H ow t x v r → (∀ b, r.has b → ∀ i : Key, m.ρ i ≠ some b) →
  ∃ m', HR m' (putRes1 h ow t x).2.os H ∧ MapLe m h.os m' (putRes1 h ow t x).2.os ∧ m'.G = m.G ∧ (putRes1 h ow t x).2.dirty = h.dirty ∧ Keep h.os (putRes1 h ow t x).2.os ∧ (∀ i b, m'.ρ i = some b → m.ρ i = some b ∨ r.has b) ∧ RV m' (putRes1 h ow t x).2.os (putRes1 h ow t x).1 v ∧ ∀ (i : Key) b, i.top < h.os.length → m'.ρ i = some b → m.ρ i = some b := by
 intro t x v r hr hu
 have plain : ∀ (t : Ty) (x : t.den), ValR m.G t x v → ∃ m', HR m' h.os H ∧ MapLe m h.os m' h.os ∧ m'.G = m.G ∧ h.dirty = h.dirty ∧ Keep h.os h.os ∧ (∀ i b, m'.ρ i = some b → m.ρ i = some b ∨ r.has b) ∧ RV m' h.os (valT t x) v ∧ ∀ (i : Key) b, i.top < h.os.length → m'.ρ i = some b → m.ρ i = some b :=
  fun t x hv => ⟨m, hR, .refl _ _ H hR, rfl, rfl, .refl _, fun i b hb => .inl hb, hv.rv, fun _ _ _ hb => hb⟩
 cases t with
 | slice e =>
  cases ow with
  | no => exact plain (.slice e) x hr.2
  | cp => exact plain (.slice e) x (hr.2.mono fun b c q => by cases q)
  | row tid =>
   obtain ⟨r0, rfl, hr⟩ := hr; obtain ⟨k1, k2, k3⟩ := hr_row hR hr fun b hb => hu b (.inl hb)
   refine ⟨_, k1, k2, rfl, rfl, keep_push _ _, fun i b hb => ?_, k3, fun i b hi hb => ?_⟩
   ·by_cases ei : i = h.os.length
    ·rw [ei, updM_self] at hb; exact .inr (.inl hb)
    ·rw [updM_ne _ _ ei] at hb; exact .inl hb
   ·rwa [updM_ne _ _ fun e => by subst e; exact Nat.lt_irrefl _ hi] at hb
  | mat tid nt =>
   obtain ⟨k1, k2, k3⟩ := hr_mat hR (show MatV m.G H e x tid nt r v from hr) hu; refine ⟨_, k1, k2, rfl, rfl, keep_push _ _, fun i b hb => ?_, k3, fun i b hi hb => ?_⟩
   ·rcases updK_src m hb with ⟨_, q⟩ | ⟨j, _, q⟩ | ⟨_, q⟩
    ·exact .inr (.inl q)
    ·exact .inr (.inr ⟨j, q⟩)
    ·exact .inl q
   ·rwa [updK_ne _ _ _ (by omega)] at hb
 | int k => exact plain (.int k) x hr.2
 | bool => exact plain .bool x hr.2
 | str => exact plain .str x hr.2
 | unit => exact plain .unit x hr.2
 | pair a b => exact plain (.pair a b) x hr.2
 | st a => exact plain (.st a) x hr.2
theorem putRes_sound {H : AH} : ∀ (ts : List Ty) (ow : List Ow) (y : Tys ts) (vs : List Value) (rs : List Rk) {m : Mp} {h : THp}, HR m h.os H → ResR m.G H ts ow y vs rs → (∀ k ∈ rs, ∀ b, k.has b → ∀ i : Key, m.ρ i ≠ some b) →
  ∃ m', HR m' (putRes h ts ow y).2.os H ∧ MapLe m h.os m' (putRes h ts ow y).2.os ∧ m'.G = m.G ∧ (putRes h ts ow y).2.dirty = h.dirty ∧ Keep h.os (putRes h ts ow y).2.os ∧ (∀ i b, m'.ρ i = some b → m.ρ i = some b ∨ ∃ k ∈ rs, k.has b) ∧ RL m' (putRes h ts ow y).2.os (putRes h ts ow y).1 vs ∧ ∀ (i : Key) b, i.top < h.os.length → m'.ρ i = some b → m.ρ i = some b
 | [], ow, y, vs, rs, m, h, hR, hr, hu => by
  obtain ⟨rfl, rfl⟩ := hr; exact ⟨m, hR, .refl _ _ H hR, rfl, rfl, .refl _, fun i b hb => .inl hb, .nil, fun _ _ _ hb => hb⟩
 | [t], ow, y, vs, rs, m, h, hR, hr, hu => by
  obtain ⟨v, r, rfl, rfl, hr⟩ := hr; obtain ⟨m', k1, k2, k3, k4, k5, k6, k7, k8⟩ := putRes1_sound hR (ow.headD .no) t y v r hr fun b hb => hu r (List.mem_cons_self ..) b hb
  exact ⟨m', k1, k2, k3, k4, k5, fun i b hb => (k6 i b hb).imp id fun e => ⟨r, List.mem_cons_self .., e⟩, .cons k7 .nil, k8⟩
 | t :: u :: l, ow, y, vs, rs, m, h, hR, hr, hu => by
  obtain ⟨v, vs', r, rs', rfl, rfl, hr, hd, hs⟩ := hr; obtain ⟨m1, k1, k2, k3, k4, k5, k6, k7, k8⟩ := putRes1_sound hR (ow.headD .no) t y.1 v r hr fun b hb => hu r (List.mem_cons_self ..) b hb
  obtain ⟨m2, q1, q2, q3, q4, q5, q6, q7, q8⟩ := putRes_sound (u :: l) ow.tail y.2 vs' rs' k1 (by rw [k3]; exact hs) fun k hk b hb i hi => by
   rcases k6 i b hi with e | e
   ·exact hu k (List.mem_cons_of_mem _ hk) b hb i e
   ·exact hd b e k hk hb
  refine ⟨m2, q1, k2.trans q2, q3.trans k3, q4.trans k4, k5.trans q5, fun i b hb => ?_, .cons (k7.mono q2) q7, fun i b hi hb => k8 i b hi (q8 i b (Nat.lt_of_lt_of_le hi k5.len) hb)⟩; rcases q6 i b hb with e | e
  ·rcases k6 i b e with e | e
   ·exact .inl e
   ·exact .inr ⟨r, List.mem_cons_self .., e⟩
  ·obtain ⟨k, q1, q2⟩ := e; exact .inr ⟨k, List.mem_cons_of_mem _ q1, q2⟩

theorem DC.flat {G G' : Nat → Option (List Value)} : ∀ (t : Ty), t.flat = true → ∀ (x : t.den) (cs : List Value), DC G t x cs → DC G' t x cs := by
 intro t
 induction t with
 | slice t _ => intro h; cases h
 | pair a b iha ihb =>
  intro h x cs hx; simp only [Ty.flat, Bool.and_eq_true] at h; obtain ⟨c1, c2, e, h1, h2⟩ := hx; exact ⟨c1, c2, e, iha h.1 _ _ h1, ihb h.2 _ _ h2⟩
 | st a ih => intro h x cs hx; exact ih h x cs hx
 | _ => intro _ x cs hx; exact hx
theorem ValR.flat {G G' : Nat → Option (List Value)} {t : Ty} (ht : t.flat = true) {x : t.den} {v : Value} (h : ValR G t x v) : ValR G' t x v := by
 unfold ValR at *
 split
 ·rename_i hs
  rw [if_pos hs] at h; obtain ⟨arr, e, h⟩ := h; exact ⟨arr, e, DC.flat t ht _ _ h⟩
 ·rename_i hs
  rw [if_neg hs] at h; exact DC.flat t ht _ _ h
theorem Rows.flat {G G' : Nat → Option (List Value)} {t : Ty} (ht : t.flat = true) {sz : Nat} {c : List Value} {l : List t.den} (h : Rows (DC G t) sz c l) : Rows (DC G' t) sz c l := h.mono fun x cs => DC.flat t ht x cs
theorem NC.flat {G G' : Nat → Option (List Value)} {k : Rk} {n : Nat} {H : AH} {j0 : Nat} {nt : List Nat} {free : Bool} : ∀ (t : Ty), t.flat2 = true → ∀ (pos : Nat) (x : t.den) (cs : List Value), NC (matM G k n) H 0 j0 nt free t pos x cs → NC (matM G' k n) H 0 j0 nt free t pos x cs := by
 intro t
 induction t with
 | int k => intro _ pos x cs h; exact h
 | bool => intro _ pos x cs h; exact h
 | str => intro _ pos x cs h; exact h
 | slice t ih =>
  intro ht pos x cs h; obtain ⟨v, h1, h2⟩ := h; refine ⟨v, h1, h2.imp id fun q => ?_⟩; rcases q with q | ⟨b, c, h1, h2, h3, h4, h5⟩
  ·exact .inl q
  ·exact .inr ⟨b, c, h1, h2, h3, h4, Rows.flat ht h5⟩
 | unit => intro _ pos x cs h; exact h
 | pair a b iha ihb =>
  intro ht pos x cs h; simp only [Ty.flat2, Bool.and_eq_true] at ht; obtain ⟨c1, c2, h1, h2, h3⟩ := h; exact ⟨c1, c2, h1, iha ht.1 _ _ _ h2, ihb ht.2 _ _ _ h3⟩
 | st a ih => intro ht pos x cs h; exact ih ht _ _ _ h
theorem ResR1.flat {G G' : Nat → Option (List Value)} {H : AH} {ow : Ow} {t : Ty} (ht : quiet1 ow t = true) {x : t.den} {v : Value} {r : Rk} (hn : ∀ b, r.has b → G' b = none) (h : ResR1 G H ow t x v r) : ResR1 G' H ow t x v r := by
 cases t with
 | slice e =>
  cases ow with
  | no => cases ht
  | cp => exact h
  | row tid =>
   obtain ⟨r0, rfl, h⟩ := h; refine ⟨r0, rfl, h.imp id fun ⟨b, c, h1, h2, h3, h4, h5, h6, h7⟩ => ⟨b, c, h1, h2, h3, hn b (.inl h1), h5, h6, Rows.flat ht h7⟩⟩
  | mat tid nt =>
   obtain ⟨⟨q1, q2⟩, h2, h3, h4, h5⟩ := (show MatV G H e x tid nt r v from h); refine ⟨⟨q1, q2.imp id fun ⟨b, c, a1, a2, a3, a4, a5⟩ => ⟨b, c, a1, a2, a3, a4, fun i hi => NC.flat e ht _ _ _ (a5 i hi)⟩⟩, h2, fun b hb => ⟨(h3 b hb).1, hn b hb⟩, h4, h5⟩
 | int k => exact ⟨h.1, h.2.flat rfl⟩
 | bool => exact ⟨h.1, h.2.flat rfl⟩
 | str => exact ⟨h.1, h.2.flat rfl⟩
 | unit => exact ⟨h.1, h.2.flat rfl⟩
 | pair a b => exact ⟨h.1, h.2.flat (by cases ow <;> exact ht)⟩
 | st a => exact ⟨h.1, h.2.flat (by cases ow <;> exact ht)⟩
theorem ResR.flat {G G' : Nat → Option (List Value)} {H : AH} : ∀ (ts : List Ty) (ow : List Ow) (y : Tys ts) (vs : List Value) (rs : List Rk), quietL ts ow = true → (∀ k ∈ rs, ∀ b, k.has b → G' b = none) → ResR G H ts ow y vs rs → ResR G' H ts ow y vs rs
 | [], ow, y, vs, rs, _, _, h => h
 | [t], ow, y, vs, rs, ht, hn, h => by
  obtain ⟨v, r, rfl, rfl, h⟩ := h; simp only [quietL, Bool.and_true] at ht; exact ⟨v, r, rfl, rfl, h.flat ht fun b hb => hn r (List.mem_cons_self ..) b hb⟩
 | t :: u :: l, ow, y, vs, rs, ht, hn, h => by
  obtain ⟨v, vs', r, rs', rfl, rfl, h1, h2, h3⟩ := h; rw [quietL, Bool.and_eq_true] at ht; exact ⟨v, vs', r, rs', rfl, rfl, h1.flat ht.1 fun b hb => hn r (List.mem_cons_self ..) b hb, h2, ResR.flat (u :: l) ow.tail y.2 vs' rs' ht.2 (fun k hk => hn k (List.mem_cons_of_mem _ hk)) h3⟩
theorem tup_rv {m : Mp} {os : List TObj} {vs : List TV} {vs' : List Value} (h : RL m os vs vs') : RV m os (tupT vs) (tupleOf vs') := by
 cases vs with
 | nil => have := h.nil_inv; subst this; exact .tup _ _ rfl fun i a => by simp at a
 | cons v r =>
  obtain ⟨v', r', rfl, h1, h2⟩ := h.cons_inv; cases r with
  | nil =>
   have := h2.nil_inv; subst this; exact h1
  | cons w r =>
   obtain ⟨w', r2, rfl, h3, h4⟩ := h2.cons_inv; exact .tup _ _ (by simpa using h.1) fun i a b => by simpa using h.2 i a (by simpa using b)

theorem ownIds_app : ∀ (a b : List TV), ownIds (a ++ b) = ownIds a ++ ownIds b := by
 intro a b
 induction a with
 | nil => rfl
 | cons x r ih => cases x <;> simp only [List.cons_append, ownIds, ih]
theorem unL_own {h : THp} {args : List TV} : ∀ id ∈ ownIds ((args.map (unN h)).flatMap (·.cells)), id ∈ ownIds (args.flatMap (·.cells)) := by
 induction args with
 | nil => intro id hid; exact hid
 | cons v r ih =>
  intro id hid; simp only [List.map_cons, List.flatMap_cons, ownIds_app, List.mem_append] at hid ⊢; exact hid.imp (unN_own id) (ih id)
theorem unL_rl {m m' : Mp} {h h' : THp} (hm : MapLe m h.os m' h'.os) {ids : List Nat} (h9 : ∀ id, id ∈ ids → ∀ i pos ver ct v', RV m h.os (.nest id i pos ver ct) v' → RV m' h'.os (un1 h (.nest id i pos ver ct)) v') :
  ∀ (args : List TV) (vals : List Value), (∀ id ∈ ownIds (args.flatMap (·.cells)), id ∈ ids) → RL m h.os args vals → RL m' h'.os (args.map (unN h)) vals := by
 intro args
 induction args with
 | nil => intro vals _ hr; have := hr.nil_inv; subst this; exact .nil
 | cons v r ih =>
  intro vals hi hr; obtain ⟨v', r', rfl, h1, h2⟩ := hr.cons_inv; simp only [List.flatMap_cons, ownIds_app, List.mem_append] at hi; exact .cons (unN_rv hm h9 (fun id hid => hi id (.inl hid)) h1) (ih r' (fun id hid => hi id (.inr hid)) h2)
theorem tspec_sound {cfA : Oracle} {f : Nat} {sp : FSpec} (hsp : SpecOK cfA f sp) {R : Type} {args : List TV} {h : THp} {k : TV → THp → Option R} {r : R} (he : tspec sp args h k = some r) {m : Mp} {H : AH} {vals : List Value} (hR : HR m h.os H) (ha : RL m h.os args vals) :
  Step m h H (cfA (.fn f) vals H) fun tv h' => k tv h' = some r := by
 unfold tspec at he
 split at he
 ·rename_i hF hA hAe
  split at he
  ·rename_i x hx
   split at he
   ·rename_i h' hh'
    obtain ⟨y, hy, hk⟩ := Option.bind_eq_some_iff.1 he; obtain ⟨mA, a1, a2, a3, a4, a5, a6, a7, a8, a9⟩ := freezeA_sound (m := m) _ hR hAe; have hargs := decVs_args sp.args (args.map (unN h)) x vals hx (calm_of _ fun id hid => a4 id (unL_own id hid)) (unL_rl a2 a9 args vals (fun id hid => hid) ha); obtain ⟨vs, H1, G1, rs, s1, s2, s3, s4, s5, s6, s7, s8⟩ := hsp x y hy mA.G H vals (fun b c hb => a1.gr b c hb) hargs; cases hfl : quietL sp.res sp.own with
    | true =>
     rw [hfl, if_pos rfl] at hh'; cases hh'; have hnone : ∀ k ∈ rs, ∀ b, k.has b → m.G b = none := fun k hk b hb => by
      cases e : m.G b with
      | none => rfl
      | some c => have := (hR.gr b c e).1; have := s8 k hk b hb; omega
     have z2 := ResR.flat (G' := m.G) sp.res sp.own y vs rs hfl hnone s7; have hR1 : HR m h.os H1 := ⟨hR.inj, fun i b hb => ⟨Nat.lt_of_lt_of_le (hR.lt i b hb).1 s2, (hR.lt i b hb).2⟩, hR.disj, fun b c hb => by
      obtain ⟨q1, own, sz, ty, q2⟩ := hR.gr b c hb; exact ⟨Nat.lt_of_lt_of_le q1 s2, own, sz, ty, by rw [s3 b q1]; exact q2⟩, fun i o ho => (hR.obj i o ho).mono (.refl _ _ H hR) ⟨rfl, rfl⟩ (fun _ _ => rfl) fun k b _ hb => s3 b (hR.lt k b hb).1⟩
     obtain ⟨m2, p1, p2, p3, p4, p5, p6, p7, p8⟩ := putRes_sound sp.res sp.own y vs rs (m := m) (h := h) hR1 z2 fun k hk b hb i hi => by
      have := s8 k hk b hb; have := (hR.lt i b hi).1; omega
     refine ⟨m2, _, _, _, H1, hk, s1, p1, ⟨p5, p2, s2, fun b hb _ => s3 b hb, fun b c hb => .inl (by rw [← p3]; exact hb), ⟨[], p4, fun _ b c hb => (by rw [← p3]; exact hb), fun i b hb _ => s3 b (hR.lt i b hb).1, fun i b hb => ?_⟩, fun l hl i b hi _ hb => p8 i b hi hb⟩, tup_rv p7⟩; rcases p6 i b hb with e | ⟨k, e1, e2⟩
     ·exact .inl e
     ·exact .inr (.inr (s8 k e1 b e2))
    | false =>
     rw [hfl] at hh'; simp only [Bool.false_eq_true, if_false] at hh'; split at hh'
     case h_2 => cases hh'
     rename_i hF1; cases hh'; obtain ⟨b1, b2⟩ := freeze_A _ hF1; rw [hAe] at b1; cases b1; obtain ⟨kd, hkd, -⟩ := a5; have disj1 : ∀ i b, mA.ρ i = some b → G1 b = none := fun i b hb => by
      cases e : G1 b with
      | none => rfl
      | some c =>
       rcases s5 b c e with q | q
       ·rw [a1.disj i b hb] at q; cases q
       ·have := (a1.lt i b hb).1; omega
     have hmk := mats_keep (m := mA) (m' := ⟨mA.ρ, G1, mA.μ, mA.ν⟩) (os := hA.os) (os' := hA.os) fun i o x h1 h2 => .inl ⟨h1, rfl, rfl, rfl⟩
     have hm1 : MapLe mA hA.os ⟨mA.ρ, G1, mA.μ, mA.ν⟩ hA.os := ⟨s4, (Keep.refl _).kw, fun _ _ h _ => h, fun _ _ _ _ _ _ _ _ _ _ _ _ _ _ _ _ _ => rfl, fun _ _ _ _ _ _ _ _ _ _ _ => rfl, fun i w t l tid t' l' h1 h2 => (by rw [h1] at h2; cases h2), hmk.1, hmk.2.1, hmk.2.2⟩; have hR1 : HR ⟨mA.ρ, G1, mA.μ, mA.ν⟩ hA.os H1 := ⟨a1.inj, fun i b hb => ⟨Nat.lt_of_lt_of_le (a1.lt i b hb).1 s2, (a1.lt i b hb).2⟩, disj1, s6, fun i o ho => (a1.obj i o ho).mono hm1 ⟨rfl, rfl⟩ (fun _ _ => rfl) fun k b _ hb => s3 b (a1.lt k b hb).1⟩
     obtain ⟨m2, p1, p2, p3, p4, p5, p6, p7, p8⟩ := putRes_sound sp.res sp.own y vs rs (m := ⟨mA.ρ, G1, mA.μ, mA.ν⟩) (h := hA.mark) hR1 s7 fun k hk b hb i hi => by
      have := s8 k hk b hb; have := (a1.lt i b hi).1; omega
     refine ⟨m2, _, _, _, H1, hk, s1, p1, ⟨b2.trans p5, a2.trans (hm1.trans p2), s2, fun b hb _ => s3 b hb, fun b c hb => ?_, ⟨gmark :: List.replicate kd gmark, by rw [p4]; show gmark :: hA.dirty = _; rw [hkd]; rfl, fun hg => absurd (List.mem_cons_self ..) hg, fun i b hb _ => s3 b (hR.lt i b hb).1, fun i b hb => ?_⟩, fun l hl i b hi _ hb => ?_⟩, tup_rv p7⟩
     ·rw [p3] at hb
      rcases s5 b c hb with q | q
      ·exact (a8 b c q).imp id .inl
      ·exact .inr (.inr q)
     ·rcases p6 i b hb with e | ⟨k, e1, e2⟩
      ·exact .inl (a3 i b e)
      ·exact .inr (.inr (s8 k e1 b e2))
     ·exact a3 i b (p8 i b (by show i.top < hA.os.length; rw [a7]; exact hi) hb)
   ·cases he
  ·cases he
 ·cases he

theorem resT1_sound {m : Mp} {h : THp} {H : AH} (hR : HR m h.os H) {env : List TV} {a : Env} (ha : RL m h.os env a) {r : ResultVar} {v : TV} (hr : resT1 env P h r = some v) : ∃ v', aresult1 P a H r = some v' ∧ RV m h.os v v' := by
 cases r with
 | tmp t => cases hr; exact ⟨_, rfl, ha.getD t⟩
 | cell x t =>
  simp only [resT1] at hr; split at hr
  ·rename_i v1 h1 hl
   cases hr; obtain ⟨-, -, v', e2, e3⟩ := tload_sound hR (ha.getD x) hl; exact ⟨v', e2, e3⟩
  ·cases hr
theorem resT_sound {m : Mp} {h : THp} {H : AH} (hR : HR m h.os H) {env : List TV} {a : Env} (ha : RL m h.os env a) : ∀ (l : List ResultVar) (vs : List TV), resT env P h l = some vs → ∃ vs', l.mapM (aresult1 P a H) = some vs' ∧ RL m h.os vs vs' := by
 intro l
 induction l with
 | nil => intro vs h; cases h; exact ⟨[], rfl, .nil⟩
 | cons r l ih =>
  intro vs hv; simp only [resT] at hv; split at hv
  ·rename_i v hv1
   split at hv
   ·rename_i vs1 hv2
    cases hv; obtain ⟨v', e1, e2⟩ := resT1_sound hR ha hv1; obtain ⟨vs', e3, e4⟩ := ih vs1 hv2; exact ⟨v' :: vs', by rw [List.mapM_cons, e1, e3]; rfl, .cons e2 e4⟩
   ·cases hv
  ·cases hv
theorem tupT_rv {m : Mp} {os : List TObj} {vs : List TV} {vs' : List Value} (h : RL m os vs vs') : RV m os (tupT vs) (tupleOf vs') := tup_rv h
theorem putAllT_rl {m : Mp} {os : List TObj} : ∀ (ps : List Nat) (args : List TV) (vals : List Value) (env : List TV) (a : Env), RL m os args vals → RL m os env a → RL m os (putAllT env (ps.zip args)) (putAll a (ps.zip vals)) := by
 intro ps
 induction ps with
 | nil => intro args vals env a _ h; exact h
 | cons p r ih =>
  intro args vals env a hv h; cases args with
  | nil => have := hv.nil_inv; subst this; exact h
  | cons c s =>
   obtain ⟨v', r', rfl, h1, h2⟩ := hv.cons_inv; exact ih s r' _ _ h2 (h.set p h1)

section
variable {gl : Nat → Option (List TV)} {ann : List Nat → Nat → Option (List Sh)} {it : It} {specs : Nat → Option FSpec} {effs : Nat → Option (List TV → THp → Res)}
theorem tmBody_sound (hE : ∀ v, EqV.eq v v = true) (hgl : GlOK gl) (hit : ItOK it) {cf : Oc} (hcf : OcOK P cf (evL P S)) {R : Type} {ctx : List Nat} {f : Nat} {fn : Func} {c : Code} (hSf : S f = none) (hf : P.funcs[f]? = some fn) (hc : fn.body = some c) {args : List TV} {h : THp} {k : List TV → THp → Option R} {r : R}
  (he : tmBody P gl ann it cf R ctx fn c args h k = some r) {m : Mp} {H : AH} {vals : List Value} (hR : HR m h.os H) (ha : RL m h.os args vals) :
  ∃ m' vs h' vs' H', k vs h' = some r ∧ evL P S (.fn f) vals H = some (tupleOf vs', H') ∧ HR m' h'.os H' ∧ Ext m h H m' h' H' ∧ RL m' h'.os vs vs' := by
 unfold tmBody at he
 have hlen : args.length = vals.length := ha.1
 have ha0 : RL m h.os (args ++ List.replicate (fn.ntmps - args.length) .junk) (vals ++ List.replicate (fn.ntmps - vals.length) undef) := by
  refine ha.append ⟨by simp [hlen], fun i p q => ?_⟩; simp only [List.getElem_replicate]; exact .junk _
 obtain ⟨m', env', h', a', H', e, k1, k2, k3, k4, k5, k6⟩ := code_ok hE hgl hit hcf c ctx R 0 _ h _ r he m _ H hR ha0
 have fin : (∀ id, e ≠ .exit id) → (match resT env' P h' fn.results.toList with | some vs => k vs h' | none => none) = some r → ∃ m' vs h' vs' H', k vs h' = some r ∧ evL P S (.fn f) vals H = some (tupleOf vs', H') ∧ HR m' h'.os H' ∧ Ext m h H m' h' H' ∧ RL m' h'.os vs vs' := fun hne hk => by
  split at hk
  ·rename_i vs hvs
   obtain ⟨vs', e1, e2⟩ := resT_sound k3 k4 _ _ hvs; exact ⟨m', vs, h', vs', H', hk, evL_fn hSf hf hc k2 hne (by simp only [aresults, e1, Option.map_some]), k3, k5, e2⟩
  ·cases hk
 cases e with
 | exit id => cases k1
 | normal => exact fin (by simp) k1
 | ret => exact fin (by simp) k1

theorem tev_ok (hSs : ∀ g, specs g = none → effs g = none → S g = none) (hE : ∀ v, EqV.eq v v = true) (hgl : GlOK gl) (hit : ItOK it) (hsp : ∀ f sp, specs f = some sp → SpecOK (evL P S) f sp) (hef : ∀ f ef, effs f = some ef → EffOK (evL P S) f ef) : ∀ n, OcOK P (tev P gl ann it specs effs n) (evL P S) := by
 intro n
 induction n with
 | zero => exact ⟨fun R ctx f args h k r he => by simp [tev] at he, fun R ctx id args h k r he => by simp [tev] at he⟩
 | succ n ih =>
  refine ⟨fun R ctx f args h k r he m H vals hR ha => ?_, fun R ctx id args h k r he m H vals b hR ha hb => ?_⟩
  ·simp only [tev] at he
   split at he
   ·rename_i sp hs
    exact tspec_sound (hsp f sp hs) he hR ha
   ·rename_i hs0
    split at he
    ·rename_i ef hef'
     split at he
     ·rename_i cc v h' hv
      obtain ⟨h1, h2⟩ := brs_some he; obtain ⟨m', v', H', q1, q2, q3, q4⟩ := hef f ef hef' args h cc v h' hv h1 m H vals hR ha; exact ⟨m', v, h', v', H', h2, q1, q2, q3, q4⟩
     ·cases he
    ·rename_i hs1
     split at he
     ·rename_i fn hf
      split at he
      ·rename_i c hc
       obtain ⟨m', vs, h', vs', H', k1, k2, k3, k4, k5⟩ := tmBody_sound hE hgl hit ih (hSs f hs0 hs1) hf hc he hR ha; exact ⟨m', _, h', _, H', k1, k2, k3, k4, tupT_rv k5⟩
      ·cases he
     ·cases he
  ·simp only [tev] at he
   split at he
   ·rename_i tmps ps asg body ctx' hat
    have ho := at_some hat (by simp); split at he
    ·rename_i hlen
     obtain ⟨b', tm', p1, p2, p3⟩ := hR.obj _ _ ho; rw [hb] at p1; cases p1; have ha0 : RL m h.os (putAllT tmps (ps.zip args)) (putAll tm' (ps.zip vals)) := putAllT_rl ps args vals _ _ ha p3; obtain ⟨m1, env1, h1, a1, H1, e, k1, k2, k3, k4, k5, k6⟩ := code_ok hE hgl hit ih asg ctx' R 0 _ h _ r he m _ H hR ha0; cases e with
     | exit id => cases k1
     | ret => cases k1
     | normal =>
      simp only at k1; split at k1
      ·rename_i tmps1 ps1 asg1 body1 ctx1 hat1
       have ho1 := at_some hat1 (by simp); obtain ⟨o1, w1, w2⟩ := k5.keep id _ ho; rw [ho1] at w1; cases w1; obtain ⟨_, _, w2⟩ := w2; cases w2; have hρ1 : m1.ρ id = some b := by rw [k5.le.frm id _ _ _ _ _ _ _ _ _ _ _ _ _ _ ho ho1]; exact hb
       obtain ⟨b1, tm1, r1, r2, r3⟩ := k3.obj _ _ ho1; rw [hρ1] at r1; cases r1; obtain ⟨q1, q2⟩ := set_ext (o' := .frame tmps ps asg body 1 none ctx') (ob := .loop tm1 ps asg body 1 none) k3 hρ1 ho1 ⟨1, none, rfl⟩ (fun _ _ e => by cases e) rfl fun hm => ⟨b, tm1, hρ1, by rw [AH.get_set, if_pos rfl], r3.mono hm⟩
       obtain ⟨m2, env2, h2, a2, H2, e2, g1, g2, g3, g4, g5, g6⟩ := code_ok hE hgl hit ih body ctx' R 0 env1 _ _ r k1 m1 a1 _ q1 (k4.mono q2.le); split at g1
       ·rename_i tmps2 ps2 asg2 body2 st2 pend2 ctx2 hat2
        have ho2 := at_some hat2 (by simp); have hρ2 : m2.ρ id = some b := by
         have hnew : (h1.set id (.frame tmps ps asg body 1 none ctx')).os[id]? = some (.frame tmps ps asg body 1 none ctx') := by simp [THp.set, lt_of_get ho1]
         rw [g5.le.frm id _ _ _ _ _ _ _ _ _ _ _ _ _ _ hnew ho2]; exact hρ1
        obtain ⟨b2, tm2, t1, t2, t3⟩ := g3.obj _ _ ho2; rw [hρ2] at t1; cases t1; have e02 := (k5.trans hR q2).trans hR g5; have hy := evL_yld (P := P) (S := S) p2 (by rw [← hlen, ← ha.1]) k2 r2 g2 t2; have fin : ∀ (st' : Nat) (pend' : Option Code) (bb : SB), k (.bool bb) (h2.set id (.frame tmps2 ps2 asg2 body2 st' pend' ctx2)) = some r → evL P S (.yld b) vals H = some (.bool bb.get, H2.set b (.loop tm2 ps2 asg2 body2 st' pend')) →
          Step m h H (evL P S (.yld b) vals H) fun tv h' => k tv h' = some r := fun st' pend' bb hk hv => by
         obtain ⟨z1, z2⟩ := set_ext (o' := .frame tmps2 ps2 asg2 body2 st' pend' ctx2) (ob := .loop tm2 ps2 asg2 body2 st' pend') g3 hρ2 ho2 ⟨st', pend', rfl⟩ (fun _ _ e => by cases e) rfl fun hm => ⟨b, tm2, hρ2, by rw [AH.get_set, if_pos rfl], t3.mono hm⟩
         exact ⟨m2, _, _, _, _, hk, hv, z1, e02.trans hR z2, .bool bb⟩
        cases e2 with
        | normal => exact fin 0 none .t g1 hy
        | ret => exact fin 2 (some .ret) .f g1 hy
        | exit id' => exact fin 2 (some (.exit id')) .f g1 hy
       ·cases g1
      ·cases k1
    ·cases he
   ·cases he

theorem decV_slice {h : THp} {e : Ty} {u : TV} (hu : ∀ cs, u ≠ .agg cs) : decV h (.slice e) u = decS h e u := by
 cases u with
 | agg cs => exact absurd rfl (hu cs)
 | _ =>
  simp only [decV, decC]; generalize decS h e _ = z; cases z <;> rfl
theorem decVs_res {m1 m : Mp} {h1 h : THp} {H : AH} (hR : HR m h.os H) (hm : MapLe m1 h1.os m h.os) {ids : List Nat} (hN : ∀ v v', (∀ id ∈ ownIds v.cells, id ∈ ids) → RV m1 h1.os v v' → RV m h.os (unN h1 v) v') (hfro : ∀ id ∈ ids, ∃ t l, h.os[id]? = some (.fro t l)) :
  ∀ (ts : List Ty) (ow : List Ow) (vs : List TV) (y : Tys ts) (vs' : List Value) (seen : List Nat), decVs h ts (unR h1 h ow vs) = some y → resOk h ow vs seen = true → (∀ id ∈ loose ow vs, id ∈ ids) → RL m1 h1.os vs vs' →
  ∃ rs, ResR m.G H ts ow y vs' rs ∧ (∀ k ∈ rs, ∀ b, k.has b → ∃ key : Key, key.top ∉ seen ∧ m.ρ key = some b) := by
 have one : ∀ (t : Ty) (ow : List Ow) (v : TV) (r : List TV) (x : t.den) (v' : Value) (seen : List Nat), decV h t (unR1 h1 h (ow.headD .no) v) = some x → resOk h ow (v :: r) seen = true → (∀ id ∈ loose ow (v :: r), id ∈ ids) → RV m1 h1.os v v' →
   ∃ rr seen', ResR1 m.G H (ow.headD .no) t x v' rr ∧ (∀ b, rr.has b → ∃ key : Key, key.top ∉ seen ∧ key.top ∈ seen' ∧ m.ρ key = some b) ∧ resOk h ow.tail r seen' = true ∧ (∀ i ∈ seen, i ∈ seen') ∧ ∀ id ∈ loose ow.tail r, id ∈ ids := by
  intro t ow v r x v' seen hd ho hl hv; simp only [resOk, loose] at ho hl; have hdS : ∀ (u : TV) (e : Ty) (x : List e.den), decV h (.slice e) u = some x → (∀ cs, u ≠ .agg cs) → decS h e u = some x := fun u e x hd hu => by rw [← decV_slice hu]; exact hd
  have hnil : ∀ (t : Ty) (x : t.den), (∀ e, t ≠ .slice e) → decV h t .nilS = some x → ValR m.G t x v' := fun t x ht hd => by
   exfalso; cases t <;> first | exact ht _ rfl | simp [decV, decC] at hd
  cases how : ow.headD .no with
  | no =>
   rw [how] at ho hl hd; simp only [unR1] at hd; have hi : ∀ id ∈ ownIds v.cells, id ∈ ids := fun id hid => hl id (List.mem_append_left _ hid)
   have hval := decV_val hd (calm_of _ fun id hid => hfro id (hi id (unN_own id hid))) (hN v v' hi hv); refine ⟨.no, seen, ?_, fun b hb => (Rk.no_has hb).elim, ho, fun i hi => hi, fun id hid => hl id (List.mem_append_right _ hid)⟩; cases t <;> exact ⟨rfl, hval⟩
  | cp =>
   rw [how] at ho; cases ho
  | row tid =>
   rw [how] at ho hl hd; simp only [unR1] at hd ho hl; have hv2 := hv.mono hm; cases v with
   | own id =>
    simp only [Bool.and_eq_true, Bool.not_eq_true'] at ho; obtain ⟨⟨ho1, ho2⟩, ho3⟩ := ho; split at ho3
    ·rename_i tid0 t1 l1 tid' heq hat
     cases heq; have hoo := at_some hat (by simp); have e : tid = tid' := by simpa using ho3
     subst e; cases t with
     | slice e =>
      have hd' := hdS _ _ _ hd (fun _ q => by cases q); simp only [decS, hat] at hd'; obtain ⟨et, rfl⟩ := castL_some hd'; subst et; cases hv2 with
      | own _ _ hv2 =>
      unfold OwnR at hv2; rw [hoo] at hv2; rcases hv2 with ⟨q1, q2, q3⟩ | ⟨b, q1, q2⟩
      ·exact ⟨.no, id :: seen, ⟨none, rfl, .inl ⟨rfl, q2, q3⟩⟩, fun b hb => (Rk.no_has hb).elim, ho2, fun i hi => List.mem_cons_of_mem _ hi, hl⟩
      ·rcases hR.obj _ _ hoo with ⟨e1, _⟩ | ⟨b', c, e1, e2, e3, e4⟩
       ·rw [q1] at e1; cases e1
       ·rw [q1] at e1; cases e1
        exact ⟨.of (some b), id :: seen, ⟨some b, rfl, .inr ⟨b, c, rfl, q2, (hR.lt _ _ q1).1, hR.disj _ _ q1, e2, e3, e4⟩⟩, fun b' hb' => (by cases Rk.has_of hb'; exact ⟨.o id, by simpa [Key.top] using ho1, List.mem_cons_self .., q1⟩), ho2, fun i hi => List.mem_cons_of_mem _ hi, hl⟩
     | _ =>
      have hval := decV_val hd (fun u hu => by simp only [TV.cells, List.mem_singleton] at hu; subst hu; simp [decV, decC] at hd) hv2; exact ⟨.no, id :: seen, ⟨rfl, hval⟩, fun b hb => (Rk.no_has hb).elim, ho2, fun i hi => List.mem_cons_of_mem _ hi, hl⟩
    ·rename_i heq _; cases heq
    ·cases ho3
   | nilS =>
    cases t with
    | slice e =>
     have hx : x = [] := by
      simp only [decV, decC, decS] at hd; cases hd; rfl
     subst hx; cases hv; exact ⟨.no, seen, ⟨none, rfl, .inl ⟨rfl, rfl, rfl⟩⟩, fun b hb => (Rk.no_has hb).elim, ho, fun i hi => hi, hl⟩
    | _ => exact ⟨.no, seen, ⟨rfl, hnil _ _ (fun _ q => by cases q) hd⟩, fun b hb => (Rk.no_has hb).elim, ho, fun i hi => hi, hl⟩
   | _ => simp at ho
  | mat tid nt =>
   rw [how] at ho hl hd; simp only [unR1] at hd ho hl; have hv2 := hv.mono hm; cases v with
   | own id =>
    simp only [Bool.and_eq_true, Bool.not_eq_true'] at ho; obtain ⟨⟨ho1, ho2⟩, ho3⟩ := ho; split at ho3
    ·rename_i heq _; cases heq
    ·rename_i tid0 nt0 t1 l1 tid' nt' ver' heq hat
     cases heq; have hoo := at_some hat (by simp); obtain ⟨e1, e2⟩ : tid = tid' ∧ nt = nt' := of_decide_eq_true ho3; subst e1; subst e2; simp only [hat] at hd; cases t with
     | slice e =>
      have hd' := hdS _ _ _ hd (fun _ q => by cases q); simp only [decS] at hd'; obtain ⟨k, q1, q2, q3⟩ := backM_sound hR (oid := some id) (l := x) (t := e) (tid := tid) (nt := nt) (tv := .own id) (by simp only [backM]; rw [show h.os.getD id .dead = _ from hat]; simp [hd']) hv2; refine ⟨k, id :: seen, q1, fun b hb => ?_, ho2, fun i hi => List.mem_cons_of_mem _ hi, hl⟩; obtain ⟨key, z1, z2⟩ := q2 b hb; cases z1; exact ⟨key, by simpa using ho1, List.mem_cons_self .., z2⟩
     | _ => simp [decV, decC] at hd
    ·cases ho3
   | nilS =>
    cases t with
    | slice e =>
     have hx : x = [] := by
      simp only [decV, decC, decS] at hd; cases hd; rfl
     subst hx; obtain ⟨k, q1, q2, q3⟩ := backM_sound hR (oid := none) (l := ([] : List e.den)) (t := e) (tid := tid) (nt := nt) (tv := .nilS) rfl hv2; refine ⟨k, seen, q1, fun b hb => ?_, ho, fun i hi => hi, hl⟩; obtain ⟨key, z1, z2⟩ := q2 b hb; cases z1
    | _ => exact ⟨.no, seen, ⟨rfl, hnil _ _ (fun _ q => by cases q) hd⟩, fun b hb => (Rk.no_has hb).elim, ho, fun i hi => hi, hl⟩
   | _ => simp at ho
 intro ts
 induction ts with
 | nil =>
  intro ow vs y vs' seen hd ho hl hv; cases vs with
  | nil => exact ⟨[], ⟨hv.nil_inv, rfl⟩, fun k hk => by cases hk⟩
  | cons v r => cases hd
 | cons t ts ih =>
  intro ow vs y vs' seen hd ho hl hv; cases vs with
  | nil => cases ts <;> cases hd
  | cons v r =>
   obtain ⟨v', r', rfl, hv1, hv2⟩ := hv.cons_inv; simp only [unR] at hd; cases ts with
   | nil =>
    cases r with
    | cons => simp only [unR] at hd; cases hd
    | nil =>
     have := hv2.nil_inv; subst this; obtain ⟨rr, seen', k1, k2, -⟩ := one t ow v [] y v' seen hd ho hl hv1; refine ⟨[rr], ⟨v', rr, rfl, rfl, k1⟩, fun k hk b hb => ?_⟩; cases List.mem_singleton.1 hk; obtain ⟨key, q1, -, q2⟩ := k2 b hb; exact ⟨key, q1, q2⟩
   | cons u ts =>
    simp only [decVs] at hd; split at hd
    ·rename_i x1 hx1
     split at hd
     ·rename_i x2 hx2
      cases hd; obtain ⟨rr, seen', k1, k2, k3, k4, k5⟩ := one t ow v r x1 v' seen hx1 ho hl hv1; obtain ⟨rs, g1, g2⟩ := ih ow.tail r x2 r' seen' hx2 k3 k5 hv2; refine ⟨rr :: rs, ⟨v', r', rr, rs, rfl, rfl, k1, fun b hb k hk hb' => ?_, g1⟩, fun k hk b hb => ?_⟩
      ·obtain ⟨key, w1, w2, w3⟩ := k2 b hb
       obtain ⟨key', u1, u2⟩ := g2 k hk b hb'; have := hR.inj _ _ _ w3 u2; subst this; exact u1 w2
      ·rcases List.mem_cons.1 hk with hk | hk
       ·subst hk
        obtain ⟨key, w1, w2, w3⟩ := k2 b hb; exact ⟨key, w1, w3⟩
       ·obtain ⟨key, w1, w2⟩ := g2 k hk b hb
        exact ⟨key, fun hm => w1 (k4 _ hm), w2⟩
     ·cases hd
    ·cases hd

theorem soft1_sound {m : Mp} {h : THp} {H : AH} (hR : HR m h.os H) (id : Nat) : ∃ m', HR m' (soft1 h id).os H ∧ MapLe m h.os m' (soft1 h id).os ∧ (∀ i b, m'.ρ i = some b → m.ρ i = some b) ∧ ∀ b c, m'.G b = some c → m.G b = some c ∨ ∃ i : Key, m.ρ i = some b := by
 unfold soft1
 split
 ·rename_i t l tid nt ver hat
  obtain ⟨m', a1, a2, a3, a4, -⟩ := give_sound hR (at_some hat (by simp)) true true rfl; exact ⟨m', a1, a2, a3, a4⟩
 ·exact ⟨m, hR, .refl _ _ H hR, fun _ _ h => h, fun _ _ h => .inl h⟩
theorem softL_sound {H : AH} : ∀ (vs : List TV) (ow : List Ow) {m : Mp} {h : THp}, HR m h.os H → ∃ m', HR m' (softL h ow vs).os H ∧ MapLe m h.os m' (softL h ow vs).os ∧ (∀ i b, m'.ρ i = some b → m.ρ i = some b) ∧ ∀ b c, m'.G b = some c → m.G b = some c ∨ ∃ i : Key, m.ρ i = some b := by
 intro vs
 induction vs with
 | nil => intro ow m h hR; exact ⟨m, hR, .refl _ _ H hR, fun _ _ h => h, fun _ _ h => .inl h⟩
 | cons v r ih =>
  intro ow m h hR; simp only [softL]; split
  ·rename_i id _
   obtain ⟨m1, a1, a2, a3, a4⟩ := soft1_sound hR id; obtain ⟨m2, b1, b2, b3, b4⟩ := ih ow.tail a1; refine ⟨m2, b1, a2.trans b2, fun i b hb => a3 i b (b3 i b hb), fun b c hb => ?_⟩; rcases b4 b c hb with e | ⟨i, e⟩
   ·exact a4 b c e
   ·exact .inr ⟨i, a3 i b e⟩
  ·exact ih ow.tail hR
theorem tmFun_ok (hSs : ∀ g, specs g = none → effs g = none → S g = none) {f : Nat} (hSf : S f = none) (hE : ∀ v, EqV.eq v v = true) (hgl : GlOK gl) (hit : ItOK it) (hsp : ∀ f sp, specs f = some sp → SpecOK (evL P S) f sp) (hef : ∀ f ef, effs f = some ef → EffOK (evL P S) f ef) (n : Nat) (mo : Bool) (args res : List Ty) (own : List Ow) :
  SpecOK (evL P S) f ⟨args, res, own, tmFun P gl ann it specs effs n f mo args res own⟩ := by
 intro x y hy G H vals hG hA
 simp only [tmFun] at hy
 split at hy
 ·rename_i fn hf
  split at hy
  ·rename_i c hc
   have hR0 : HR ⟨fun _ => none, G, fun _ => none, fun _ => 0⟩ (mat0 mo) H := ⟨fun i j b h => (by cases h), fun i b h => (by cases h), fun i b h => (by cases h), hG, fun i o h => by
    cases mo with
    | false => cases h
    | true =>
     cases i with
     | zero => cases h; trivial
     | succ i => cases h⟩
   obtain ⟨m', vs, h', vs', H', k1, k2, k3, k4, k5⟩ := tmBody_sound (h := ⟨mat0 mo, []⟩) hE hgl hit (tev_ok hSs hE hgl hit hsp hef n) hSf hf hc hy hR0 (ArgsR.rl args x vals hA); split at k1
   ·rename_i h2 hfz
    split at k1
    ·rename_i hok
     obtain ⟨m1, b1, b2, b3, b4⟩ := softL_sound vs own k3; obtain ⟨m2, a1, a2, a3, a4, a5, a6, a7, a8, a9⟩ := freezeA_sound (m := m1) _ b1 hfz; obtain ⟨rs, r1, r2⟩ := decVs_res a1 a2 (fun v v' hi hv => unN_rv a2 a9 hi hv) a4 res own vs y vs' [] k1 hok (fun id hid => hid) (k5.mono b2); have new : ∀ (i : Key) b, m'.ρ i = some b → H.next ≤ b := fun i b hb => by
      obtain ⟨dl, -, -, -, d3⟩ := k4.dirty; rcases d3 i b hb with e | ⟨j, -, e⟩ | e
      ·cases e
      ·cases e
      ·exact e
     refine ⟨vs', H', m2.G, rs, k2, k4.next, fun b hb => k4.frame b hb fun i e => (by cases e), k4.le.gle.trans (b2.gle.trans a2.gle), fun b c hb => ?_, fun b c hb => a1.gr b c hb, r1, fun k hk b hb => ?_⟩
     ·have mid : m'.G b = some c → G b = some c ∨ H.next ≤ b := fun e => by
       rcases k4.gg b c e with e | ⟨i, e⟩ | e
       ·exact .inl e
       ·cases e
       ·exact .inr e
      rcases a8 b c hb with e | ⟨i, e⟩
      ·rcases b4 b c e with e | ⟨i, e⟩
       ·exact mid e
       ·exact .inr (new i b e)
      ·exact .inr (new i b (b3 _ _ e))
     ·obtain ⟨id, -, e⟩ := r2 k hk b hb
      exact new id b (b3 _ _ (a3 _ _ e))
    ·cases k1
   ·cases k1
  ·cases hy
 ·cases hy
end
end Go.TM
