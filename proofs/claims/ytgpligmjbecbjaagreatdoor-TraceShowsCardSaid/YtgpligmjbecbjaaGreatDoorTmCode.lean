/- Code. -/

import Derived.Test.YtgpligmjbecbjaaGreatDoorTmLoop2
set_option linter.unusedVariables false
set_option linter.unusedSimpArgs false
set_option linter.unusedSectionVars false
namespace Go.TM
open Go Go.AM
variable {P : Program} [EqV]

def CodeOK (P : Program) (gl : Nat → Option (List TV)) (ann : List Nat → Nat → Option (List Sh)) (cf : Oc) (it : It) (cfA : Oracle) (c : Code) : Prop :=
 ∀ (ctx : List Nat) (R : Type) (b : Nat) (env : List TV) (h : THp) (k : AEx → List TV → THp → Option R) (r : R), tmCode P gl ann cf it ctx c R b env h k = some r → ∀ (m : Mp) (a : Env) (H : AH), HR m h.os H → RL m h.os env a →
  ∃ m' env' h' a' H' e, k e env' h' = some r ∧ wCode P cfA c a H = some (e, a', H') ∧ HR m' h'.os H' ∧ RL m' h'.os env' a' ∧ Ext m h H m' h' H' ∧ UnA (wrC c) env env' a a'

theorem inR_some {R S : Type} {x : Option R} {y : S ⊕ R} (h : inR x = some y) : ∃ r, x = some r ∧ y = .inr r := by
 obtain ⟨r, h1, h2⟩ := Option.map_eq_some_iff.1 h
 exact ⟨r, h1, h2.symm⟩
theorem oj_some {R S : Type} {x : Option (S ⊕ R)} {f : S → Option R} {r : R} (h : oj x f = some r) : (∃ s, x = some (.inl s) ∧ f s = some r) ∨ x = some (.inr r) := by
 unfold oj at h
 split at h
 ·exact .inl ⟨_, rfl, h⟩
 ·cases h; exact .inr rfl
 ·cases h
theorem back_some {l : List RSh} {env : List TV} {os : List TObj} {ids : List Nat} {st : St l} (hb : back l env os = some (ids, st)) : backL env os l = some (ids, st) ∧ nodupN (matsOf l ++ ids) = true := by
 unfold back at hb
 split at hb
 ·rename_i ids st e
  split at hb
  ·cases hb; exact ⟨e, ‹_›⟩
  ·cases hb
 ·cases hb

structure Entry (m : Mp) (h : THp) (H : AH) (env : List TV) (a : Env) (l : List RSh) (kill : List Nat) : Prop where
 hr : HR m h.os H
 rl : RL m h.os env a
 vary : l.all (varyOk h.os) = true
 nd : (itersOf l).Nodup
 res : ∀ id s, RSh.iter id s ∈ l → ∃ n, h.os[id]? = some (.iter true s n)
 km : ∀ id ∈ matsOf l, id ∉ kill
 kill : ∀ id ∈ kill, ∃ o, h.os[id]? = some o ∧ Mov o

theorem first_head {m : Mp} {h : THp} {H : AH} {env : List TV} {a : Env} (hR : HR m h.os H) (ha : RL m h.os env a) {sh : List Sh} {l : List RSh} (hl : resL env h.os sh = some l) {kill : List Nat} {st0 : St l} (hb : back l env h.os = some (kill, st0))
  (hchk : (l.all (varyOk h.os) && nodupN (itersOf l)) = true) (wr : List Nat) : Entry m h H env a l kill ∧ ∃ m2, LHead m h.os H env a l kill wr st0 a m2 H := by
 simp only [Bool.and_eq_true] at hchk
 obtain ⟨hv, hnd⟩ := hchk
 have hn := nodupN_nodup hnd
 have hres := resL_iter sh l hl
 have hb' := back_some hb
 obtain ⟨rs0, -, -, hkill⟩ := backL_sat hR ha l kill st0 hb'.1 (nodupN_parts hb'.2).2.1 fun id s hm w s' n ho => by
  obtain ⟨n', e⟩ := hres id s hm; rw [ho] at e; cases e; rfl
 have hkm := (nodupN_parts hb'.2).2.2
 refine ⟨⟨hR, ha, hv, hn, hres, hkm, hkill⟩, ?_⟩
 refine head_of hR hv hn hres hR ha (Nat.le_refl _) (fun i o ho => ?_) rfl (fun i v x e1 e2 _ _ => ?_) (.refl _ _ _ _) hb'.1 hb'.2 hkm (fun _ _ _ _ _ _ => ⟨rfl, rfl, rfl⟩) (fun id hid o ho => ?_) (fun id s hm w s' n ho => ?_) fun _ _ => rfl
 ·rw [tmOs_get] at ho
  cases e : h.os[i]? with
  | none => rw [e] at ho; cases ho
  | some o0 =>
   rw [e] at ho; cases ho; exact ⟨o0, rfl, tmpl_BO hR l kill e⟩
 ·have p := lt_of_get e1
  have q := lt_of_get e2; have := ha.2 i p q; rw [List.getElem?_eq_getElem p] at e1; cases e1; rw [List.getElem?_eq_getElem q] at e2; cases e2; exact ⟨this, .of this⟩
 ·obtain ⟨o', e, hm⟩ := hkill id hid
  rw [tmOs_get, e] at ho; have : kill.contains id = true := by simpa using hid
  cases o' with
  | row w t r tid =>
   simp only [Option.map_some, tmplObj, this, if_true, Option.some.injEq] at ho; exact ho.symm
  | mat w t r tid nt ver hole =>
   simp only [Option.map_some, tmplObj, this, if_true, Option.some.injEq] at ho; exact ho.symm
  | _ => exact hm.elim
 ·obtain ⟨n', e⟩ := hres id s hm
  rw [ho] at e; cases e; rfl

theorem tell_head {m : Mp} {h : THp} {H : AH} {env : List TV} {a : Env} {l : List RSh} {kill wr : List Nat} (en : Entry m h H env a l kill) {st : St l} {a' : Env} {mF : Mp} {H' : AH} (hd : LHead m h.os H env a l kill wr st a' mF H')
  {m1 : Mp} {env1 : List TV} {h1 : THp} {a1 : Env} {H1 : AH} (g3 : HR m1 h1.os H1) (g4 : RL m1 h1.os env1 a1) (g5 : Ext mF ⟨(headS l kill wr env h.os st).os, []⟩ H' m1 h1 H1) {w : List Nat} (hw : ∀ i ∈ w, i ∈ wr) (g6 : UnA w (headS l kill wr env h.os st).env env1 a' a1)
  {X : Type} {f : St l → X} {x : X} (ht : tell l h.os env1 h1 f = some x) : ∃ st', x = f st' ∧ ∃ m2, LHead m h.os H env a l kill wr st' a1 m2 H1 := by
 obtain ⟨hR, ha, hv, hn, hres, hkm, hkill⟩ := en
 have g6 := g6.mono hw
 unfold tell at ht
 split at ht
 ·rename_i ids s' hbk
  split at ht
  ·rename_i hrest
   cases ht; refine ⟨s', rfl, ?_⟩; have hbk' := back_some hbk; have hit : ∀ id s, RSh.iter id s ∈ l → ∀ w s' n, h1.os[id]? = some (.iter w s' n) → s' = s := fun id s hm w s' n ho => by
    obtain ⟨n', e⟩ := hd.it id s hm; obtain ⟨o', e1, e2⟩ := g5.keep id _ e; rw [ho] at e1; cases e1; obtain ⟨p', e3, -⟩ := e2; cases e3; rfl
   obtain ⟨rs, s1, s2, s3⟩ := backL_sat g3 g4 l ids _ hbk'.1 (nodupN_parts hbk'.2).2.1 hit; have hlw := hd.after g5; have hua : ∀ i, i ∉ wr → a1[i]? = a[i]? := fun i hi => (g6.2 i hi).trans (hd.ua i hi)
   refine head_of (env := env) (a := a) (wr := wr) (kill := kill) hR hv hn hres g3 g4 ?_ (fun i o ho => ?_) (g6.1.trans hd.len) (fun i v x e1 e2 h1' h2' => ?_) hlw hbk'.1 hbk'.2 hkm (fun id t tid nt ver hm => ?_) (fun id hid o ho => ?_) hit hua
   ·by_cases hz : h.os.length = 0
    ·omega
    ·have hi : h.os.length - 1 < (tmOs l kill h.os).length := by rw [tmOs_length]; omega
     obtain ⟨o', q1, -⟩ := hd.fo _ _ (List.getElem?_eq_getElem hi); obtain ⟨o2, q2, -⟩ := g5.keep _ _ q1; have := lt_of_get q2; omega
   ·have hT := ho
    rw [tmOs_get] at ho; cases e : h.os[i]? with
    | none => rw [e] at ho; cases ho
    | some o0 =>
     rw [e] at ho; cases ho; obtain ⟨oF, q1, q2⟩ := hd.fo i _ hT; obtain ⟨o1, q3, q4⟩ := g5.keep i _ q1; refine ⟨o1, q3, round_BO hR l kill e q2 q4 (restOk_at _ _ hrest i _ _ e q3) fun t tid nt ver hm => ?_⟩; obtain ⟨r1, z1⟩ := vary_mat hv hm; obtain ⟨r2, z2⟩ := backL_mat l _ _ hbk'.1 hm; rw [e] at z1; cases z1; rw [q3] at z2; cases z2; exact ⟨⟨_, rfl⟩, _, rfl⟩
   ·have p := lt_of_get e1
    have q := lt_of_get e2; have eF := hd.sl i h2'; rw [tmplEnv_get, e1] at eF; have c1 : wr.contains i = false := by simpa using h1'
    have c2 : (slotsOf l).contains i = false := by simpa using h2'
    simp only [c1, c2, Bool.or_false, Option.map_some] at eF; have pF := lt_of_get eF; have ea := g6.2 i h1'; rw [e2] at ea; have qa := lt_of_get ea.symm; have hrv := hd.rl.2 i pF qa; rw [List.getElem?_eq_getElem pF] at eF; rw [List.getElem?_eq_getElem qa] at ea; simp only [Option.some.injEq] at eF ea; rw [eF, ← ea] at hrv; have ev0 : Old h.os.length v := by
     have pe : i < a.length := by rw [← ha.1]; exact p
     have := ha.2 i p pe; rw [List.getElem?_eq_getElem p] at e1; cases e1; exact .of this
    exact ⟨hrv.mono g5.le, ev0⟩
   ·obtain ⟨r2, z2⟩ := backL_mat l _ _ hbk'.1 hm
    obtain ⟨⟨p1, p2, p3⟩, rF, z1⟩ := hd.mt id t tid nt ver hm; obtain ⟨g1, g2, g3⟩ := g5.le.mat id _ _ _ _ _ _ _ _ _ _ z1 rfl z2 rfl; exact ⟨g1.trans p1, g2.trans p2, (g3 rfl).trans p3⟩
   ·obtain ⟨o', e, hm⟩ := s3 id hid
    obtain ⟨oF, q1, q2⟩ := hd.fo id _ ho; obtain ⟨o1, q3, q4⟩ := g5.keep id _ q1; rw [e] at q3; cases q3; cases o with
    | dead => rfl
    | row w0 t0 l0 tid0 =>
     obtain ⟨rfl, -⟩ := tmOs_row ho; cases (show oF = _ from q2); rcases q4 with ⟨-, rfl⟩ | ⟨q, -⟩
     ·cases (show false = true from hm)
     ·cases q
    | mat w0 t0 l0 tid0 nt0 ver0 hole0 =>
     cases tmOs_mat ho; cases (show oF = _ from q2); rcases q4 with ⟨-, rfl⟩ | ⟨q, -⟩
     ·cases (show false = true from hm.1)
     ·cases q
    | hid _ _ _ _ =>
     rcases q2 with rfl | ⟨hc, _, _⟩
     ·cases (show o' = _ from q4); exact hm.elim
     ·exact absurd hid ((nodupN_parts hbk'.2).2.2 id hc)
    | fro t0 l0 => cases (show oF = _ from q2); cases (show o' = _ from q4); exact hm.elim
    | box w0 c0 tid0 => obtain ⟨cs', rfl, _⟩ := q2; obtain ⟨_, rfl, _⟩ := q4; exact hm.elim
    | frame _ _ _ _ _ _ _ => cases (show oF = _ from q2); obtain ⟨_, _, rfl⟩ := q4; exact hm.elim
    | iter _ _ _ => cases (show oF = _ from q2); obtain ⟨_, rfl, _⟩ := q4; exact hm.elim
    | lost =>
     rcases q2 with rfl | ⟨_, _, _, rfl⟩
     ·cases (show o' = _ from q4); exact hm.elim
     ·obtain ⟨_, rfl, _⟩ := q4; exact hm.elim
  ·cases ht
 ·cases ht

theorem leave {m : Mp} {h : THp} {H : AH} {env : List TV} {a : Env} {l : List RSh} {kill wr : List Nat} (en : Entry m h H env a l kill) {st : St l} {a' : Env} {mF : Mp} {H' : AH} (hd : LHead m h.os H env a l kill wr st a' mF H')
  {m1 : Mp} {env1 : List TV} {h1 : THp} {a1 : Env} {H1 : AH} (g3 : HR m1 h1.os H1) (g4 : RL m1 h1.os env1 a1) (g5 : Ext mF ⟨(headS l kill wr env h.os st).os, []⟩ H' m1 h1 H1) {w : List Nat} (hw : ∀ i ∈ w, i ∈ wr) (g6 : UnA w (headS l kill wr env h.os st).env env1 a' a1) :
  HR m1 (outH h h1.os).os H1 ∧ RL m1 (outH h h1.os).os env1 a1 ∧ Ext m h H m1 (outH h h1.os) H1 ∧ UnA wr env env1 a a1 := by
 obtain ⟨r1, r2, r3⟩ := loop_exit en.hr en.vary en.kill en.res hd g5 g3 _ rfl
 have g6 := g6.mono hw
 exact ⟨r1, g4.mono r2, r3, g6.1.trans hd.len, fun i hi => (g6.2 i hi).trans (hd.ua i hi)⟩
theorem leave_head {m : Mp} {h : THp} {H : AH} {env : List TV} {a : Env} {l : List RSh} {kill wr : List Nat} (en : Entry m h H env a l kill) {st : St l} {a' : Env} {mF : Mp} {H' : AH} (hd : LHead m h.os H env a l kill wr st a' mF H') :
  HR mF (outH h (headS l kill wr env h.os st).os).os H' ∧ RL mF (outH h (headS l kill wr env h.os st).os).os (headS l kill wr env h.os st).env a' ∧ Ext m h H mF (outH h (headS l kill wr env h.os st).os) H' ∧ UnA wr env (headS l kill wr env h.os st).env a a' :=
 leave (h1 := ⟨(headS l kill wr env h.os st).os, []⟩) en hd hd.hr hd.rl (.refl hd.hr) (fun i hi => hi) (.refl wr _ _)

def ItOK (it : It) : Prop := ∀ σ R (f : σ → Option (σ ⊕ R)) s r, it σ R f s = some r → iterS f s = some r
theorem itS_ok : ItOK itS := fun _ _ _ _ _ h => h
theorem loop_sound {gl : Nat → Option (List TV)} {ann : List Nat → Nat → Option (List Sh)} {cf : Oc} {it : It} (hit : ItOK it) {cfA : Oracle} {body : Code} (ih : CodeOK P gl ann cf it cfA body) : CodeOK P gl ann cf it cfA (.loop body) := by
 intro ctx R b env h k r he m a H hR ha
 simp only [tmCode] at he
 split at he
 ·rename_i sh _
  split at he
  ·rename_i l hl
   split at he
   ·rename_i kill st0 hb
    split at he
    ·rename_i hchk
     obtain ⟨en, mF0, hd0⟩ := first_head hR ha hl hb hchk (wrC body); have key := iterS.partial_correctness (fun st : St l =>
       tmCode P gl ann cf it ctx body (St l ⊕ (St l ⊕ R)) b (headS l kill (wrC body) env h.os st).env ⟨(headS l kill (wrC body) env h.os st).os, []⟩
        fun e env' h' => match e with
         | .normal => tell l h.os env' h' .inl
         | .exit id => if id = b then tell l h.os env' h' (.inr ∘ .inl) else inR (inR (k (.exit id) env' (outH h h'.os)))
         | .ret => inR (inR (k .ret env' (outH h h'.os))))
      (fun st r' => ∀ mF a' H', LHead m h.os H env a l kill (wrC body) st a' mF H' → match r' with
       | .inl st' => ∃ a'' m2 H'', LHead m h.os H env a l kill (wrC body) st' a'' m2 H'' ∧ iterW (fun a H => wCode P cfA body a H) a' H' = some (.exit b, a'', H'')
       | .inr r => ∃ m' env' h' a'' H'' e, k e env' h' = some r ∧ iterW (fun a H => wCode P cfA body a H) a' H' = some (e, a'', H'') ∧ HR m' h'.os H'' ∧ RL m' h'.os env' a'' ∧ Ext m h H m' h' H'' ∧ UnA (wrC body) env env' a a'')
      (by
       intro g hg st r' hr mF a' H' hd; split at hr
       ·rename_i s' hf
        obtain ⟨m1, env1, h1, a1, H1, e, g1, g2, g3, g4, g5, g6⟩ := ih ctx _ b _ _ _ _ hf mF a' H' hd.hr hd.rl; cases e with
        | exit id =>
         simp only at g1; split at g1
         ·obtain ⟨st', e, -⟩ := tell_head en hd g3 g4 g5 (fun i hi => hi) g6 g1
          cases e
         ·obtain ⟨_, -, e⟩ := inR_some g1; cases e
        | ret => obtain ⟨_, -, e⟩ := inR_some g1; cases e
        | normal =>
         obtain ⟨st', e, m2, hd2⟩ := tell_head en hd g3 g4 g5 (fun i hi => hi) g6 g1; cases e; have := hg _ _ hr m2 a1 H1 hd2; rw [iterW, g2]; exact this
       ·rename_i r0 hf
        cases hr; obtain ⟨m1, env1, h1, a1, H1, e, g1, g2, g3, g4, g5, g6⟩ := ih ctx _ b _ _ _ _ hf mF a' H' hd.hr hd.rl; have fin : e ≠ .normal → ∀ r, k e env1 (outH h h1.os) = some r → ∃ m' env' h' a'' H'' e, k e env' h' = some r ∧ iterW (fun a H => wCode P cfA body a H) a' H' = some (e, a'', H'') ∧ HR m' h'.os H'' ∧ RL m' h'.os env' a'' ∧ Ext m h H m' h' H'' ∧ UnA (wrC body) env env' a a'' := fun hne r hk => by
         obtain ⟨r1, r2, r3, r4⟩ := leave en hd g3 g4 g5 (fun i hi => hi) g6; refine ⟨m1, env1, _, a1, H1, e, hk, ?_, r1, r2, r3, r4⟩; rw [iterW, g2]; cases e with
         | normal => exact absurd rfl hne
         | exit id => rfl
         | ret => rfl
        cases e with
        | normal =>
         obtain ⟨st', e, -⟩ := tell_head en hd g3 g4 g5 (fun i hi => hi) g6 g1; cases e
        | exit id =>
         simp only at g1; split at g1
         ·rename_i hid
          obtain ⟨st', e, m2, hd2⟩ := tell_head en hd g3 g4 g5 (fun i hi => hi) g6 g1; cases e; refine ⟨a1, m2, H1, hd2, ?_⟩; rw [iterW, g2, hid]
         ·obtain ⟨x, e1, e2⟩ := inR_some g1
          obtain ⟨y, e3, e4⟩ := inR_some e1; cases e2; cases e4; exact fin (by simp) y e3
        | ret =>
         obtain ⟨x, e1, e2⟩ := inR_some g1; obtain ⟨y, e3, e4⟩ := inR_some e1; cases e2; cases e4; exact fin (by simp) y e3
       ·cases hr)
     rcases oj_some he with ⟨st', h1, h2⟩ | h1
     ·obtain ⟨a'', m2, H'', hd2, hw⟩ := key st0 _ (hit _ _ _ _ _ h1) mF0 a H hd0
      obtain ⟨r1, r2, r3, r4⟩ := leave_head en hd2; exact ⟨m2, _, _, a'', H'', .exit b, h2, by simpa only [wCode] using hw, r1, r2, r3, r4⟩
     ·have := key st0 _ (hit _ _ _ _ _ h1) mF0 a H hd0
      simpa only [wCode, wrC] using this
    ·cases he
   ·cases he
  ·cases he
 ·cases he

theorem kill_frame {m : Mp} {os : List TObj} {H : AH} (hR : HR m os H) {i b : Nat} {A B C D E F G} (ho : os[i]? = some (.frame A B C D E F G)) (hb : m.ρ i = some b) :
  HR (updM m i none) (os.set i .dead) (H.set b .dead) ∧ MapLe m os (updM m i none) (os.set i .dead) := by
 have hid := lt_of_get ho
 have hsub : ∀ j c, (updM m i none).ρ j = some c → m.ρ j = some c ∧ j ≠ i := fun j c hi => by
  by_cases ei : j = i
  ·rw [ei, updM_self] at hi; cases hi
  ·exact ⟨by rwa [updM_ne _ _ ei] at hi, ei⟩
 have hg : ∀ c, c ≠ b → (H.set b .dead).get c = H.get c := fun c hc => by rw [AH.get_set, if_neg (fun e => hc e.symm)]
 have hm : MapLe m os (updM m i none) (os.set i .dead) := by
  have hmk := mats_keep (m := m) (m' := updM m i none) (os := os) (os' := os.set i .dead) fun j o x h1 h2 => by
   have e : i ≠ j := fun e => by subst e; rw [ho] at h1; cases h1; cases h2
   exact .inl ⟨by rw [List.getElem?_set_ne e]; exact h1, updM_ne _ _ (ko fun q => e q.symm), rfl, rfl⟩
  refine ⟨.refl _, fun j o h1 => ?_, fun j c hc hf => ?_, fun j a b c d e f g a' b' c' d' e' f' g' h1 h2 => ?_, fun j w t l tid w' t' l' tid' h1 h2 => ?_, fun j w t l tid t' l' h1 h2 => ?_, hmk.1, hmk.2.1, hmk.2.2⟩
  ·by_cases e : i = j
   ·subst e; rw [ho] at h1; cases h1; exact ⟨.dead, by simp [hid], .inr rfl⟩
   ·exact ⟨o, by rw [List.getElem?_set_ne e]; exact h1, (KeepO.refl o).kw⟩
  ·rw [updM_ne]; exact hc
   intro e; cases e; unfold isFix at hf; rw [ho] at hf; exact hf
  ·by_cases e : j = i
   ·subst e; simp [hid] at h2
   ·exact updM_ne _ _ (ko e)
  ·by_cases e : j = i
   ·subst e; simp [hid] at h2
   ·exact updM_ne _ _ (ko e)
  ·by_cases e : i = j
   ·subst e; simp [hid] at h2
   ·rw [List.getElem?_set_ne e, h1] at h2; cases h2
 refine ⟨⟨fun j k c hj hk => hR.inj j k c (hsub j c hj).1 (hsub k c hk).1, fun j c hj => by have := hR.lt j c (hsub j c hj).1; simpa using this, fun j c hj => hR.disj j c (hsub j c hj).1, fun c cc hc => ?_, fun j x hx => ?_⟩, hm⟩
 ·obtain ⟨h1, own, sz, ty, h2⟩ := hR.gr c cc hc
  refine ⟨h1, own, sz, ty, ?_⟩; rw [hg c fun e => ?_]; exact h2; subst e; have := hR.disj _ _ hb; rw [show m.G c = some cc from hc] at this; cases this
 ·by_cases e : i = j
  ·subst e; simp [hid] at hx; subst hx; trivial
  ·rw [List.getElem?_set_ne e] at hx
   exact (hR.obj j x hx).mono hm ⟨rfl, rfl⟩ (fun k hk => updM_ne _ _ (kt hk fun q => e q.symm)) fun k c hk hc => hg c fun q => e (by subst q; have := hR.inj _ _ _ hc hb; subst this; exact hk)

theorem DInv.nil {m : Mp} {h : THp} {H : AH} {rs : List TRec} {i : Nat} : DInv m h H rs [] i [] := ⟨rfl, fun p hp => (by cases hp), fun p hp => (by cases hp), fun p hp => (by cases hp)⟩
theorem code_ok (hE : ∀ v, EqV.eq v v = true) {gl : Nat → Option (List TV)} (hgl : GlOK gl) {ann : List Nat → Nat → Option (List Sh)} {cf : Oc} {it : It} (hit : ItOK it) {cfA : Oracle} (hcf : OcOK P cf cfA) : ∀ c, CodeOK P gl ann cf it cfA c := by
 intro c
 induction c with
 | skip => intro ctx R b env h k r he m a H hR ha; exact ⟨m, env, h, a, H, .normal, he, rfl, hR, ha, .refl hR, .refl _ _ _⟩
 | label l => intro ctx R b env h k r he m a H hR ha; exact ⟨m, env, h, a, H, .normal, he, rfl, hR, ha, .refl hR, .refl _ _ _⟩
 | exit id => intro ctx R b env h k r he m a H hR ha; exact ⟨m, env, h, a, H, .exit id, he, rfl, hR, ha, .refl hR, .refl _ _ _⟩
 | ret => intro ctx R b env h k r he m a H hR ha; exact ⟨m, env, h, a, H, .ret, he, rfl, hR, ha, .refl hR, .refl _ _ _⟩
 | scope c ih =>
  intro ctx R b env h k r he m a H hR ha; simp only [tmCode] at he; obtain ⟨m', env', h', a', H', e, g1, g2, g3, g4, g5, g6⟩ := ih ctx R b env h k r he m a H hR ha; exact ⟨m', env', h', a', H', e, g1, by simp only [wCode]; exact g2, g3, g4, g5, g6⟩
 | goto l => intro ctx R b env h k r he; cases he
 | refuse w => intro ctx R b env h k r he; cases he
 | loop body ih => exact loop_sound hit ih
 | region id ops draw =>
  intro ctx R b env h k r he m a H hR ha; simp only [tmCode] at he; cases draw with
  | true =>
   simp only [if_true] at he; split at he
   ·rename_i hokF
    have hok := drawOkF_ok hokF; obtain ⟨m', env', h', a', H', k1, -, k3, k4, k5, k6, k7⟩ := tmOps_sound hE hgl hcf ops.toList (fun o h => h) 0 env h [] _ r he hR ha (rsA := []) (fun _ => ⟨[], .nil⟩); obtain ⟨rs', e1, e2⟩ := k3 rfl; refine ⟨m', env', h', a', H', .normal, k1, ?_, k4, k5, k6, k7.a⟩; simp only [wCode, evalRegion, if_true, hok, e1, e2, Option.map_some]
   ·cases he
  | false =>
   simp only [Bool.false_eq_true, if_false] at he; obtain ⟨m', env', h', a', H', k1, k2, -, k4, k5, k6, k7⟩ := tmOps_sound hE hgl hcf ops.toList (fun o h => h) 0 env h [] _ r he hR ha (rsA := []) (fun _ => ⟨[], .nil⟩); refine ⟨m', env', h', a', H', .normal, k1, ?_, k4, k5, k6, k7.a⟩; simp only [wCode, evalRegion, Bool.false_eq_true, if_false, k2 rfl, Option.map_some]
 | seq x y ihx ihy =>
  intro ctx R b env h k r he m a H hR ha; simp only [tmCode] at he; obtain ⟨m1, env1, h1, a1, H1, e, g1, g2, g3, g4, g5, g6⟩ := ihx ctx R b env h _ r he m a H hR ha; have go : e ≠ .normal → k e env1 h1 = some r → ∃ m' env' h' a' H' e, k e env' h' = some r ∧ wCode P cfA (x.seq y) a H = some (e, a', H') ∧ HR m' h'.os H' ∧ RL m' h'.os env' a' ∧ Ext m h H m' h' H' ∧ UnA (wrC (x.seq y)) env env' a a' := fun hne hk => by
   refine ⟨m1, env1, h1, a1, H1, e, hk, ?_, g3, g4, g5, g6.mono fun i hi => by simp only [wrC]; exact List.mem_append_left _ hi⟩; simp only [wCode, g2]; cases e with
   | normal => exact absurd rfl hne
   | exit id => rfl
   | ret => rfl
  cases e with
  | normal =>
   obtain ⟨m2, env2, h2, a2, H2, e2, k1, k2, k3, k4, k5, k6⟩ := ihy ctx R b env1 h1 k r g1 m1 a1 H1 g3 g4; refine ⟨m2, env2, h2, a2, H2, e2, k1, ?_, k3, k4, g5.trans hR k5, (g6.mono fun i hi => by simp only [wrC]; exact List.mem_append_left _ hi).trans (k6.mono fun i hi => by simp only [wrC]; exact List.mem_append_right _ hi)⟩; simp only [wCode, g2]; exact k2
  | exit id => exact go (by simp) g1
  | ret => exact go (by simp) g1
 | cond c t e iht ihe =>
  intro ctx R b env h k r he m a H hR ha; simp only [tmCode] at he; split at he
  ·rename_i v hc
   have hcv := ev_rv hgl ha c; rw [hc] at hcv; have hcv' : evA a c = .bool v.get := by cases hq : evA a c <;> rw [hq] at hcv <;> cases hcv; rfl
   split at he
   ·rcases brB_some he with ⟨h1, h2⟩ | ⟨h1, h2⟩
    ·obtain ⟨m2, env2, h2, a2, H2, e2, k1, k2, k3, k4, k5, k6⟩ := iht ctx R b env h k r h2 m a H hR ha
     refine ⟨m2, env2, h2, a2, H2, e2, k1, ?_, k3, k4, k5, k6.mono fun i hi => by simp only [wrC]; exact List.mem_append_left _ hi⟩; simp only [wCode, hcv', h1]; exact k2
    ·obtain ⟨m2, env2, h2, a2, H2, e2, k1, k2, k3, k4, k5, k6⟩ := ihe ctx R b env h k r h2 m a H hR ha
     refine ⟨m2, env2, h2, a2, H2, e2, k1, ?_, k3, k4, k5, k6.mono fun i hi => by simp only [wrC]; exact List.mem_append_right _ hi⟩; simp only [wCode, hcv', h1]; exact k2
   ·rename_i sh _
    split at he
    ·rename_i l hl
     split at he
     ·rename_i kill st0 hb
      split at he
      ·rename_i hchk
       obtain ⟨en, mF, hd⟩ := first_head hR ha hl hb hchk (wrC t ++ wrC e); have side : ∀ (c0 : Code), CodeOK P gl ann cf it cfA c0 → (∀ i ∈ wrC c0, i ∈ wrC t ++ wrC e) → (∀ x, wCode P cfA c0 a H = some x → wCode P cfA (.cond c t e) a H = some x) → ∀ y, tmCode P gl ann cf it ctx c0 (St l ⊕ R) b (headS l kill (wrC t ++ wrC e) env h.os st0).env ⟨(headS l kill (wrC t ++ wrC e) env h.os st0).os, []⟩ (fun x env' h' => match x with
          | .normal => tell l h.os env' h' .inl
          | x => inR (k x env' (outH h h'.os))) = some y →
         (∀ st', y = .inl st' → k .normal (headS l kill (wrC t ++ wrC e) env h.os st').env (outH h (headS l kill (wrC t ++ wrC e) env h.os st').os) = some r) → (∀ r', y = .inr r' → r' = r) →
         ∃ m' env' h' a' H' ex, k ex env' h' = some r ∧ wCode P cfA (.cond c t e) a H = some (ex, a', H') ∧ HR m' h'.os H' ∧ RL m' h'.os env' a' ∧ Ext m h H m' h' H' ∧ UnA (wrC (.cond c t e)) env env' a a' := by
        intro c0 ih hw hrun y hy hl1 hl2; obtain ⟨m1, env1, h1, a1, H1, ex, g1, g2, g3, g4, g5, g6⟩ := ih ctx _ b _ _ _ _ hy mF a H hd.hr hd.rl; have out : ex ≠ .normal → inR (k ex env1 (outH h h1.os)) = some y → ∃ m' env' h' a' H' ex, k ex env' h' = some r ∧ wCode P cfA (.cond c t e) a H = some (ex, a', H') ∧ HR m' h'.os H' ∧ RL m' h'.os env' a' ∧ Ext m h H m' h' H' ∧ UnA (wrC (.cond c t e)) env env' a a' := fun hne hk => by
         obtain ⟨r', e1, e2⟩ := inR_some hk; have := hl2 r' e2; subst this; obtain ⟨r1, r2, r3, r4⟩ := leave en hd g3 g4 g5 hw g6; exact ⟨m1, env1, _, a1, H1, ex, e1, hrun _ g2, r1, r2, r3, r4⟩
        cases ex with
        | normal =>
         obtain ⟨st', e1, m2, hd2⟩ := tell_head en hd g3 g4 g5 hw g6 g1; obtain ⟨r1, r2, r3, r4⟩ := leave_head en hd2; exact ⟨m2, _, _, a1, H1, .normal, hl1 st' e1, hrun _ g2, r1, r2, r3, r4⟩
        | exit id => exact out (by simp) g1
        | ret => exact out (by simp) g1
       have both : ∀ y, brB v (tmCode P gl ann cf it ctx t (St l ⊕ R) b (headS l kill (wrC t ++ wrC e) env h.os st0).env ⟨(headS l kill (wrC t ++ wrC e) env h.os st0).os, []⟩ (fun x env' h' => match x with
          | .normal => tell l h.os env' h' .inl
          | x => inR (k x env' (outH h h'.os)))) (tmCode P gl ann cf it ctx e (St l ⊕ R) b (headS l kill (wrC t ++ wrC e) env h.os st0).env ⟨(headS l kill (wrC t ++ wrC e) env h.os st0).os, []⟩ (fun x env' h' => match x with
          | .normal => tell l h.os env' h' .inl
          | x => inR (k x env' (outH h h'.os)))) = some y →
         (∀ st', y = .inl st' → k .normal (headS l kill (wrC t ++ wrC e) env h.os st').env (outH h (headS l kill (wrC t ++ wrC e) env h.os st').os) = some r) → (∀ r', y = .inr r' → r' = r) →
         ∃ m' env' h' a' H' ex, k ex env' h' = some r ∧ wCode P cfA (.cond c t e) a H = some (ex, a', H') ∧ HR m' h'.os H' ∧ RL m' h'.os env' a' ∧ Ext m h H m' h' H' ∧ UnA (wrC (.cond c t e)) env env' a a' := fun y hy hl1 hl2 => by
        rcases brB_some hy with ⟨h1, h2⟩ | ⟨h1, h2⟩
        ·exact side t iht (fun i hi => List.mem_append_left _ hi) (fun x hx => by simp only [wCode, hcv', h1]; exact hx) y h2 hl1 hl2
        ·exact side e ihe (fun i hi => List.mem_append_right _ hi) (fun x hx => by simp only [wCode, hcv', h1]; exact hx) y h2 hl1 hl2
       rcases oj_some he with ⟨st', h1, h2⟩ | h1
       ·exact both _ h1 (fun st2 e2 => by cases e2; exact h2) fun r' e2 => by cases e2
       ·exact both _ h1 (fun st2 e2 => by cases e2) fun r' e2 => by cases e2; rfl
      ·cases he
     ·cases he
    ·cases he
  ·cases he
 | block id body ih =>
  intro ctx R b env h k r he m a H hR ha; simp only [tmCode] at he; obtain ⟨m1, env1, h1, a1, H1, e, g1, g2, g3, g4, g5, g6⟩ := ih ctx R id env h _ r he m a H hR ha; cases e with
  | normal => exact ⟨m1, env1, h1, a1, H1, .normal, g1, by simp only [wCode, g2], g3, g4, g5, g6⟩
  | ret => exact ⟨m1, env1, h1, a1, H1, .ret, g1, by simp only [wCode, g2], g3, g4, g5, g6⟩
  | exit id' =>
   simp only at g1; split at g1
   ·rename_i e
    exact ⟨m1, env1, h1, a1, H1, .normal, g1, by simp only [wCode, g2, e, if_true], g3, g4, g5, g6⟩
   ·rename_i e
    exact ⟨m1, env1, h1, a1, H1, .exit id', g1, by simp only [wCode, g2, e, if_false], g3, g4, g5, g6⟩
 | rangeFunc f ps asg body _ _ =>
  intro ctx R b env h k r he m a H hR ha; simp only [tmCode] at he; split at he
  ·rename_i g first cap hf
   have hfv := ev_rv hgl ha f; rw [hf] at hfv; split at he
   ·cases he
   ·rename_i hbody
    cases hq : evA a f with
    | func fn x y =>
     rw [hq] at hfv; cases hfv with
     | func _ _ _ _ _ hx hy h1 h2 =>
     have rx : RL m h.os first x.toList := RL.ofArr hx h1
     have ry : RL m h.os cap y.toList := RL.ofArr hy h2; obtain ⟨q1, q2⟩ := push_new hR (.frame env ps.toList asg body 0 none ctx) (.loop a ps.toList asg body 0 none) ⟨H.next, a, updM_self _ _ _, by rw [AH.get_push, if_pos rfl], ha.mono (mapLe_push hR _ _)⟩; have hyl : RV (updM m h.os.length (some H.next)) (h.push (.frame env ps.toList asg body 0 none ctx)).os (.yld h.os.length) (.func (.yield H.next) #[] #[]) := by
      refine .yld _ _ ?_; unfold YldR; simp only [THp.push, List.getElem?_concat_length]; exact ⟨H.next, updM_self _ _ _, rfl⟩
     have hargs : RL (updM m h.os.length (some H.next)) (h.push (.frame env ps.toList asg body 0 none ctx)).os (first ++ [.yld h.os.length] ++ cap) (x.toList ++ [.func (.yield H.next) #[] #[]] ++ y.toList) :=
      ((rx.mono q2.le).append (RL.cons hyl .nil)).append (ry.mono q2.le)
     obtain ⟨m2, tv, h2', v', H2, kk, c1, c2, c3, c4⟩ := hcf.fn R ctx g _ _ _ r he _ _ _ q1 hargs; have e02 := q2.trans hR c3; split at kk
     ·rename_i tmps' ps' asg' body' st pend ctx' hat
      have ho := at_some hat (by simp); split at kk
      ·cases kk
      ·rename_i hst
       split at kk
       ·rename_i e hj
        have hρ : m2.ρ h.os.length = some H.next := by
         have hnew : (h.push (.frame env ps.toList asg body 0 none ctx)).os[h.os.length]? = some (.frame env ps.toList asg body 0 none ctx) := by simp [THp.push]
         rw [c3.le.frm h.os.length _ _ _ _ _ _ _ _ _ _ _ _ _ _ hnew ho, updM_self]
        obtain ⟨b', tm', p1, p2, p3⟩ := c2.obj _ _ ho; rw [hρ] at p1; cases p1; obtain ⟨z1, z2⟩ := kill_frame c2 ho hρ; obtain ⟨dl, d1, dc, d2, d3⟩ := e02.dirty; have hle : MapLe m h.os (updM m2 h.os.length none) (h2'.os.set h.os.length .dead) := e02.le.trans z2
        refine ⟨_, env, h2'.set h.os.length .dead, a, H2.set H.next .dead, e, kk, ?_, z1, ha.mono hle, ⟨fun i o hi => ?_, hle, e02.next, fun c hc hn => ?_, e02.gg, ⟨h.os.length :: dl, by simp [THp.set, d1], fun hg => dc fun q => hg (List.mem_cons_of_mem _ q), fun i c hi hn => ?_, fun i c hi => ?_⟩, fun l hl i c hi hn hc => ?_⟩, .refl _ _ _⟩
        ·simp only [wCode, hq, hbody, c1, p2]
         simp [hst, hj]
        ·obtain ⟨o', k1, k2⟩ := e02.keep i o hi
         refine ⟨o', ?_, k2⟩; simp only [THp.set]; rw [List.getElem?_set_ne (by have := lt_of_get hi; omega)]; exact k1
        ·rw [AH.get_set, if_neg (by omega)]; exact e02.frame c hc hn
        ·rw [AH.get_set, if_neg (by have := (hR.lt i c hi).1; omega)]
         exact d2 i c hi fun hm => hn (List.mem_cons_of_mem _ hm)
        ·have hi' : m2.ρ i = some c := by
          by_cases ei : i = h.os.length
          ·rw [ei, updM_self] at hi; cases hi
          ·rwa [updM_ne _ _ ei] at hi
         rcases d3 i c hi' with q | ⟨j, j1, q⟩ | q
         ·exact .inl q
         ·exact .inr (.inl ⟨j, List.mem_cons_of_mem _ j1, q⟩)
         ·exact .inr (.inr q)
        ·have el : l = h.os.length :: dl := List.append_cancel_right (hl.symm.trans (by simp [THp.set, d1]))
         subst el; rw [updM_ne _ _ fun e => by subst e; exact hn (List.mem_cons_self ..)] at hc; exact e02.old dl d1 i c hi (fun q => hn (List.mem_cons_of_mem _ q)) hc
       ·cases kk
     ·cases kk
    | _ => rw [hq] at hfv; cases hfv
  ·cases he
end Go.TM
