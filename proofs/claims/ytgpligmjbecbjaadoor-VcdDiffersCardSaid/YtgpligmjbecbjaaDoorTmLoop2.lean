/- Loops: a round, and all rounds. -/

import Derived.Test.YtgpligmjbecbjaaDoorTmLoop
set_option linter.unusedVariables false
set_option linter.unusedSimpArgs false
set_option linter.unusedSectionVars false
namespace Go.TM
open Go Go.AM

theorem mapI_get {α β : Type} (f : Nat → α → β) : ∀ (l : List α) (k i : Nat), (mapI f k l)[i]? = (l[i]?).map (f (k + i)) := by
 intro l
 induction l with
 | nil => intro k i; rfl
 | cons x r ih =>
  intro k i
  cases i with
  | zero => rfl
  | succ i =>
   simp only [mapI, List.getElem?_cons_succ, ih]
   rw [show k + 1 + i = k + (i + 1) by omega]
theorem mapI_length {α β : Type} (f : Nat → α → β) : ∀ (l : List α) (k : Nat), (mapI f k l).length = l.length := by
 intro l
 induction l with
 | nil => intro k; rfl
 | cons x r ih => intro k; simp only [mapI, List.length_cons, ih]
def tmOs (l : List RSh) (kill : List Nat) (os : List TObj) : List TObj := mapI (tmplObj l kill) 0 os
theorem tmOs_get (l : List RSh) (kill : List Nat) (os : List TObj) (i : Nat) : (tmOs l kill os)[i]? = (os[i]?).map (tmplObj l kill i) := by
 have := mapI_get (tmplObj l kill) os 0 i
 rwa [Nat.zero_add] at this
theorem tmOs_length (l : List RSh) (kill : List Nat) (os : List TObj) : (tmOs l kill os).length = os.length := mapI_length _ _ _
theorem tmplEnv_get (l : List RSh) (wr : List Nat) (env : List TV) (i : Nat) : (tmplEnv l wr env)[i]? = (env[i]?).map fun v => if wr.contains i || (slotsOf l).contains i then .junk else v := by
 have := mapI_get (fun i v => if wr.contains i || (slotsOf l).contains i then TV.junk else v) env 0 i
 rwa [Nat.zero_add] at this
theorem tmplEnv_length (l : List RSh) (wr : List Nat) (env : List TV) : (tmplEnv l wr env).length = env.length := mapI_length _ _ _

def UnA (w : List Nat) (env env' : List TV) (a a' : Env) : Prop := env'.length = env.length ∧ ∀ i, i ∉ w → a'[i]? = a[i]?
theorem UnA.refl (w : List Nat) (env : List TV) (a : Env) : UnA w env env a a := ⟨rfl, fun _ _ => rfl⟩
theorem UnA.trans {w : List Nat} {e e1 e2 : List TV} {a a1 a2 : Env} (h : UnA w e e1 a a1) (k : UnA w e1 e2 a1 a2) : UnA w e e2 a a2 :=
 ⟨k.1.trans h.1, fun i hi => (k.2 i hi).trans (h.2 i hi)⟩
theorem UnA.mono {w w' : List Nat} {e e1 : List TV} {a a1 : Env} (h : UnA w e e1 a a1) (hw : ∀ i ∈ w, i ∈ w') : UnA w' e e1 a a1 := ⟨h.1, fun i hi => h.2 i fun q => hi (hw i q)⟩
theorem Unw.a {w : List Nat} {e e1 : List TV} {a a1 : Env} (h : Unw w e e1 a a1) : UnA w e e1 a a1 := ⟨h.1, fun i hi => (h.2 i hi).2⟩

structure LW (m : Mp) (H : AH) (osT : List TObj) (ms : List Nat) (m' : Mp) (H' : AH) : Prop where
 gle : Gle m.G m'.G
 next : H.next ≤ H'.next
 frame : ∀ b, b < H.next → (∀ i : Key, m.ρ i ≠ some b) → H'.get b = H.get b
 back : ∀ (i : Key) b, m'.ρ i = some b → (∃ j : Key, m.ρ j = some b) ∨ H.next ≤ b
 gg : ∀ b c, m'.G b = some c → m.G b = some c ∨ (∃ i : Key, m.ρ i = some b) ∨ H.next ≤ b
 fix : ∀ (i : Nat) b, isFix osT i → m.ρ i = some b → m'.ρ i = some b
 row : ∀ (i : Nat) w t l tid, osT[i]? = some (.row w t l tid) → m'.ρ i = m.ρ i
 frm : ∀ (i : Nat) a b c d e f g, osT[i]? = some (.frame a b c d e f g) → m'.ρ i = m.ρ i
 mat : ∀ (i : Nat) o t tid nt ver, osT[i]? = some o → matI o = some (t, tid, nt, ver) → i ∉ ms → m'.ρ i = m.ρ i ∧ m'.ν i = m.ν i ∧ m'.μ i = m.μ i
theorem LW.refl (m : Mp) (H : AH) (osT : List TObj) (ms : List Nat) : LW m H osT ms m H :=
 ⟨.refl _, Nat.le_refl _, fun _ _ _ => rfl, fun i b h => .inl ⟨i, h⟩, fun _ _ h => .inl h, fun _ _ _ h => h, fun _ _ _ _ _ _ => rfl, fun _ _ _ _ _ _ _ _ _ => rfl, fun _ _ _ _ _ _ _ _ _ => ⟨rfl, rfl, rfl⟩⟩

structure LHead (m : Mp) (os : List TObj) (H : AH) (env : List TV) (a : Env) (l : List RSh) (kill wr : List Nat) (st : St l) (a' : Env) (mF : Mp) (H' : AH) : Prop where
 hr : HR mF (fill l st ⟨tmplEnv l wr env, tmOs l kill os⟩).os H'
 rl : RL mF (fill l st ⟨tmplEnv l wr env, tmOs l kill os⟩).os (fill l st ⟨tmplEnv l wr env, tmOs l kill os⟩).env a'
 lw : LW m H (tmOs l kill os) (matsOf l) mF H'
 fo : ∀ (i : Nat) o, (tmOs l kill os)[i]? = some o → ∃ o', (fill l st ⟨tmplEnv l wr env, tmOs l kill os⟩).os[i]? = some o' ∧ FO l i o o'
 it : ∀ id s, RSh.iter id s ∈ l → ∃ n, (fill l st ⟨tmplEnv l wr env, tmOs l kill os⟩).os[id]? = some (.iter true s n)
 sl : ∀ i, i ∉ slotsOf l → (fill l st ⟨tmplEnv l wr env, tmOs l kill os⟩).env[i]? = (tmplEnv l wr env)[i]?
 len : (fill l st ⟨tmplEnv l wr env, tmOs l kill os⟩).env.length = env.length
 ua : ∀ i, i ∉ wr → a'[i]? = a[i]?
 mt : ∀ id t tid nt ver, RSh.mat id t tid nt ver ∈ l → (mF.ρ id = m.ρ id ∧ mF.ν id = m.ν id ∧ mF.μ id = m.μ id) ∧ ∃ r, (fill l st ⟨tmplEnv l wr env, tmOs l kill os⟩).os[id]? = some (.mat true t r tid nt ver none)

theorem fill_iters : ∀ (l : List RSh) (v : St l) (e : TS), (∀ id s, RSh.iter id s ∈ l → ∃ o, e.os[id]? = some o ∧ (o = .lost ∨ ∃ w s' n, o = .iter w s' n)) → (itersOf l).Nodup → (∀ id, id ∈ itersOf l → id ∉ matsOf l) →
  (∀ id s, RSh.iter id s ∈ l → ∃ n, (fill l v e).os[id]? = some (.iter true s n)) ∧ ∀ (id : Nat) o, id ∉ itersOf l → id ∉ matsOf l → e.os[id]? = some o → (o = .lost ∨ ∃ w s' n, o = .iter w s' n) → (fill l v e).os[id]? = some o := by
 intro l
 induction l with
 | nil => intro v e _ _ _; exact ⟨fun id s h => (by cases h), fun id o _ _ h _ => h⟩
 | cons x l ih =>
  intro v e he hn hdj
  have hn2 : (itersOf l).Nodup := by
   cases x <;> simp only [itersOf] at hn <;> first | exact hn | exact (List.nodup_cons.1 hn).2
  have stay : ∀ (id : Nat) o, (∀ s, x ≠ .iter id s) → id ∉ matsOf (x :: l) → e.os[id]? = some o → (o = .lost ∨ ∃ w s' n, o = .iter w s' n) → (fill1 x v.1 e).os[id]? = some o := fun id o hx hxm ho hk => by
   have cell : ∀ (os : List TObj) (id' j : Nat) (u : TV), os[id]? = some o → (setCell os id' j u)[id]? = some o := fun os id' j u h => by
    unfold setCell
    split
    ·rename_i w cs tid hat
     have h2 := os_getD hat (by simp)
     have hne : id' ≠ id := fun q => by
      subst q; rw [h] at h2; cases h2
      rcases hk with hk | ⟨_, _, _, hk⟩ <;> cases hk
     rw [List.getElem?_set_ne hne]; exact h
    ·exact h
   cases x with
   | val i s => exact ho
   | own i t tid => simp only [fill1]; rw [List.getElem?_append_left (lt_of_get ho)]; exact ho
   | cell id' j s => exact cell _ _ _ _ ho
   | ownC id' j t tid =>
    simp only [fill1]
    have := cell e.os id' j (.own e.os.length) ho
    rw [List.getElem?_append_left (lt_of_get this)]; exact this
   | ownM i t tid nt => simp only [fill1]; rw [List.getElem?_append_left (lt_of_get ho)]; exact ho
   | mat id' t tid nt ver => simp only [fill1]; rw [List.getElem?_set_ne fun q => hxm (by subst q; exact List.mem_cons_self ..)]; exact ho
   | ownMC id' j t tid nt =>
    simp only [fill1]
    have := cell e.os id' j (.own e.os.length) ho
    rw [List.getElem?_append_left (lt_of_get this)]; exact this
   | selfp id' j => exact cell _ _ _ _ ho
   | bufC id' j tid =>
    simp only [fill1]
    have := cell e.os id' j (.buf e.os.length) ho
    rw [List.getElem?_append_left (lt_of_get this)]; exact this
   | iter id' s =>
    simp only [fill1]
    have hne : id' ≠ id := fun q => hx s (by rw [q])
    rw [List.getElem?_set_ne hne]; exact ho
  have self : ∀ id s, x = .iter id s → ∃ n, (fill1 x v.1 e).os[id]? = some (.iter true s n) := fun id s hx => by
   subst hx
   obtain ⟨o, ho, -⟩ := he id s (List.mem_cons_self ..)
   exact ⟨v.1, by simp only [fill1]; rw [List.getElem?_set_self (lt_of_get ho)]⟩
  have he2 : ∀ id s, RSh.iter id s ∈ l → ∃ o, (fill1 x v.1 e).os[id]? = some o ∧ (o = .lost ∨ ∃ w s' n, o = .iter w s' n) := fun id s hm => by
   obtain ⟨o, ho, hk⟩ := he id s (List.mem_cons_of_mem _ hm)
   by_cases hx : ∃ s', x = .iter id s'
   ·obtain ⟨s', hx⟩ := hx
    subst hx
    simp only [itersOf, List.nodup_cons] at hn
    exact absurd (iters_mem hm) hn.1
   ·exact ⟨o, stay id o (fun s' q => hx ⟨s', q⟩) (hdj id (itersOf_cons (iters_mem hm))) ho hk, hk⟩
  obtain ⟨g1, g2⟩ := ih v.2 (fill1 x v.1 e) he2 hn2 fun id h1 h2 => hdj id (itersOf_cons h1) (matsOf_cons h2)
  refine ⟨fun id s hm => ?_, fun id o hid hmd ho hk => ?_⟩
  ·rcases List.mem_cons.1 hm with hm | hm
   ·obtain ⟨n, hn'⟩ := self id s hm.symm
    refine ⟨n, g2 id _ ?_ (fun q => hdj id (by subst hm; exact List.mem_cons_self ..) (matsOf_cons q)) hn' (.inr ⟨_, _, _, rfl⟩)⟩
    subst hm
    simp only [itersOf, List.nodup_cons] at hn
    exact hn.1
   ·exact g1 id s hm
  ·refine g2 id o (fun q => hid (itersOf_cons q)) (fun q => hmd (matsOf_cons q)) (stay id o (fun s q => ?_) hmd ho hk) hk
   subst q
   exact hid (List.mem_cons_self ..)

theorem Old.of {m : Mp} {os : List TObj} {v : TV} {x : Value} (h : RV m os v x) : Old os.length v := ⟨m, os, x, rfl, h⟩

theorem itersOf_mem {id : Nat} : ∀ {l : List RSh}, id ∈ itersOf l → ∃ s, RSh.iter id s ∈ l := by
 intro l
 induction l with
 | nil => intro h; cases h
 | cons z r ih =>
  intro h
  cases z with
  | iter id' s =>
   simp only [itersOf, List.mem_cons] at h
   rcases h with rfl | h
   ·exact ⟨s, List.mem_cons_self ..⟩
   ·obtain ⟨s, hs⟩ := ih h; exact ⟨s, List.mem_cons_of_mem _ hs⟩
  | _ => obtain ⟨s, hs⟩ := ih h; exact ⟨s, List.mem_cons_of_mem _ hs⟩
theorem cellsOf_mem {id j : Nat} : ∀ {l : List RSh}, j ∈ cellsOf id l → (∃ s, RSh.cell id j s ∈ l) ∨ (∃ t tid, RSh.ownC id j t tid ∈ l) ∨ RSh.selfp id j ∈ l ∨ (∃ tid, RSh.bufC id j tid ∈ l) ∨ ∃ t tid nt, RSh.ownMC id j t tid nt ∈ l := by
 intro l
 induction l with
 | nil => intro h; cases h
 | cons z r ih =>
  intro h
  have next : j ∈ cellsOf id r → (∃ s, RSh.cell id j s ∈ z :: r) ∨ (∃ t tid, RSh.ownC id j t tid ∈ z :: r) ∨ RSh.selfp id j ∈ z :: r ∨ (∃ tid, RSh.bufC id j tid ∈ z :: r) ∨ ∃ t tid nt, RSh.ownMC id j t tid nt ∈ z :: r := fun h => by
   rcases ih h with ⟨s, h⟩ | ⟨t, tid, h⟩ | h | ⟨tid, h⟩ | ⟨t, tid, nt, h⟩
   ·exact .inl ⟨s, List.mem_cons_of_mem _ h⟩
   ·exact .inr (.inl ⟨t, tid, List.mem_cons_of_mem _ h⟩)
   ·exact .inr (.inr (.inl (List.mem_cons_of_mem _ h)))
   ·exact .inr (.inr (.inr (.inl ⟨tid, List.mem_cons_of_mem _ h⟩)))
   ·exact .inr (.inr (.inr (.inr ⟨t, tid, nt, List.mem_cons_of_mem _ h⟩)))
  cases z with
  | cell b j' s =>
   simp only [cellsOf] at h
   split at h
   ·rename_i e; subst e
    rcases List.mem_cons.1 h with rfl | h
    ·exact .inl ⟨s, List.mem_cons_self ..⟩
    ·exact next h
   ·exact next h
  | ownC b j' t tid =>
   simp only [cellsOf] at h
   split at h
   ·rename_i e; subst e
    rcases List.mem_cons.1 h with rfl | h
    ·exact .inr (.inl ⟨t, tid, List.mem_cons_self ..⟩)
    ·exact next h
   ·exact next h
  | selfp b j' =>
   simp only [cellsOf] at h
   split at h
   ·rename_i e; subst e
    rcases List.mem_cons.1 h with rfl | h
    ·exact .inr (.inr (.inl (List.mem_cons_self ..)))
    ·exact next h
   ·exact next h
  | bufC b j' tid =>
   simp only [cellsOf] at h
   split at h
   ·rename_i e; subst e
    rcases List.mem_cons.1 h with rfl | h
    ·exact .inr (.inr (.inr (.inl ⟨tid, List.mem_cons_self ..⟩)))
    ·exact next h
   ·exact next h
  | ownMC b j' t tid nt =>
   simp only [cellsOf] at h
   split at h
   ·rename_i e; subst e
    rcases List.mem_cons.1 h with rfl | h
    ·exact .inr (.inr (.inr (.inr ⟨t, tid, nt, List.mem_cons_self ..⟩)))
    ·exact next h
   ·exact next h
  | _ => exact next h

theorem tmpl_BO {m : Mp} {os : List TObj} {H : AH} (hR : HR m os H) (l : List RSh) (kill : List Nat) {i : Nat} {o : TObj} (ho : os[i]? = some o) : BO os.length o (tmplObj l kill i o) := by
 have hobj := hR.obj i o ho
 cases o with
 | dead => rfl
 | row w t r tid =>
  show BO _ _ (if kill.contains i then _ else _)
  split
  ·exact .inr rfl
  ·exact .inl ⟨false, rfl⟩
 | fro t r => exact .inl rfl
 | mat w t r tid nt ver hole =>
  show BO _ _ (if kill.contains i then _ else if (matsOf l).contains i then _ else _)
  split
  ·exact .inr (.inl rfl)
  ·split
   ·exact .inr (.inr rfl)
   ·exact .inl ⟨false, rfl⟩
 | hid t tid nt ver => rfl
 | box w cs tid =>
  refine ⟨_, _, rfl, mapI_length _ _ _, mapI_length _ _ _, fun j h h' => ?_⟩
  have e := mapI_get (fun j v => if (cellsOf i l).contains j then TV.junk else v) cs 0 j
  rw [List.getElem?_eq_getElem h, List.getElem?_eq_getElem h', Nat.zero_add] at e
  simp only [Option.map_some, Option.some.injEq] at e
  rw [e]
  split
  ·exact .inl rfl
  ·obtain ⟨b, c, _, _, _, h4⟩ := hobj
   exact .inr ⟨rfl, .of (h4.2 j h' (by rw [← h4.1]; exact h'))⟩
 | frame tmps ps asg body st pend ctx =>
  refine ⟨ctx, rfl, fun v hv => ?_⟩
  obtain ⟨b, tm', _, _, h3⟩ := hobj
  obtain ⟨j, hj, rfl⟩ := List.getElem_of_mem hv
  exact .of (h3.2 j hj (by rw [← h3.1]; exact hj))
 | iter w s pos =>
  show BO _ _ (if (itersOf l).contains i then _ else _)
  split
  ·exact .inr rfl
  ·exact .inl ⟨false, rfl⟩
 | lost => rfl

theorem round_BO {m : Mp} {os : List TObj} {H : AH} (hR : HR m os H) (l : List RSh) (kill : List Nat) {i : Nat} {o oF o1 : TObj} (ho : os[i]? = some o) (hF : FO l i (tmplObj l kill i o) oF) (hk : KeepO oF o1)
  (hrest : ∀ tmps ps asg body st pend ctx tmps' ps' asg' body' st' pend' ctx', o = .frame tmps ps asg body st pend ctx → o1 = .frame tmps' ps' asg' body' st' pend' ctx' → st' = st ∧ pend' = pend)
  (hent : ∀ t tid nt ver, RSh.mat i t tid nt ver ∈ l → (∃ r, o = .mat true t r tid nt ver none) ∧ ∃ r, o1 = .mat true t r tid nt ver none) : BO os.length o1 (tmplObj l kill i o) := by
 have hobj := hR.obj i o ho
 cases o with
 | dead => cases (show oF = _ from hF); cases (show o1 = _ from hk); rfl
 | row w t r tid =>
  revert hF
  show FO l i (if kill.contains i then _ else _) oF → BO _ _ (if kill.contains i then _ else _)
  split
  ·intro hF; cases (show oF = _ from hF); cases (show o1 = _ from hk); rfl
  ·intro hF; cases (show oF = _ from hF)
   rcases hk with ⟨-, rfl⟩ | ⟨h, -⟩
   ·exact .inl ⟨false, rfl⟩
   ·cases h
 | fro t r => cases (show oF = _ from hF); cases (show o1 = _ from hk); exact .inl rfl
 | mat w t r tid nt ver hole =>
  revert hF
  show FO l i (if kill.contains i then _ else if (matsOf l).contains i then _ else _) oF → BO _ _ (if kill.contains i then _ else if (matsOf l).contains i then _ else _)
  split
  ·intro hF; cases (show oF = _ from hF); cases (show o1 = _ from hk); rfl
  ·split
   ·rename_i hc
    intro _
    obtain ⟨t', tid', nt', ver', hm⟩ := matsOf_mem (l := l) (id := i) (by simpa using hc)
    obtain ⟨⟨r', e⟩, r2, rfl⟩ := hent _ _ _ _ hm
    cases e
    exact .inr (.inr rfl)
   ·intro hF; cases (show oF = _ from hF)
    rcases hk with ⟨-, rfl⟩ | ⟨h, -⟩
    ·exact .inl ⟨false, rfl⟩
    ·cases h
 | hid t tid nt ver =>
  rcases hF with rfl | ⟨hc, r, rfl⟩
  ·cases (show o1 = _ from hk); rfl
  ·obtain ⟨t', tid', nt', ver', hm⟩ := matsOf_mem hc
   obtain ⟨⟨r', e⟩, -⟩ := hent _ _ _ _ hm
   cases e
 | box w cs tid =>
  obtain ⟨cs1, rfl, f1, f2⟩ := hF
  obtain ⟨cs2, rfl, k1, k2⟩ := hk
  rw [mapI_length] at f1
  refine ⟨_, _, rfl, by rw [mapI_length]; omega, by simp, fun j h h' => ?_⟩
  rw [mapI_length] at h
  have h1 : j < cs1.length := by omega
  have e := mapI_get (fun j v => if (cellsOf i l).contains j then TV.junk else v) cs 0 j
  have ew := mapI_get (fun j b => b && (cellsOf i l).contains j) w 0 j
  obtain ⟨b, c, _, _, h3, h4⟩ := hobj
  rw [Nat.zero_add, List.getElem?_eq_getElem h] at e
  rw [Nat.zero_add, List.getElem?_eq_getElem (by omega : j < w.length)] at ew
  simp only [Option.map_some] at e ew
  by_cases hj : (cellsOf i l).contains j = true
  ·left
   rw [List.getElem?_eq_getElem (by rw [mapI_length]; exact h)] at e
   simp only [Option.some.injEq] at e
   rw [e, if_pos hj]
  ·right
   have hnm : j ∉ cellsOf i l := fun q => hj (by simpa using q)
   have q1 := f2 j hnm
   have q2 := k2 j (by rw [ew]; simp [hj, hnm])
   rw [q1, e, if_neg hj] at q2
   rw [List.getElem?_eq_getElem h'] at q2
   rw [List.getElem?_eq_getElem (by rw [mapI_length]; exact h)] at e
   simp only [Option.some.injEq] at e q2
   rw [e, if_neg hj, q2]
   exact ⟨rfl, .of (h4.2 j h (by rw [← h4.1]; exact h))⟩
 | frame tmps ps asg body st pend ctx =>
  cases (show oF = _ from hF)
  obtain ⟨st', pend', rfl⟩ := hk
  obtain ⟨rfl, rfl⟩ := hrest _ _ _ _ _ _ _ _ _ _ _ _ _ _ rfl rfl
  refine ⟨ctx, rfl, fun v hv => ?_⟩
  obtain ⟨b, tm', _, _, h3⟩ := hobj
  obtain ⟨j, hj, rfl⟩ := List.getElem_of_mem hv
  exact .of (h3.2 j hj (by rw [← h3.1]; exact hj))
 | iter w s pos =>
  revert hF
  show FO l i (if (itersOf l).contains i then _ else _) oF → BO _ _ (if (itersOf l).contains i then _ else _)
  split
  ·intro hF
   rcases hF with rfl | ⟨_, s', n, rfl⟩
   ·cases (show o1 = _ from hk); rfl
   ·obtain ⟨p', rfl, _⟩ := hk; exact .inr rfl
  ·intro hF; cases (show oF = _ from hF)
   obtain ⟨p', rfl, h2⟩ := hk
   rw [h2 rfl]
   exact .inl ⟨false, rfl⟩
 | lost =>
  rcases hF with rfl | ⟨_, s', n, rfl⟩
  ·cases (show o1 = _ from hk); rfl
  ·obtain ⟨p', rfl, _⟩ := hk; exact .inr rfl

theorem head_of {m : Mp} {os : List TObj} {H : AH} {env : List TV} {a : Env} (hR : HR m os H) {l : List RSh} {kill wr : List Nat} (hv : l.all (varyOk os) = true) (hn : (itersOf l).Nodup)
  (hres : ∀ id s, RSh.iter id s ∈ l → ∃ n, os[id]? = some (.iter true s n))
  {m1 : Mp} {os1 : List TObj} {H1 : AH} {env1 : List TV} {a1 : Env} (hR1 : HR m1 os1 H1) (ha1 : RL m1 os1 env1 a1) (hle : os.length ≤ os1.length)
  (hB : ∀ (i : Nat) o, (tmOs l kill os)[i]? = some o → ∃ o1, os1[i]? = some o1 ∧ BO os.length o1 o) (hlen : env1.length = env.length)
  (henv : ∀ (i : Nat) v x, env[i]? = some v → a1[i]? = some x → i ∉ wr → i ∉ slotsOf l → RV m1 os1 v x ∧ Old os.length v) (hlw : LW m H (tmOs l kill os) (matsOf l) m1 H1)
  {ids : List Nat} {st' : St l} (hb : backL env1 os1 l = some (ids, st')) (hnd : nodupN (matsOf l ++ ids) = true) (hkm : ∀ id ∈ matsOf l, id ∉ kill) (hmt : ∀ id t tid nt ver, RSh.mat id t tid nt ver ∈ l → m1.ρ id = m.ρ id ∧ m1.ν id = m.ν id ∧ m1.μ id = m.μ id) (hids : ∀ id ∈ ids, ∀ o, (tmOs l kill os)[id]? = some o → o = .dead)
  (hit : ∀ id s, RSh.iter id s ∈ l → ∀ w s' n, os1[id]? = some (.iter w s' n) → s' = s) (hua : ∀ i, i ∉ wr → a1[i]? = a[i]?) : ∃ m2, LHead m os H env a l kill wr st' a1 m2 H1 := by
 have hlT : (tmOs l kill os).length = os.length := tmOs_length _ _ _
 obtain ⟨mT, t1, tμ, t2, t3, t4, t5⟩ := base_sound hR1 (osB := tmOs l kill os) (by rw [hlT]; exact hle) (by rw [hlT]; exact hB)
 rw [hlT] at t5
 have rlT : RL mT (tmOs l kill os) (tmplEnv l wr env) a1 := by
  have hla : env.length = a1.length := by rw [← hlen]; exact ha1.1
  refine ⟨by rw [tmplEnv_length]; exact hla, fun i p q => ?_⟩
  rw [tmplEnv_length] at p
  have e := tmplEnv_get l wr env i
  rw [List.getElem?_eq_getElem p, List.getElem?_eq_getElem (by rw [tmplEnv_length]; exact p)] at e
  simp only [Option.map_some, Option.some.injEq] at e
  rw [e]
  split
  ·exact .junk _
  ·rename_i hno
   simp only [Bool.or_eq_true, List.contains_iff_mem, not_or] at hno
   obtain ⟨g1, g2⟩ := henv i env[i] a1[i] (List.getElem?_eq_getElem p) (List.getElem?_eq_getElem q) hno.1 hno.2
   exact t5 _ _ g2 g1
 obtain ⟨nd1, nd2, nd3⟩ := nodupN_parts hnd
 obtain ⟨rs, s1, s2, s3⟩ := backL_sat hR1 ha1 l ids st' hb nd2 hit
 have hvm : ∀ x ∈ l, varyOk os x = true := fun x hx => List.all_eq_true.1 hv x hx
 have boxT : ∀ id j, ((∃ s, RSh.cell id j s ∈ l) ∨ (∃ t tid, RSh.ownC id j t tid ∈ l) ∨ RSh.selfp id j ∈ l ∨ (∃ tid, RSh.bufC id j tid ∈ l) ∨ ∃ t tid nt, RSh.ownMC id j t tid nt ∈ l) → ∃ w cs tid, (tmOs l kill os)[id]? = some (.box w cs tid) := fun id j h => by
  have : ∃ w cs tid, os[id]? = some (.box w cs tid) := by
   rcases h with ⟨s, h⟩ | ⟨t, tid, h⟩ | h | ⟨tid, h⟩ | ⟨t, tid, nt, h⟩
   all_goals
    have h2 := hvm _ h
    simp only [varyOk] at h2
    split at h2
    ·rename_i w cs tid hat; exact ⟨w, cs, tid, os_getD hat (by simp)⟩
    ·cases h2
  obtain ⟨w, cs, tid, ho⟩ := this
  exact ⟨_, _, tid, by rw [tmOs_get, ho]; rfl⟩
 have itT : ∀ id s, RSh.iter id s ∈ l → (tmOs l kill os)[id]? = some .lost := fun id s h => by
  obtain ⟨n, ho⟩ := hres id s h
  have : (itersOf l).contains id = true := by simpa using iters_mem h
  rw [tmOs_get, ho]
  simp only [Option.map_some, tmplObj, this, if_true]
 have matT : ∀ id t tid nt ver, RSh.mat id t tid nt ver ∈ l → (tmOs l kill os)[id]? = some (.hid t tid nt ver) := fun id t tid nt ver h => by
  obtain ⟨r, ho⟩ := vary_mat hv h
  have h1 : (matsOf l).contains id = true := by simpa using mats_mem h
  have h2 : kill.contains id = false := by simpa using hkm id (mats_mem h)
  rw [tmOs_get, ho]
  simp only [Option.map_some, tmplObj, h1, h2, if_true]
  rfl
 have hPl : ∀ x ∈ l, PlOk (tmOs l kill os) x := fun x hx => by
  cases x with
  | val _ _ => trivial
  | own _ _ _ => trivial
  | cell id j s => exact boxT id j (.inl ⟨s, hx⟩)
  | ownC id j t tid => exact boxT id j (.inr (.inl ⟨t, tid, hx⟩))
  | selfp id j => exact boxT id j (.inr (.inr (.inl hx)))
  | bufC id j tid => exact boxT id j (.inr (.inr (.inr (.inl ⟨tid, hx⟩))))
  | ownM _ _ _ _ => trivial
  | ownMC id j t tid nt => exact boxT id j (.inr (.inr (.inr (.inr ⟨t, tid, nt, hx⟩))))
  | iter id s => exact itT id s hx
  | mat id t tid nt ver => exact matT id t tid nt ver hx
 have s1' : SatL mT H1 a1 l st' rs := by
  refine s1.rho t1 fun x hx id hid => ?_
  have hne : ∃ o, (tmOs l kill os)[id]? = some o ∧ o ≠ .dead := by
   have := hPl x hx
   cases x <;> simp only [plId, reduceCtorEq, Option.some.injEq] at hid <;> subst hid
   all_goals first
    | (obtain ⟨w, cs, tid, e⟩ := this; exact ⟨_, e, by simp⟩)
    | exact ⟨_, this, by simp⟩
  obtain ⟨o, e1, e2⟩ := hne
  exact ⟨fun b hb => by rw [t3 id o e1 e2]; exact hb, fun _ => ⟨fun k hk => t3 k o (by rw [hk]; exact e1) e2, congrFun tμ.1 id, congrFun tμ.2 id⟩⟩
 obtain ⟨m2, f1, f2, f3, f4, f5, f6, f7, f8, f9⟩ := fill_all l st' rs t4 rlT hPl hn (nodupN_nodup nd1) s1' fun k hk b hb i hi => by
  obtain ⟨id, g1, g2⟩ := s2 k hk b hb
  obtain ⟨h1, o, h2, h3⟩ := t2 i b hi
  have := hR1.inj i id b h1 g2
  subst this
  exact h3 (hids _ g1 o h2)
 have fi := (fill_iters l st' ⟨tmplEnv l wr env, tmOs l kill os⟩ (fun id s h => ⟨_, itT id s h, .inl rfl⟩) hn fun id h1 h2 => by
  obtain ⟨s, h1⟩ := itersOf_mem h1
  obtain ⟨t, tid, nt, ver, h2⟩ := matsOf_mem h2
  have e1 := itT id s h1
  rw [matT id t tid nt ver h2] at e1; cases e1).1
 refine ⟨m2, f1, f2, ⟨?_, hlw.next, hlw.frame, fun i b hi => ?_, fun b c hc => hlw.gg b c (by rw [f3, t1] at hc; exact hc), fun i b hf hi => ?_, fun i w t r tid ho => ?_, fun i A B C D E F G ho => ?_, fun i o t tid nt ver ho hi hms => ?_⟩, f6, fi, f7, by rw [f8, tmplEnv_length], hua, fun id t tid nt ver hm => ?_⟩
 ·rw [f3, t1]; exact hlw.gle
 ·rcases f5 i b hi with h | h
  ·exact hlw.back i b (t2 i b h).1
  ·obtain ⟨k, hk, h⟩ := h
   obtain ⟨id, -, g2⟩ := s2 k hk b h
   exact hlw.back id b g2
 ·have h1 := hlw.fix i b hf hi
  have hf' := hf
  unfold isFix at hf'
  cases e : (tmOs l kill os)[i]? with
  | none => rw [e] at hf'; exact hf'.elim
  | some o =>
   rw [e] at hf'
   exact f4.fix i b ((t3 i o e (by intro q; subst q; exact hf')).trans h1) hf
 ·obtain ⟨o', h1, h2⟩ := f6 i _ ho
  cases (show o' = _ from h2)
  rw [f4.row i _ _ _ _ _ _ _ _ ho h1, t3 i _ ho (by simp), hlw.row i _ _ _ _ ho]
 ·obtain ⟨o', h1, h2⟩ := f6 i _ ho
  cases (show o' = _ from h2)
  rw [f4.frm i _ _ _ _ _ _ _ _ _ _ _ _ _ _ ho h1, t3 i _ ho (by simp), hlw.frm i _ _ _ _ _ _ _ ho]
 ·obtain ⟨o', h1, h2⟩ := f6 i _ ho
  have e : o' = o := by
   cases o with
   | mat => exact h2
   | hid => exact h2.resolve_right fun q => hms q.1
   | _ => cases hi
  subst e
  obtain ⟨g1, g2, g3⟩ := f4.mat i _ _ _ _ _ _ _ _ _ _ ho hi h1 hi
  obtain ⟨q1, q2, q3⟩ := hlw.mat i _ _ _ _ _ ho hi hms
  refine ⟨(g1.trans (t3 i _ ho (by intro q; subst q; cases hi))).trans q1, (g2.trans (congrFun tμ.2 i)).trans q2, ((g3 rfl).trans (congrFun tμ.1 i)).trans q3⟩
 ·obtain ⟨r, h1⟩ := f9 id t tid nt ver hm
  have hT := matT id t tid nt ver hm
  obtain ⟨g1, g2, g3⟩ := f4.mat id _ _ _ _ _ _ _ _ _ _ hT rfl h1 rfl
  obtain ⟨q1, q2, q3⟩ := hmt id t tid nt ver hm
  exact ⟨⟨(g1.trans (t3 id _ hT (by simp))).trans q1, (g2.trans (congrFun tμ.2 id)).trans q2, ((g3 rfl).trans (congrFun tμ.1 id)).trans q3⟩, r, h1⟩

theorem resM_iter {os : List TObj} {id : Nat} {s : List UInt8} : ∀ (v : TV) (h : True), resM os v ≠ some (.iter id s) := by
 intro v _ h
 unfold resM at h
 split at h
 ·split at h <;> cases h
 ·cases h
theorem resL_iter {env : List TV} {os : List TObj} : ∀ (sh : List Sh) (l : List RSh), resL env os sh = some l → ∀ id s, RSh.iter id s ∈ l → ∃ n, os[id]? = some (.iter true s n) := by
 intro sh
 induction sh with
 | nil => intro l h id s hm; cases h; cases hm
 | cons x r ih =>
  intro l h id s hm
  simp only [resL] at h
  split at h
  ·rename_i y hy
   split at h
   ·rename_i l' hl'
    cases h
    rcases List.mem_cons.1 hm with hm | hm
    ·subst hm
     cases x with
     | iter p =>
      simp only [res1] at hy
      split at hy
      ·rename_i id' hid
       split at hy
       ·rename_i s' n hat
        cases hy
        exact ⟨n, os_getD hat (by simp)⟩
       ·cases hy
      ·cases hy
     | val i s => cases hy
     | own i t tid => cases hy
     | cell p j s => simp only [res1] at hy; split at hy <;> cases hy
     | ownC p j t tid => simp only [res1] at hy; split at hy <;> cases hy
     | ownM i t tid nt => cases hy
     | matS i => exact absurd hy (resM_iter _ trivial)
     | matC p j =>
      simp only [res1] at hy
      split at hy
      ·exact absurd hy (resM_iter _ trivial)
      ·cases hy
     | ownMC p j t tid nt => simp only [res1] at hy; split at hy <;> cases hy
     | selfp p j => simp only [res1] at hy; split at hy <;> cases hy
     | bufC p j tid => simp only [res1] at hy; split at hy <;> cases hy
    ·exact ih l' hl' id s hm
   ·cases h
  ·cases h

theorem restOk_at : ∀ (os os1 : List TObj), restOk os os1 = true → ∀ (i : Nat) o o1, os[i]? = some o → os1[i]? = some o1 → ∀ tmps ps asg body st pend ctx tmps' ps' asg' body' st' pend' ctx', o = .frame tmps ps asg body st pend ctx → o1 = .frame tmps' ps' asg' body' st' pend' ctx' → st' = st ∧ pend' = pend := by
 intro os
 induction os with
 | nil => intro os1 _ i o o1 h; cases h
 | cons x r ih =>
  intro os1 h i o o1 h1 h2 tmps ps asg body st pend ctx tmps' ps' asg' body' st' pend' ctx' e1 e2
  cases os1 with
  | nil => cases h2
  | cons y s =>
   have tl : restOk r s = true := by
    cases x <;> simp only [restOk, Bool.and_eq_true] at h <;> first | exact h | exact h.2
   cases i with
   | succ i => exact ih s tl i o o1 h1 h2 _ _ _ _ _ _ _ _ _ _ _ _ _ _ e1 e2
   | zero =>
    simp only [List.getElem?_cons_zero, Option.some.injEq] at h1 h2
    subst h1; subst h2; subst e1; subst e2
    simp only [restOk, Bool.and_eq_true, beq_iff_eq, Option.isNone_iff_eq_none] at h
    obtain ⟨⟨⟨h1, h2⟩, h3⟩, -⟩ := h
    exact ⟨h1.symm, by rw [h2, h3]⟩

theorem FO.fix {l : List RSh} {id : Nat} {o o' : TObj} (h : FO l id o o') (hf : isFixO o) : isFixO o' := by
 cases o with
 | box w cs tid => obtain ⟨cs', rfl, _⟩ := h; trivial
 | lost => rcases h with rfl | ⟨_, _, _, rfl⟩ <;> trivial
 | iter w s n => cases (show o' = _ from h); trivial
 | _ => exact hf.elim
theorem tmOs_row {l : List RSh} {kill : List Nat} {os : List TObj} {i : Nat} {w : Bool} {t : Ty} {r : List t.den} {tid : Nat} (h : (tmOs l kill os)[i]? = some (.row w t r tid)) : w = false ∧ ∃ w', os[i]? = some (.row w' t r tid) := by
 rw [tmOs_get] at h
 cases e : os[i]? with
 | none => rw [e] at h; cases h
 | some o =>
  rw [e] at h
  simp only [Option.map_some, Option.some.injEq] at h
  cases o <;> simp only [tmplObj] at h <;> (try split at h) <;> (try split at h) <;> cases h
  exact ⟨rfl, _, rfl⟩
theorem tmOs_mat {l : List RSh} {kill : List Nat} {os : List TObj} {i : Nat} {w : Bool} {t : Ty} {r : List t.den} {tid : Nat} {nt : List Nat} {ver : Nat} {hole : Option Nat} (h : (tmOs l kill os)[i]? = some (.mat w t r tid nt ver hole)) : w = false := by
 rw [tmOs_get] at h
 cases e : os[i]? with
 | none => rw [e] at h; cases h
 | some o =>
  rw [e] at h
  simp only [Option.map_some, Option.some.injEq] at h
  cases o <;> simp only [tmplObj] at h <;> (try split at h) <;> (try split at h) <;> cases h
  rfl
theorem LHead.after {m : Mp} {os : List TObj} {H : AH} {env : List TV} {a : Env} {l : List RSh} {kill wr : List Nat} {st : St l} {a' : Env} {mF : Mp} {H' : AH} (hd : LHead m os H env a l kill wr st a' mF H')
  {m1 : Mp} {h1 : THp} {H1 : AH} (he : Ext mF ⟨(fill l st ⟨tmplEnv l wr env, tmOs l kill os⟩).os, []⟩ H' m1 h1 H1) : LW m H (tmOs l kill os) (matsOf l) m1 H1 := by
 obtain ⟨dl, -, -, -, d3⟩ := he.dirty
 have hback : ∀ (i : Key) b, mF.ρ i = some b → (∃ j : Key, m.ρ j = some b) ∨ H.next ≤ b := hd.lw.back
 refine ⟨hd.lw.gle.trans he.le.gle, Nat.le_trans hd.lw.next he.next, fun b hb hn => ?_, fun i b hi => ?_, fun b c hc => ?_, fun i b hf hi => ?_, fun i w t r tid ho => ?_, fun i A B C D E F G ho => ?_, fun i o t tid nt ver ho hi hms => ?_⟩
 ·rw [he.frame b (Nat.lt_of_lt_of_le hb hd.lw.next) fun i hi => ?_, hd.lw.frame b hb hn]
  rcases hback i b hi with ⟨j, hj⟩ | h
  ·exact hn j hj
  ·omega
 ·rcases d3 i b hi with h | ⟨j, -, h⟩ | h
  ·exact hback i b h
  ·exact hback j b h
  ·exact .inr (Nat.le_trans hd.lw.next h)
 ·rcases he.gg b c hc with h | ⟨i, h⟩ | h
  ·exact hd.lw.gg b c h
  ·exact .inr (hback i b h)
  ·exact .inr (.inr (Nat.le_trans hd.lw.next h))
 ·refine he.le.fix i b (hd.lw.fix i b hf hi) ?_
  obtain ⟨o, h1, h2⟩ := isFix_iff.1 hf
  obtain ⟨o', h3, h4⟩ := hd.fo i o h1
  exact isFix_iff.2 ⟨o', h3, h4.fix h2⟩
 ·obtain ⟨rfl, -⟩ := tmOs_row ho
  obtain ⟨o', h3, h4⟩ := hd.fo i _ ho
  cases (show o' = _ from h4)
  obtain ⟨o2, h5, h6⟩ := he.keep i _ h3
  rcases h6 with ⟨-, rfl⟩ | ⟨h, -⟩
  ·rw [he.le.row i _ _ _ _ _ _ _ _ h3 h5]; exact hd.lw.row i _ _ _ _ ho
  ·cases h
 ·obtain ⟨o', h3, h4⟩ := hd.fo i _ ho
  cases (show o' = _ from h4)
  obtain ⟨o2, h5, h6⟩ := he.keep i _ h3
  obtain ⟨st', pend', rfl⟩ := h6
  rw [he.le.frm i _ _ _ _ _ _ _ _ _ _ _ _ _ _ h3 h5]; exact hd.lw.frm i _ _ _ _ _ _ _ ho
 ·obtain ⟨o', h3, h4⟩ := hd.fo i _ ho
  have e : o' = o := by
   cases o with
   | mat => exact h4
   | hid => exact h4.resolve_right fun q => hms q.1
   | _ => cases hi
  subst e
  obtain ⟨o2, h5, h6⟩ := he.keep i _ h3
  have e2 : o2 = o' := by
   cases o' with
   | mat w t r tid nt ver hole =>
    cases tmOs_mat ho
    rcases h6 with ⟨-, rfl⟩ | ⟨h, -⟩
    ·rfl
    ·cases h
   | hid t tid nt ver => exact h6
   | _ => cases hi
  subst e2
  obtain ⟨g1, g2, g3⟩ := he.le.mat i _ _ _ _ _ _ _ _ _ _ h3 hi h5 hi
  obtain ⟨q1, q2, q3⟩ := hd.lw.mat i _ _ _ _ _ ho hi hms
  exact ⟨g1.trans q1, g2.trans q2, (g3 rfl).trans q3⟩

theorem relockL_length : ∀ (A B : List TObj), (relockL A B).length = B.length := by
 intro A
 induction A with
 | nil => intro B; cases B <;> rfl
 | cons a r ih => intro B; cases B with
  | nil => rfl
  | cons b s => simp only [relockL, List.length_cons, ih]
theorem relockL_get : ∀ (A B : List TObj) (i : Nat), (relockL A B)[i]? = (B[i]?).map fun b => match A[i]? with | some a => relock a b | none => b := by
 intro A
 induction A with
 | nil => intro B i; cases B with
  | nil => rfl
  | cons b s => simp only [relockL]; cases (b :: s)[i]? <;> rfl
 | cons a r ih =>
  intro B i
  cases B with
  | nil => simp [relockL]
  | cons b s =>
   cases i with
   | zero => rfl
   | succ i => simp only [relockL, List.getElem?_cons_succ]; exact ih s i
theorem matI_unflag (o : TObj) : matI (unflag o) = matI o := by cases o <;> rfl
theorem relock_matI (a b : TObj) : matI (relock a b) = matI b := by cases a <;> cases b <;> rfl
theorem relock_non {a b : TObj} {x} (ha : matI a = some x) (hb : matI b = none) : relock a b = b := by
 cases a <;> first | (cases ha; done) | (cases b <;> first | rfl | cases hb)
theorem relock_unflag (a b : TObj) : unflag (relock a b) = unflag b := by
 cases a <;> cases b <;> rfl

theorem unflag_hr {m : Mp} {os os' : List TObj} {H : AH} (hR : HR m os H) (hl : os'.length = os.length) (h : ∀ (i : Nat) o', os'[i]? = some o' → ∃ o, os[i]? = some o ∧ unflag o' = unflag o ∧ ∀ w cs tid, o' = .box w cs tid → w.length = cs.length) :
  HR m os' H ∧ MapLe m os m os' := by
 have hm : MapLe m os m os' := by
  have hmk := mats_keepI (m := m) (m' := m) (os := os) (os' := os') fun i o x ho hx => by
   have hi : i < os'.length := by rw [hl]; exact lt_of_get ho
   obtain ⟨o2, g1, g2, -⟩ := h i os'[i] (List.getElem?_eq_getElem hi)
   rw [ho] at g1; cases g1
   exact .inl ⟨_, List.getElem?_eq_getElem hi, by rw [← matI_unflag, g2, matI_unflag]; exact hx, rfl, rfl, rfl⟩
  refine ⟨.refl _, fun i o ho => ?_, fun _ _ hb _ => hb, fun _ _ _ _ _ _ _ _ _ _ _ _ _ _ _ _ _ => rfl, fun _ _ _ _ _ _ _ _ _ _ _ => rfl, fun i w t l tid t' l' h1 h2 => ?_, hmk.1, hmk.2.1, hmk.2.2⟩
  ·have hi : i < os'.length := by rw [hl]; exact lt_of_get ho
   obtain ⟨o2, g1, g2, -⟩ := h i os'[i] (List.getElem?_eq_getElem hi)
   rw [ho] at g1; cases g1
   exact ⟨_, List.getElem?_eq_getElem hi, unflag_kw g2.symm⟩
  ·obtain ⟨o2, g1, g2, -⟩ := h i _ h2
   rw [h1] at g1; cases g1
   simp [unflag] at g2
 refine ⟨⟨hR.inj, fun i b hb => by rw [hl]; exact hR.lt i b hb, hR.disj, hR.gr, fun i o' ho' => ?_⟩, hm⟩
 obtain ⟨o, g1, g2, g3⟩ := h i o' ho'
 have hobj := (hR.obj i o g1).mono (H' := H) hm ⟨rfl, rfl⟩ (fun _ _ => rfl) fun _ _ _ _ => rfl
 cases o' <;> cases o <;> simp only [unflag, reduceCtorEq] at g2
 ·trivial
 ·simp only [TObj.row.injEq, true_and] at g2
  obtain ⟨rfl, g4, rfl⟩ := g2
  cases g4
  exact hobj
 ·simp only [TObj.fro.injEq] at g2
  obtain ⟨rfl, g4⟩ := g2
  cases g4
  exact hobj
 ·simp only [TObj.mat.injEq, true_and] at g2
  obtain ⟨rfl, g4, rfl, rfl, rfl, rfl⟩ := g2
  cases g4
  exact hobj
 ·trivial
 ·simp only [TObj.box.injEq, true_and] at g2
  obtain ⟨rfl, rfl⟩ := g2
  obtain ⟨b, c, a1, a2, a3, a4⟩ := hobj
  exact ⟨b, c, a1, a2, g3 _ _ _ rfl, a4⟩
 ·simp only [TObj.frame.injEq] at g2
  obtain ⟨rfl, rfl, rfl, rfl, rfl, rfl, rfl⟩ := g2
  exact hobj
 ·simp only [TObj.iter.injEq, true_and] at g2
  obtain ⟨rfl, rfl⟩ := g2
  exact hobj
 ·trivial

theorem loop_exit {m : Mp} {h : THp} {H : AH} {env : List TV} {a : Env} (hR : HR m h.os H) {l : List RSh} {kill wr : List Nat} (hv : l.all (varyOk h.os) = true) (hkill : ∀ id ∈ kill, ∃ o, h.os[id]? = some o ∧ Mov o)
  (hres : ∀ id s, RSh.iter id s ∈ l → ∃ n, h.os[id]? = some (.iter true s n)) {st : St l} {a' : Env} {mF : Mp} {H' : AH} (hd : LHead m h.os H env a l kill wr st a' mF H')
  {m1 : Mp} {h1 : THp} {H1 : AH} (he : Ext mF ⟨(fill l st ⟨tmplEnv l wr env, tmOs l kill h.os⟩).os, []⟩ H' m1 h1 H1) (hR1 : HR m1 h1.os H1) (dl : List Nat) (hdl : dl = gmark :: (List.range h1.os.length ++ h.dirty)) :
  HR m1 (relockL h.os h1.os) H1 ∧ MapLe m1 h1.os m1 (relockL h.os h1.os) ∧ Ext m h H m1 ⟨relockL h.os h1.os, dl⟩ H1 := by
 have hlw := hd.after he
 have hle : h.os.length ≤ h1.os.length := by
  by_cases hz : h.os.length = 0
  ·omega
  ·have hi : h.os.length - 1 < (tmOs l kill h.os).length := by rw [tmOs_length]; omega
   obtain ⟨o', g1, -⟩ := hd.fo _ _ (List.getElem?_eq_getElem hi)
   obtain ⟨o2, g2, -⟩ := he.keep _ _ g1
   have := lt_of_get g2; omega
 have kp : Keep h.os (relockL h.os h1.os) := fun i o ho => by
  have hT : (tmOs l kill h.os)[i]? = some (tmplObj l kill i o) := by rw [tmOs_get, ho]; rfl
  obtain ⟨oF, hF, fo⟩ := hd.fo i _ hT
  obtain ⟨o1, ho1, ko⟩ := he.keep i _ hF
  refine ⟨relock o o1, by rw [relockL_get, ho1, ho]; rfl, ?_⟩
  cases o with
  | dead => cases (show oF = _ from fo); cases (show o1 = _ from ko); rfl
  | row w t r tid =>
   revert fo
   show FO l i (if kill.contains i then _ else _) oF → _
   split
   ·rename_i hk
    intro fo; cases (show oF = _ from fo); cases (show o1 = _ from ko)
    obtain ⟨o', e, hm⟩ := hkill i (by simpa using hk)
    rw [ho] at e; cases e
    cases (show w = true from hm)
    exact .inr ⟨rfl, .inr (.inl rfl)⟩
   ·intro fo; cases (show oF = _ from fo)
    rcases ko with ⟨-, rfl⟩ | ⟨h, -⟩
    ·exact .refl _
    ·cases h
  | fro t r => cases (show oF = _ from fo); cases (show o1 = _ from ko); rfl
  | mat w t r tid nt ver hole =>
   by_cases hk : kill.contains i = true
   ·have e : tmplObj l kill i (.mat w t r tid nt ver hole) = .dead := by simp only [tmplObj, hk, if_true]
    rw [e] at fo
    cases (show oF = _ from fo); cases (show o1 = _ from ko)
    obtain ⟨o', e, hm⟩ := hkill i (by simpa using hk)
    rw [ho] at e; cases e
    cases (show w = true from hm.1)
    exact .inr ⟨rfl, .inr (.inr (.inl rfl))⟩
   ·by_cases hmm : i ∈ matsOf l
    ·obtain ⟨t', tid', nt', ver', hm⟩ := matsOf_mem hmm
     obtain ⟨r', e⟩ := vary_mat hv hm
     rw [ho] at e; cases e
     obtain ⟨⟨q1, q2, q3⟩, rF, hF'⟩ := hd.mt i _ _ _ _ hm
     rw [hF] at hF'; cases hF'
     have hl : rF.length = r.length := by
      have a := (hd.hr.obj i _ hF).1
      have b := (hR.obj i _ ho).1
      rw [a, q2, ← b]
     rcases ko with ⟨h, -⟩ | ⟨-, ⟨l', v', h', rfl, e1, e2⟩ | ⟨l', rfl, e1⟩ | rfl | ⟨l', rfl, e1⟩⟩
     ·cases h
     ·exact .inr ⟨rfl, .inl ⟨l', v', h', rfl, e1.trans hl, e2⟩⟩
     ·exact .inr ⟨rfl, .inr (.inl ⟨l', rfl, e1.trans hl⟩)⟩
     ·exact .inr ⟨rfl, .inr (.inr (.inl rfl))⟩
     ·exact .inr ⟨rfl, .inr (.inr (.inr ⟨l', rfl, e1.trans hl⟩))⟩
    ·have e : tmplObj l kill i (.mat w t r tid nt ver hole) = .mat false t r tid nt ver hole := by
      have h1 : kill.contains i = false := by simpa using hk
      have h2 : (matsOf l).contains i = false := by simpa using hmm
      simp only [tmplObj, h1, h2]; rfl
     rw [e] at fo
     cases (show oF = _ from fo)
     rcases ko with ⟨-, rfl⟩ | ⟨h, -⟩
     ·exact .refl _
     ·cases h
  | hid t tid nt ver =>
   rcases fo with rfl | ⟨hc, r, rfl⟩
   ·cases (show o1 = _ from ko); rfl
   ·obtain ⟨t', tid', nt', ver', hm⟩ := matsOf_mem hc
    obtain ⟨r', e⟩ := vary_mat hv hm
    rw [ho] at e; cases e
  | box w cs tid =>
   obtain ⟨cs1, rfl, f1, f2⟩ := fo
   obtain ⟨cs2, rfl, k1, k2⟩ := ko
   rw [mapI_length] at f1
   refine ⟨cs2, rfl, by omega, fun j hj => ?_⟩
   have ew := mapI_get (fun j b => b && (cellsOf i l).contains j) w 0 j
   have e := mapI_get (fun j v => if (cellsOf i l).contains j then TV.junk else v) cs 0 j
   rw [Nat.zero_add] at e ew
   rw [hj] at ew
   have hnm : j ∉ cellsOf i l := fun q => by
    have : w.getD j false = true := by
     rcases cellsOf_mem q with ⟨s, hm⟩ | ⟨t, tid', hm⟩ | hm | ⟨tid', hm⟩ | ⟨t, tid', nt, hm⟩
     all_goals
      have h2 := List.all_eq_true.1 hv _ hm
      simp only [varyOk] at h2
      rw [show h.os.getD i .dead = .box w cs tid by rw [List.getD_eq_getElem?_getD, ho]; rfl] at h2
      exact h2
    rw [List.getD_eq_getElem?_getD, hj] at this
    cases this
   rw [k2 j (by rw [ew]; rfl), f2 j hnm, e]
   cases cs[j]? with
   | none => rfl
   | some v => simp [hnm]
  | frame tmps ps asg body st pend ctx => cases (show oF = _ from fo); obtain ⟨st', pend', rfl⟩ := ko; exact ⟨st', pend', rfl⟩
  | iter w s pos =>
   revert fo
   show FO l i (if (itersOf l).contains i then _ else _) oF → _
   split
   ·rename_i hk
    intro _
    obtain ⟨s', hm⟩ := itersOf_mem (l := l) (id := i) (by simpa using hk)
    obtain ⟨n, hn⟩ := hres i s' hm
    rw [ho] at hn; cases hn
    obtain ⟨n', hn'⟩ := hd.it i s hm
    rw [hF] at hn'; cases hn'
    obtain ⟨p', rfl, -⟩ := ko
    exact ⟨p', rfl, fun h => by cases h⟩
   ·intro fo; cases (show oF = _ from fo)
    obtain ⟨p', rfl, h2⟩ := ko
    exact ⟨p', rfl, fun _ => h2 rfl⟩
  | lost =>
   rcases fo with rfl | ⟨hk, s', n, rfl⟩
   ·cases (show o1 = _ from ko); rfl
   ·obtain ⟨s', hm⟩ := itersOf_mem hk
    obtain ⟨n, hn⟩ := hres i s' hm
    rw [ho] at hn; cases hn
 obtain ⟨r1, r2⟩ := unflag_hr (os' := relockL h.os h1.os) hR1 (relockL_length _ _) fun i o' ho' => by
  rw [relockL_get] at ho'
  cases e1 : h1.os[i]? with
  | none => rw [e1] at ho'; cases ho'
  | some o1 =>
   rw [e1] at ho'
   simp only [Option.map_some, Option.some.injEq] at ho'
   refine ⟨o1, rfl, ?_, fun w cs tid e => ?_⟩
   ·subst ho'
    split
    ·exact relock_unflag _ _
    ·rfl
   ·subst e
    have hb := hR1.obj i o1 e1
    cases e0 : h.os[i]? with
    | none => rw [e0] at ho'; subst ho'; obtain ⟨_, _, _, _, h3, _⟩ := hb; exact h3
    | some o0 =>
     have hi : i < h.os.length := lt_of_get e0
     obtain ⟨o2, g1, g2⟩ := kp i o0 e0
     rw [relockL_get, e1, e0] at g1
     simp only [Option.map_some, Option.some.injEq] at g1
     rw [e0] at ho'
     simp only at ho'
     rw [ho'] at g1
     subst g1
     cases o0 with
     | box w0 cs0 tid0 =>
      obtain ⟨cs', e, h1, h2⟩ := g2
      cases e
      have := hR.obj i _ e0
      obtain ⟨_, _, _, _, h3, _⟩ := this
      omega
     | row w0 t0 l0 tid0 => rcases g2 with ⟨_, e⟩ | ⟨_, ⟨_, e, _⟩ | e | ⟨_, e, _⟩⟩ <;> cases e
     | mat _ _ _ _ _ _ _ => rcases g2 with ⟨_, e⟩ | ⟨_, ⟨_, _, _, e, _⟩ | ⟨_, e, _⟩ | e | ⟨_, e, _⟩⟩ <;> cases e
     | frame _ _ _ _ _ _ _ => obtain ⟨_, _, e⟩ := g2; cases e
     | iter _ _ _ => obtain ⟨_, e, _⟩ := g2; cases e
     | _ => cases g2
 have chain : ∀ (i : Nat) o x, h.os[i]? = some o → matI o = some x → (relockL h.os h1.os)[i]? = some .dead ∨ ∃ oF o1, (fill l st ⟨tmplEnv l wr env, tmOs l kill h.os⟩).os[i]? = some oF ∧ matI oF = some x ∧ h1.os[i]? = some o1 ∧ (relockL h.os h1.os)[i]? = some (relock o o1) ∧ mF.ρ i = m.ρ i ∧ mF.ν i = m.ν i ∧ mF.μ i = m.μ i := fun i o x g1 hx => by
  have hT : (tmOs l kill h.os)[i]? = some (tmplObj l kill i o) := by rw [tmOs_get, g1]; rfl
  obtain ⟨oF, hF, fo⟩ := hd.fo i _ hT
  obtain ⟨o1, ho1, ko⟩ := he.keep i _ hF
  have hget : (relockL h.os h1.os)[i]? = some (relock o o1) := by rw [relockL_get, ho1, g1]; rfl
  obtain ⟨t0, tid0, nt0, ver0⟩ := x
  cases o with
  | mat w t r tid nt ver hole =>
   by_cases hk : kill.contains i = true
   ·have e : tmplObj l kill i (.mat w t r tid nt ver hole) = .dead := by simp only [tmplObj, hk, if_true]
    rw [e] at fo
    cases (show oF = _ from fo); cases (show o1 = _ from ko)
    exact .inl hget
   ·have h1' : kill.contains i = false := by simpa using hk
    by_cases hmm : i ∈ matsOf l
    ·obtain ⟨t', tid', nt', ver', hm⟩ := matsOf_mem hmm
     obtain ⟨r', e⟩ := vary_mat hv hm
     rw [g1] at e; cases e
     obtain ⟨q, rF, hF'⟩ := hd.mt i _ _ _ _ hm
     exact .inr ⟨_, o1, hF', hx, ho1, hget, q⟩
    ·have e : tmplObj l kill i (.mat w t r tid nt ver hole) = .mat false t r tid nt ver hole := by
      have h2 : (matsOf l).contains i = false := by simpa using hmm
      simp only [tmplObj, h1', h2]; rfl
     rw [e] at fo hT
     cases (show oF = _ from fo)
     exact .inr ⟨_, o1, hF, hx, ho1, hget, hd.lw.mat i _ _ _ _ _ hT hx hmm⟩
  | hid t tid nt ver =>
   have hmm : i ∉ matsOf l := fun hc => by
    obtain ⟨t', tid', nt', ver', hm⟩ := matsOf_mem hc
    obtain ⟨r', e⟩ := vary_mat hv hm
    rw [g1] at e; cases e
   cases (show oF = _ from fo.resolve_right fun q => hmm q.1)
   exact .inr ⟨_, o1, hF, hx, ho1, hget, hd.lw.mat i _ _ _ _ _ hT hx hmm⟩
  | _ => cases hx
 have hmk1 : ∀ (i : Nat) o t tid nt ver o' t' tid' nt' ver', h.os[i]? = some o → matI o = some (t, tid, nt, ver) → (relockL h.os h1.os)[i]? = some o' → matI o' = some (t', tid', nt', ver') → m1.ρ i = m.ρ i ∧ m1.ν i = m.ν i ∧ (ver' = ver → m1.μ i = m.μ i) := fun i o t tid nt ver o' t' tid' nt' ver' h1 h2 h3 h4 => by
  rcases chain i o _ h1 h2 with e | ⟨oF, o1, c1, c2, c3, c4, c5, c6, c7⟩
  ·rw [h3] at e; cases e; cases h4
  ·rw [h3] at c4; cases c4
   rw [relock_matI] at h4
   obtain ⟨g1, g2, g3⟩ := he.le.mat i _ _ _ _ _ _ _ _ _ _ c1 c2 c3 h4
   exact ⟨g1.trans c5, g2.trans c6, fun q => (g3 q).trans c7⟩
 have hmk2 : ∀ (i : Nat) o t tid nt ver w' t' l' tid', h.os[i]? = some o → matI o = some (t, tid, nt, ver) → (relockL h.os h1.os)[i]? = some (.row w' t' l' tid') → m1.ρ i = m.ρ i ∧ l'.length = m.ν i := fun i o t tid nt ver w' t' l' tid' h1 h2 h3 => by
  rcases chain i o _ h1 h2 with e | ⟨oF, o1, c1, c2, c3, c4, c5, c6, c7⟩
  ·rw [h3] at e; cases e
  ·have hn : matI o1 = none := by
    rw [← relock_matI o o1]; rw [h3] at c4
    rw [← Option.some.inj c4]; rfl
   rw [h3, relock_non h2 hn] at c4; cases c4
   obtain ⟨g1, g2⟩ := he.le.matR i _ _ _ _ _ _ _ _ _ c1 c2 c3
   exact ⟨g1.trans c5, g2.trans c6⟩
 have hmk3 : ∀ (i : Nat) o t tid nt ver t' l', h.os[i]? = some o → matI o = some (t, tid, nt, ver) → (relockL h.os h1.os)[i]? = some (.fro t' l') → l'.length = m.ν i ∧ ((m.ρ i = none ∧ l' = []) ∨ ∃ b c, m.ρ i = some b ∧ m1.G b = some c ∧ l'.length * t'.size ≤ c.length ∧ Rows (DC m1.G t') t'.size c l') := fun i o t tid nt ver t' l' h1 h2 h3 => by
  rcases chain i o _ h1 h2 with e | ⟨oF, o1, c1, c2, c3, c4, c5, c6, c7⟩
  ·rw [h3] at e; cases e
  ·have hn : matI o1 = none := by
    rw [← relock_matI o o1]; rw [h3] at c4
    rw [← Option.some.inj c4]; rfl
   rw [h3, relock_non h2 hn] at c4; cases c4
   have := he.le.matF i _ _ _ _ _ _ _ c1 c2 c3
   rw [c5, c6] at this
   exact this
 refine ⟨r1, r2, kp, ⟨hlw.gle, kp.kw, fun i b hb hf => ?_, fun i A B C D E F G A' B' C' D' E' F' G' g1 g2 => ?_, fun i w t r tid w' t' r' tid' g1 g2 => ?_, fun i w t r tid t' r' g1 g2 => ?_, hmk1, hmk2, hmk3⟩, hlw.next, hlw.frame, hlw.gg, ⟨gmark :: List.range h1.os.length, hdl, fun h => absurd (List.mem_cons_self ..) h, fun i b hi hno => ?_, fun i b hi => ?_⟩, fun dl' hdl' k b hk hno _ => ?_⟩
 ·refine hlw.fix i b ?_ hb
  obtain ⟨o, g1, g2⟩ := isFix_iff.1 hf
  refine isFix_iff.2 ⟨tmplObj l kill i o, by rw [tmOs_get, g1]; rfl, ?_⟩
  cases o <;> first | trivial | exact g2.elim | (simp only [tmplObj]; split <;> trivial)
 ·exact hlw.frm i _ _ _ _ _ _ _ (by rw [tmOs_get, g1]; rfl)
 ·by_cases hk : kill.contains i = true
  ·exfalso
   have hT : (tmOs l kill h.os)[i]? = some .dead := by rw [tmOs_get, g1]; simp only [Option.map_some, tmplObj, hk, if_true]
   obtain ⟨oF, hF, fo⟩ := hd.fo i _ hT
   cases (show oF = _ from fo)
   obtain ⟨o1, ho1, ko⟩ := he.keep i _ hF
   cases (show o1 = _ from ko)
   rw [relockL_get, ho1, g1] at g2
   cases g2
  ·refine hlw.row i false t r tid ?_
   rw [tmOs_get, g1]
   have : kill.contains i = false := by simpa using hk
   simp only [Option.map_some, tmplObj, this]
   rfl
 ·exfalso
  obtain ⟨o2, e1, e2⟩ := kp i _ g1
  rw [g2] at e1; cases e1
  have hT : (tmOs l kill h.os)[i]? = some (tmplObj l kill i (.row w t r tid)) := by rw [tmOs_get, g1]; rfl
  obtain ⟨oF, hF, fo⟩ := hd.fo i _ hT
  obtain ⟨o1, ho1, ko⟩ := he.keep i _ hF
  rw [relockL_get, ho1, g1] at g2
  simp only [Option.map_some, Option.some.injEq] at g2
  revert fo
  show FO l i (if kill.contains i then _ else _) oF → _
  split
  ·intro fo; cases (show oF = _ from fo); cases (show o1 = _ from ko); cases g2
  ·intro fo; cases (show oF = _ from fo)
   rcases ko with ⟨-, rfl⟩ | ⟨h, -⟩
   ·cases g2
   ·cases h
 ·exact absurd (List.mem_cons_of_mem _ (List.mem_range.2 (Nat.lt_of_lt_of_le (hR.lt i b hi).2 hle))) hno
 ·rcases hlw.back i b hi with ⟨j, hj⟩ | h
  ·exact .inr (.inl ⟨j, List.mem_cons_of_mem _ (List.mem_range.2 (Nat.lt_of_lt_of_le (hR.lt j b hj).2 hle)), hj⟩)
  ·exact .inr (.inr h)
 ·exfalso
  have e : dl' = gmark :: List.range h1.os.length := List.append_cancel_right (hdl'.symm.trans hdl)
  exact hno (by rw [e]; exact List.mem_cons_of_mem _ (List.mem_range.2 (Nat.lt_of_lt_of_le hk hle)))
end Go.TM
