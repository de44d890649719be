/- AM's code and calls. -/

import Derived.Test.YtgpligmjbecbjaaDoorAmDrawS
set_option linter.unusedVariables false
set_option linter.unusedSimpArgs false
set_option linter.unusedSectionVars false
namespace Go.AM
open Go
variable {N : Nat} [EqV]

theorem evalRegion_loops {P : Program} {cf : Oracle} (hcf : Sound P cf) {ops : Array Oper} {draw : Bool} {a a' : Env} {H H1 : AH} (hL : LoopsOk P N H) (h : evalRegion P cf ops draw a H = some (a', H1)) : LoopsOk P N H1 := by
 unfold evalRegion at h
 split at h
 ·split at h
  ·split at h
   ·rename_i x y rs he
    split at h
    ·cases h; exact evalDraw_loops hcf _ _ _ _ _ _ _ _ hL he
    ·cases h
   ·cases h
  ·cases h
 ·exact evalOps_loops hcf _ _ _ _ _ hL h

theorem evalRegion_sound {P : Program} (hP : POk P) {cf : Oracle} (hcf : Sound P cf) {r : Option Nat} {id : Nat} {ops : Array Oper} {draw : Bool} {a a' : Env} {H H1 : AH} {m : Mp} {w : World} {act : Act} {Q : Exit → Act → World → Prop} (hops : ops.toList.all (operOk P) = true)
  (h : evalRegion P cf ops draw a H = some (a', H1)) (hR : Rel m H w) (hG : GOk P m) (hL : LoopsOk P N H) (ha : VRL m a act.tmps.toList)
  (hQ : ∀ act' m1 w1, VRL m1 a' act'.tmps.toList → act'.defers = act.defers → Stp m H w m1 H1 w1 → Q .normal act' w1) : (Code.region id ops draw).wpIn (fen r) 0 P Q act w := by
 unfold evalRegion at h
 split at h
 ·rename_i hd
  subst hd
  split at h
  ·rename_i hok
   split at h
   ·rename_i x y rs he
    split at h
    ·rename_i hrec
     cases h
     exact evalDraw_sound hP hcf hops hok he hrec hR hG hL ha hQ
    ·cases h
   ·cases h
  ·cases h
 ·rename_i hd
  have hd : draw = false := by simpa using hd
  subst hd
  refine wpIn_region ?_
  rw [List.range_eq_range']
  exact evalOps_sound hP hcf hops ops.size 0 a a' H H1 m w act (by omega) (by simpa using h) hR hG hL ha hQ

def exOf : AEx → Exit
 | .normal => .normal
 | .exit id => .exit id
 | .ret => .ret

section
variable {P : Program} {b : Frame} {a : Act} {k : List Item} {cs : List Frame} {w : World} {Q : Exit → Act → World → Prop} {F : Fence} {n : Nat}
theorem stepR_scope {c : Code} : step P (lone (b.atR a (.code (.scope c) :: k)) cs w) = .next (lone (b.atR a (.code c :: .inScope c :: k)) cs w) :=
 step_lone_go (by simp [stepG, stepG.exec, Frame.atR])
theorem stepR_inScope {c : Code} : step P (lone (b.atR a (.inScope c :: k)) cs w) = .next (lone (b.atR a k) cs w) :=
 step_lone_go (by simp [stepG, stepG.exec, Frame.atR])
theorem wpIn_scope {c : Code} (h : c.wpIn F n P (fun e a w => (∀ l, e ≠ .goto l) ∧ Q e a w) a w) : (Code.scope c).wpIn F n P Q a w := by
 intro b k cs hro hb hr
 have h0 : (lone (b.atR a (.code (.scope c) :: k)) cs w).fenced P F := fenced_calm hb hr rfl
 obtain ⟨e, a₁, w₁, ⟨hg, hq⟩, harr⟩ := h b (.inScope c :: k) cs hro hb hr
 cases e with
 | normal => exact ⟨.normal, a₁, w₁, hq, .head h0 stepR_scope (StepsIn.trans harr (.one (fenced_calm hb hr rfl) stepR_inScope))⟩
 | exit id =>
  have hx : exitTo id (.inScope c :: k) = exitTo id k := by simp [exitTo]
  exact ⟨_, a₁, w₁, hq, fun k' hk => .head h0 stepR_scope (harr.1 k' (by rw [hx]; exact hk)),
   fun hr' hk => let ⟨k₁, h1, h2⟩ := harr.2 hr' (by rw [hx]; exact hk); ⟨k₁, h1, .head h0 stepR_scope h2⟩⟩
 | goto l => exact absurd rfl (hg l)
 | ret => exact ⟨_, a₁, w₁, hq, .of_steps (.one h0 stepR_scope) harr⟩
 | panic ch => exact ⟨_, a₁, w₁, hq, .of_steps (.one h0 stepR_scope) harr⟩
 | outgrown => exact ⟨_, a₁, w₁, hq, .of_steps (.one h0 stepR_scope) harr⟩
end

def mkMark (r : Nat) : Deferred := { target := .collected r, args := #[] }
structure Marks (B : Nat) (rs : List Nat) (w : World) : Prop where
 nodup : rs.Nodup
 blk : ∀ r ∈ rs, B ≤ r ∧ w.heap[r]? = some (.deferred (some []))

theorem not_owned_deferred {m : Mp} {H : AH} {w : World} (hR : Rel m H w) {k : Nat} {ds : Option (List Deferred)} (h : w.heap[k]? = some (.deferred ds)) : ¬ Owned m H k := by
 rintro ⟨b, pl, hb, ho, rfl⟩
 have hobj := hR.obj b pl hb
 cases hg : H.get b with
 | dead => rw [hg] at ho; cases ho
 | cells c own sz ty =>
  rw [hg] at hobj ho
  obtain ⟨_, _, h3⟩ := hobj
  obtain ⟨_, _, arr, lo, hi, h4, _⟩ := h3 ho
  rw [h4] at h; cases h
 | loop tmps ps asg body st pend =>
  rw [hg] at hobj
  obtain ⟨r, h4, _⟩ := hobj
  rw [h4] at h; cases h
 | iter s pos =>
  rw [hg] at hobj
  have h4 : w.heap[pl.blk]? = some (.stringIter s pos) := hobj.2
  rw [h4] at h; cases h
 | map es =>
  rw [hg] at hobj
  obtain ⟨es', clock, h4, _⟩ := hobj
  rw [h4] at h; cases h

theorem Marks.stp {B : Nat} {rs : List Nat} {m : Mp} {H : AH} {w : World} {m1 : Mp} {H1 : AH} {w1 : World} (h : Marks B rs w) (hR : Rel m H w) (hs : Stp m H w m1 H1 w1) : Marks B rs w1 :=
 ⟨h.nodup, fun r hr => ⟨(h.blk r hr).1, (hs.frame r (lt_of_some (h.blk r hr).2) (not_owned_deferred hR (h.blk r hr).2)).trans (h.blk r hr).2⟩⟩

def InRound (r : Option Nat) (w : World) : Prop := ∀ l, r = some l → ∃ lp : Loop, w.heap[l]? = some (.loop lp)
theorem InRound.stp {r : Option Nat} {m : Mp} {H : AH} {w : World} {m1 : Mp} {H1 : AH} {w1 : World} (h : InRound r w) (hs : Stp m H w m1 H1 w1) : InRound r w1 := fun l hl => by
 obtain ⟨lp, h1⟩ := h l hl
 obtain ⟨lp', h2, _⟩ := hs.loops l lp h1
 exact ⟨lp', h2⟩

theorem Stp.setLoop {m : Mp} {H : AH} {w : World} (hR : Rel m H w) {b : Nat} {pl : Pl} (hb : m b = some pl) {tmps : List Value} {ps : List Tmp} {asg body : Code} {st : Nat} {pend : Option Code} (hg : H.get b = .loop tmps ps asg body st pend) (st' : Nat) (pend' : Option Code) {lp : Loop}
  (hlp : w.heap[pl.blk]? = some (.loop lp)) : Stp m H w m (H.set b (.loop tmps ps asg body st' pend')) (w.putObj pl.blk (.loop { lp with state := stOf st', pending := pend' })) := by
 have ho := hR.obj b pl hb
 rw [hg] at ho
 obtain ⟨lp', h1, h2, h3, h4, h5, h6, h7⟩ := ho
 rw [hlp] at h1
 cases h1
 have hblk := hR.blk b pl hb
 refine Stp.put hR b pl _ hb (by rw [hg]; rfl) (.inr trivial) (by simp [World.putObj]) (fun k hk => World.putObj_heap_other hk) rfl rfl rfl ⟨_, World.putObj_heap_same hblk, rfl, rfl, h4, h5, h6, h7⟩ ?_
 intro l hl
 rw [hlp] at hl
 cases hl
 exact ⟨_, World.putObj_heap_same hblk, rfl⟩

theorem iter_loops {P : Program} {f : Env → AH → Option (AEx × Env × AH)} (hf : ∀ a H e a' H1, f a H = some (e, a', H1) → LoopsOk P N H → LoopsOk P N H1) : ∀ (n : Nat) (a : Env) (H : AH) (e : AEx) (a' : Env) (H1 : AH), iter (α := Unit) f n a H = some (e, a', H1) → LoopsOk P N H → LoopsOk P N H1 := by
 intro n
 induction n with
 | zero => intro a H e a' H1 h; cases h
 | succ n ih =>
  intro a H e a' H1 h hL
  simp only [iter] at h
  split at h
  ·rename_i a2 H2 he
   exact ih _ _ _ _ _ h (hf _ _ _ _ _ he hL)
  ·exact hf _ _ _ _ _ h hL

theorem evalCode_loops {P : Program} {cf : Oracle} (hcf : Sound P cf) (n : Nat) : ∀ (c : Code) (a : Env) (H : AH) (e : AEx) (a' : Env) (H1 : AH), codeOk P c = true → evalCode P cf n c a H = some (e, a', H1) → LoopsOk P N H → LoopsOk P N H1 := by
 intro c
 induction c with
 | skip => intro a H e a' H1 _ h hL; cases h; exact hL
 | label l => intro a H e a' H1 _ h hL; cases h; exact hL
 | exit id => intro a H e a' H1 _ h hL; cases h; exact hL
 | ret => intro a H e a' H1 _ h hL; cases h; exact hL
 | goto l => intro a H e a' H1 _ h hL; cases h
 | refuse w => intro a H e a' H1 _ h hL; cases h
 | scope b ih => intro a H e a' H1 hc h hL; simp only [evalCode] at h; exact ih _ _ _ _ _ hc h hL
 | region id ops draw =>
  intro a H e a' H1 _ h hL
  simp only [evalCode] at h
  obtain ⟨⟨x, y⟩, h1, h2⟩ := Option.map_eq_some_iff.1 h
  cases h2
  exact evalRegion_loops hcf hL h1
 | seq x y ihx ihy =>
  intro a H e a' H1 hc h hL
  simp only [codeOk, Bool.and_eq_true] at hc
  simp only [evalCode] at h
  split at h
  ·rename_i a2 H2 he
   exact ihy _ _ _ _ _ hc.2 h (ihx _ _ _ _ _ hc.1 he hL)
  ·exact ihx _ _ _ _ _ hc.1 h hL
 | cond c x y ihx ihy =>
  intro a H e a' H1 hc h hL
  simp only [codeOk, Bool.and_eq_true] at hc
  simp only [evalCode] at h
  split at h
  ·exact ihx _ _ _ _ _ hc.1.2 h hL
  ·exact ihy _ _ _ _ _ hc.2 h hL
  ·cases h
 | block id b ih =>
  intro a H e a' H1 hc h hL
  simp only [evalCode] at h
  split at h
  ·rename_i id' a2 H2 he
   have := ih _ _ _ _ _ hc he hL
   split at h <;> cases h <;> exact this
  ·exact ih _ _ _ _ _ hc h hL
 | loop b ih =>
  intro a H e a' H1 hc h hL
  simp only [evalCode] at h
  exact iter_loops (fun a H e a' H1 h hL => ih a H e a' H1 hc h hL) _ _ _ _ _ _ h hL
 | rangeFunc f ps asg body iha ihb =>
  intro a H e a' H1 hc h hL
  simp only [codeOk, Bool.and_eq_true] at hc
  simp only [evalCode] at h
  split at h
  ·split at h
   ·cases h
   ·split at h
    ·rename_i v H2 he
     have hL2 := hcf.loops _ _ _ _ _ _ he (hL.push _ (fun _ _ _ _ _ _ q => by cases q; exact ⟨hc.1.2, hc.2⟩))
     split at h
     ·split at h
      ·cases h
      ·obtain ⟨e', -, h2⟩ := Option.map_eq_some_iff.1 h
       cases h2
       exact hL2.set _ _ (fun _ _ _ _ _ _ q => by cases q)
     ·cases h
    ·cases h
  ·cases h

theorem runs_enterLoop {P : Program} {r : Option Nat} {w : World} (hr : InRound r w) (fn : FuncId) (tmps : Array Value) (ps : Array Tmp) (asg body : Code) :
  ∃ (w0 w1 : World) (mark : List Deferred) (lp : Loop), (Instr.enterLoop fn tmps ps asg body r).run P w = .ok (w0.heap.size, mark) w1 ∧ w1 = w0.alloc (.loop lp) ∧ lp.state = .ready ∧ lp.pending = none ∧ lp.tmps = tmps ∧ lp.params = ps ∧ lp.assign = asg ∧ lp.body = body ∧
   ((r = none ∧ w0 = w.alloc (.deferred (some [])) ∧ mark = [mkMark w.heap.size]) ∨ (r ≠ none ∧ w0 = w ∧ mark = [])) := by
 cases r with
 | none =>
  refine ⟨w.alloc (.deferred (some [])), (w.alloc (.deferred (some []))).alloc (.loop { state := .ready, pending := none, fn, tmps, params := ps, assign := asg, body, defers := w.heap.size }), [mkMark w.heap.size], { state := .ready, pending := none, fn, tmps, params := ps, assign := asg, body, defers := w.heap.size }, ?_, rfl, rfl, rfl, rfl, rfl, rfl, rfl, .inl ⟨rfl, rfl, rfl⟩⟩
  rw [World.size_alloc]
  exact run_enterLoop_outer (P := P) fn tmps ps asg body
 | some l =>
  obtain ⟨lp, hlp⟩ := hr l rfl
  exact ⟨w, w.alloc (.loop { state := .ready, pending := none, fn, tmps, params := ps, assign := asg, body, defers := lp.defers }), [], { state := .ready, pending := none, fn, tmps, params := ps, assign := asg, body, defers := lp.defers }, run_enterLoop_inner (P := P) hlp fn tmps ps asg body, rfl, rfl, rfl, rfl, rfl, rfl, rfl, .inr ⟨by simp, rfl, rfl⟩⟩

theorem stOf_busy {st : Nat} (h : stOf st = .busy) : st = 1 := by
 unfold stOf at h
 split at h <;> first | rfl | cases h

theorem wpIn_loop_rel {F : Fence} {n : Nat} {P : Program} {c : Code} {Q : Exit → Act → World → Prop} {a : Act} {w : World} (J : Nat → Act → World → Prop) (k : Nat) (h0 : J k a w)
  (round : ∀ k a w, J k a w → c.wpIn F n P (Exit.then (fun a' w' => ∃ k', k' < k ∧ J k' a' w') Q) a w) : (Code.loop c).wpIn F n P Q a w := by
 classical
 have hmin : ∀ (n : Nat) (p : Nat → Prop), p n → ∃ k, p k ∧ ∀ j, p j → k ≤ j := by
  intro n
  induction n using Nat.strongRecOn with
  | _ n ih =>
   intro p hp
   by_cases hq : ∃ j, j < n ∧ p j
   ·obtain ⟨j, hj, hpj⟩ := hq
    exact ih j hj p hpj
   ·exact ⟨n, hp, fun j hj => Nat.le_of_not_lt fun hlt => hq ⟨j, hlt, hj⟩⟩
 have hex : ∀ a w, (∃ k, J k a w) → ∃ k, J k a w ∧ ∀ j, J j a w → k ≤ j := fun a w ⟨k, hk⟩ => hmin k (fun k => J k a w) hk
 let I : Act → World → Prop := fun a w => ∃ k, J k a w
 let mu : Act → World → Nat := fun a w => if h : ∃ k, J k a w then Classical.choose (hex a w h) else 0
 refine wpIn_loop I mu ⟨k, h0⟩ ?_
 rintro a w hI
 have hk := (Classical.choose_spec (hex a w hI)).1
 have hmu : mu a w = Classical.choose (hex a w hI) := dif_pos hI
 refine wpIn_mono (round _ a w hk) ?_
 intro e a' w' he
 cases e with
 | normal =>
  obtain ⟨k', hlt, hj⟩ := he
  have hI' : ∃ k, J k a' w' := ⟨k', hj⟩
  refine ⟨hI', ?_⟩
  rw [hmu]
  have : mu a' w' = Classical.choose (hex a' w' hI') := dif_pos hI'
  rw [this]
  exact Nat.lt_of_le_of_lt ((Classical.choose_spec (hex a' w' hI')).2 k' hj) hlt
 | _ => exact he

def Post (B : Nat) (m : Mp) (H : AH) (w : World) (e : AEx) (a' : Env) (H1 : AH) (rs : List Nat) (Q : Exit → Act → World → Prop) : Prop :=
 ∀ (act' : Act) (m1 : Mp) (w1 : World) (rs' : List Nat), VRL m1 a' act'.tmps.toList → act'.defers = rs'.map mkMark → Marks B rs' w1 → Stp m H w m1 H1 w1 → Q (exOf e) act' w1

theorem code_sound {P : Program} (hP : POk P) {cf : Oracle} (hcf : Sound P cf) (n : Nat) (r : Option Nat) (B : Nat) : ∀ (c : Code) (a : Env) (H : AH) (e : AEx) (a' : Env) (H1 : AH), codeOk P c = true → evalCode P cf n c a H = some (e, a', H1) → LoopsOk P N H →
  ∀ (m : Mp) (w : World) (act : Act) (rs : List Nat) (Q : Exit → Act → World → Prop), Rel m H w → GOk P m → InRound r w → VRL m a act.tmps.toList → act.defers = rs.map mkMark → Marks B rs w → B ≤ w.heap.size → Post B m H w e a' H1 rs Q → c.wpIn (fen r) 0 P Q act w := by
 intro c
 induction c with
 | skip => intro a H e a' H1 _ h hL m w act rs Q hR hG hr ha hd hM hB hQ; cases h; exact wpIn_skip (hQ _ _ _ _ ha hd hM (.refl hR))
 | label l => intro a H e a' H1 _ h hL m w act rs Q hR hG hr ha hd hM hB hQ; cases h; exact wpIn_label (hQ _ _ _ _ ha hd hM (.refl hR))
 | exit id => intro a H e a' H1 _ h hL m w act rs Q hR hG hr ha hd hM hB hQ; cases h; exact wpIn_exit (hQ _ _ _ _ ha hd hM (.refl hR))
 | ret => intro a H e a' H1 _ h hL m w act rs Q hR hG hr ha hd hM hB hQ; cases h; exact wpIn_ret (hQ _ _ _ _ ha hd hM (.refl hR))
 | goto l => intro a H e a' H1 _ h; cases h
 | refuse w => intro a H e a' H1 _ h; cases h
 | scope b ih =>
  intro a H e a' H1 hc h hL m w act rs Q hR hG hr ha hd hM hB hQ
  simp only [evalCode] at h
  refine wpIn_scope (ih _ _ _ _ _ hc h hL m w act rs _ hR hG hr ha hd hM hB ?_)
  intro act' m1 w1 rs' g1 g2 g3 g4
  refine ⟨fun l q => ?_, hQ act' m1 w1 rs' g1 g2 g3 g4⟩
  cases e <;> cases q
 | region id ops draw =>
  intro a H e a' H1 hc h hL m w act rs Q hR hG hr ha hd hM hB hQ
  simp only [evalCode] at h
  obtain ⟨⟨x, y⟩, h1, h2⟩ := Option.map_eq_some_iff.1 h
  cases h2
  exact evalRegion_sound hP hcf hc h1 hR hG hL ha fun act' m1 w1 g1 g2 g3 => hQ act' m1 w1 rs g1 (g2.trans hd) (hM.stp hR g3) g3
 | seq x y ihx ihy =>
  intro a H e a' H1 hc h hL m w act rs Q hR hG hr ha hd hM hB hQ
  simp only [codeOk, Bool.and_eq_true] at hc
  simp only [evalCode] at h
  refine wpIn_seq ?_
  split at h
  ·rename_i a2 H2 he
   refine ihx _ _ _ _ _ hc.1 he hL m w act rs _ hR hG hr ha hd hM hB ?_
   intro act' m1 w1 rs' g1 g2 g3 g4
   refine ihy _ _ _ _ _ hc.2 h (evalCode_loops hcf n _ _ _ _ _ _ hc.1 he hL) m1 w1 act' rs' Q g4.rel (hG.mono (g4.le hR)) (hr.stp g4) g1 g2 g3 (Nat.le_trans hB g4.size) ?_
   intro act2 m2 w2 rs2 k1 k2 k3 k4
   exact hQ act2 m2 w2 rs2 k1 k2 k3 (g4.trans k4)
  ·rename_i hne
   refine ihx _ _ _ _ _ hc.1 h hL m w act rs _ hR hG hr ha hd hM hB ?_
   intro act' m1 w1 rs' g1 g2 g3 g4
   have := hQ act' m1 w1 rs' g1 g2 g3 g4
   cases e with
   | normal => exact absurd h (by rw [h] at hne; exact fun _ => hne _ _ rfl)
   | exit id => exact this
   | ret => exact this
 | cond c x y ihx ihy =>
  intro a H e a' H1 hc h hL m w act rs Q hR hG hr ha hd hM hB hQ
  simp only [codeOk, Bool.and_eq_true] at hc
  simp only [evalCode] at h
  have hv := evA_vr hG ha hc.1.1
  split at h
  ·rename_i he
   rw [he] at hv
   exact wpIn_cond_true hv.bool_inv (ihx _ _ _ _ _ hc.1.2 h hL m w act rs Q hR hG hr ha hd hM hB hQ)
  ·rename_i he
   rw [he] at hv
   exact wpIn_cond_false hv.bool_inv (ihy _ _ _ _ _ hc.2 h hL m w act rs Q hR hG hr ha hd hM hB hQ)
  ·cases h
 | block id b ih =>
  intro a H e a' H1 hc h hL m w act rs Q hR hG hr ha hd hM hB hQ
  simp only [evalCode] at h
  refine wpIn_block ?_
  split at h
  ·rename_i id' a2 H2 he
   refine ih _ _ _ _ _ hc he hL m w act rs _ hR hG hr ha hd hM hB ?_
   intro act' m1 w1 rs' g1 g2 g3 g4
   show Exit.inBlock id Q (.exit id') act' w1
   simp only [Exit.inBlock]
   split at h
   ·rename_i e1; cases h; rw [if_pos e1]; exact hQ act' m1 w1 rs' g1 g2 g3 g4
   ·rename_i e1; cases h; rw [if_neg e1]; exact hQ act' m1 w1 rs' g1 g2 g3 g4
  ·rename_i hne
   refine ih _ _ _ _ _ hc h hL m w act rs _ hR hG hr ha hd hM hB ?_
   intro act' m1 w1 rs' g1 g2 g3 g4
   have := hQ act' m1 w1 rs' g1 g2 g3 g4
   cases e with
   | normal => exact this
   | exit id' => exact absurd h (by rw [h] at hne; exact fun _ => hne _ _ _ rfl)
   | ret => exact this
 | loop b ih =>
  intro a H e a' H1 hc h hL m w act rs Q hR hG hr ha hd hM hB hQ
  simp only [evalCode] at h
  let J : Nat → Act → World → Prop := fun k act w' => ∃ (a0 : Env) (H0 : AH) (m0 : Mp) (rs0 : List Nat), iter (α := Unit) (fun a H => evalCode P cf n b a H) k a0 H0 = some (e, a', H1) ∧ LoopsOk P N H0 ∧ VRL m0 a0 act.tmps.toList ∧ act.defers = rs0.map mkMark ∧ Marks B rs0 w' ∧ Stp m H w m0 H0 w'
  have hstart : J n act w := ⟨a, H, m, rs, h, hL, ha, hd, hM, .refl hR⟩
  refine wpIn_loop_rel J n hstart ?_
  rintro k act' w' ⟨a0, H0, m0, rs0, j1, j2, j3, j4, j5, j6⟩
  cases k with
  | zero => cases j1
  | succ k =>
   simp only [iter] at j1
   split at j1
   ·rename_i a2 H2 he
    refine ih _ _ _ _ _ hc he j2 m0 w' act' rs0 _ j6.rel (hG.mono (j6.le hR)) (hr.stp j6) j3 j4 j5 (Nat.le_trans hB j6.size) ?_
    intro act2 m2 w2 rs2 g1 g2 g3 g4
    exact ⟨k, by omega, a2, H2, m2, rs2, j1, evalCode_loops hcf n b _ _ _ _ _ hc he j2, g1, g2, g3, j6.trans g4⟩
   ·rename_i hne
    refine ih _ _ _ _ _ hc j1 j2 m0 w' act' rs0 _ j6.rel (hG.mono (j6.le hR)) (hr.stp j6) j3 j4 j5 (Nat.le_trans hB j6.size) ?_
    intro act2 m2 w2 rs2 g1 g2 g3 g4
    have := hQ act2 m2 w2 rs2 g1 g2 g3 (j6.trans g4)
    cases e with
    | normal => exact absurd j1 (by rw [j1] at hne; exact fun _ => hne _ _ rfl)
    | exit id => exact this
    | ret => exact this
 | rangeFunc f ps asg body iha ihb =>
  intro a H e a' H1 hc h hL m w act rs Q hR hG hr ha hd hM hB hQ
  simp only [codeOk, Bool.and_eq_true] at hc
  simp only [evalCode] at h
  have hv := evA_vr hG ha hc.1.1
  split at h
  ·rename_i g first captured he
   split at h
   ·cases h
   ·rename_i hbody
    split at h
    ·rename_i v H2 hcall
     split at h
     ·rename_i tmps' ps' asg' body' st pend hg2
      split at h
      ·cases h
      ·rename_i hst
       obtain ⟨e', hj, h2⟩ := Option.map_eq_some_iff.1 h
       simp only [Prod.mk.injEq] at h2
       obtain ⟨rfl, rfl, rfl⟩ := h2
       rw [he] at hv
       obtain ⟨x', y', hf', hx, hy⟩ := hv.func_inv
       refine wpIn_rangeFunc fun fn hfn => ?_
       rw [fen_round]
       obtain ⟨w0, w1, mark, lp, q1, q2, q3, q4, q5, q6, q7, q8, q9⟩ := runs_enterLoop (P := P) hr fn act.tmps ps asg body
       have hs0 : Stp m H w m H w0 := by
        rcases q9 with ⟨-, e0, -⟩ | ⟨-, e0, -⟩
        ·subst e0; exact Stp.junk hR (.deferred (some [])) rfl rfl rfl rfl
        ·subst e0; exact .refl hR
       have hR0 := hs0.rel
       let pl : Pl := ⟨w0.heap.size, 0, 0, 0⟩
       have hobj : ObjRel (upd m H.next pl) (.loop a ps.toList asg body 0 none) pl w1 := by
        refine ⟨lp, ?_, by rw [q3]; rfl, q4, ?_, by rw [q6], q7, q8⟩
        ·subst q2; exact World.alloc_heap_new w0 (.loop lp)
        ·rw [q5]; exact ha.mono (hR0.upd_le pl)
       have hs1 : Stp m H w (upd m H.next pl) (H.push (.loop a ps.toList asg body 0 none)) w1 := hs0.trans (Stp.alloc hR0 _ (.loop lp) pl rfl (by subst q2; rfl) (by subst q2; rfl) (by subst q2; rfl) (by subst q2; rfl) hobj)
       have hL1 : LoopsOk P N (H.push (.loop a ps.toList asg body 0 none)) := hL.push _ (fun _ _ _ _ _ _ q => by cases q; exact ⟨hc.1.2, hc.2⟩)
       have hle := hs1.le hR
       have hargs : VRL (upd m H.next pl) (first.toList ++ [Value.func (Fn.yield H.next) #[] #[]] ++ captured.toList) (x' ++ #[Value.func (Fn.yield w0.heap.size) #[] #[]] ++ y').toList := by
        simp only [Array.toList_append]
        exact ((hx.mono hle).append (.cons (.yld _ _ (upd_self _ _ _)) (.nil _))).append (hy.mono hle)
       obtain ⟨gfn, hgf, hcr⟩ := hcf.fn _ _ _ _ _ _ hcall hL1 _ w1 _ hs1.rel (hG.mono hle) hargs
       have hb1 : gfn.body.isSome = true := by
        rw [hgf] at hbody
        cases hbb : gfn.body with
        | none => simp [hbb] at hbody
        | some _ => rfl
       have hci := (hcr.resolve_right (fun q => by rw [hb1] at q; cases q.1)).2
       refine ⟨w0.heap.size, mark, w1, { target := .fn (.func g) y', args := x' ++ #[Value.func (Fn.yield w0.heap.size) #[] #[]] }, w1, g, x' ++ #[Value.func (Fn.yield w0.heap.size) #[] #[]] ++ y', w1, q1, ?_, fun f' _ => fen_fn r f', ?_, fun q => (by rw [fen_depth] at q; cases q), ?_⟩
       ·simp only [resolve, rangeCall, Sem.run_bind, hf', Deferred.ofValue, Sem.run_pure, Result.andThen_ok]
        simp [Act.eval]
       ·simp only [invoke]
        exact callFunc_enter hP hgf hb1 _ _
       ·refine (callsIn_fen hci).mono fun e0 w3 he0 => ?_
        obtain ⟨v', rfl, m3, hv3, hs3⟩ := he0
        have hs3' := hs1.trans hs3
        have hm3 : m3 H.next = some pl := (hs3.le hs1.rel).1 _ _ (upd_self _ _ _)
        have ho3 := hs3.rel.obj _ _ hm3
        rw [hg2] at ho3
        obtain ⟨lp3, l1, l2, l3, l4, l5, l6, l7⟩ := ho3
        have hnb : lp3.state ≠ .busy := by rw [l2]; intro q; exact hst (stOf_busy q)
        have hend := run_endLoop (P := P) l1 hnb
        refine ⟨lp3.pending, _, hend, ?_⟩
        have hs4 : Stp m3 H2 w3 m3 (H2.set H.next .dead) (w3.putObj w0.heap.size (.loop { lp3 with state := .exhausted })) := by
         have hp := Stp.setLoop hs3.rel hm3 hg2 3 lp3.pending l1
         refine (hp.trans (Stp.kill hp.rel H.next)).congr (fun k => ?_) (by simp)
         simp only [AH.get_set]
         split <;> rfl
        have hs5 := hs3'.trans hs4
        have hmarks : ∃ rs', (mark ++ act.defers) = rs'.map mkMark ∧ Marks B rs' (w3.putObj w0.heap.size (.loop { lp3 with state := .exhausted })) := by
         rcases q9 with ⟨-, e0, rfl⟩ | ⟨-, e0, rfl⟩
         ·refine ⟨w.heap.size :: rs, by simp [hd], ?_⟩
          have hM1 := hM.stp hR hs0
          have hM0 : Marks B (w.heap.size :: rs) w0 := by
           refine ⟨List.nodup_cons.2 ⟨fun hin => ?_, hM.nodup⟩, fun q hq => ?_⟩
           ·have := lt_of_some (hM.blk _ hin).2; omega
           ·rcases List.mem_cons.1 hq with rfl | hq
            ·exact ⟨hB, by subst e0; exact World.alloc_heap_new w _⟩
            ·exact hM1.blk q hq
          have hs6 : Stp m H w0 m3 (H2.set H.next .dead) (w3.putObj w0.heap.size (.loop { lp3 with state := .exhausted })) :=
           ((Stp.alloc hR0 _ (.loop lp) pl rfl (by subst q2; rfl) (by subst q2; rfl) (by subst q2; rfl) (by subst q2; rfl) hobj).trans hs3).trans hs4
          exact hM0.stp hR0 hs6
         ·exact ⟨rs, by simp [hd], hM.stp hR hs5⟩
        obtain ⟨rs', hrs1, hrs2⟩ := hmarks
        have hQ' := hQ { act with defers := mark ++ act.defers } m3 _ rs' ((ha.mono hle).mono (hs3.le hs1.rel)) hrs1 hrs2 hs5
        cases hpd : lp3.pending with
        | none =>
         have e1 : pend = none := l3.symm.trans hpd
         subst e1
         simp only [jumpOf, Option.some.injEq] at hj; subst hj
         rw [hpd] at hQ'; exact hQ'
        | some c =>
         have e1 : pend = some c := l3.symm.trans hpd
         subst e1
         rw [hpd] at hQ'
         cases c <;> simp only [jumpOf, Option.some.injEq, reduceCtorEq] at hj
         ·subst hj; exact wpIn_exit hQ'
         ·subst hj; exact wpIn_ret hQ'
     ·cases h
    ·cases h
  ·cases h

theorem aresult1_run {P : Program} {m : Mp} {H : AH} {w : World} (hR : Rel m H w) {a : Env} {tmps : Array Value} (ha : VRL m a tmps.toList) {r : ResultVar} {v : Value} (h : aresult1 P a H r = some v) :
  ∃ v', (match r with | .tmp t => pure (tmps.getD t undef) | .cell x t => do loadVar t (← asAddr (tmps.getD x undef)) : Sem Value).run P w = .ok v' w ∧ VR m v v' := by
 cases r with
 | tmp t =>
  simp only [aresult1, Option.some.injEq] at h
  subst h
  exact ⟨_, rfl, tmp_vr ha t⟩
 | cell x t =>
  simp only [aresult1] at h
  have hx := tmp_vr ha x
  obtain ⟨v', h1, h2⟩ := aload_run (P := P) hR hx h
  refine ⟨v', ?_, h2⟩
  unfold aload at h
  split at h
  ·rename_i b off he
   rw [he] at hx
   obtain ⟨pl, hb, -, e'⟩ := hx.ptr_inv
   show (do loadVar t (← asAddr (tmps.getD x undef)) : Sem Value).run P w = _
   rw [e'] at h1 ⊢
   simp only [Instr.loadAt, Instr.sureAddr, Sem.run_bind, Sem.run_pure, Result.andThen_ok] at h1
   simp only [asAddr, Sem.run_bind, Sem.run_pure, Result.andThen_ok]
   exact h1
  ·rename_i s cs y he
   rw [he] at hx
   obtain ⟨k, off, arr, e', -⟩ := hx.dptr_inv
   show (do loadVar t (← asAddr (tmps.getD x undef)) : Sem Value).run P w = _
   rw [e'] at h1 ⊢
   simp only [Instr.loadAt, Instr.sureAddr, Sem.run_bind, Sem.run_pure, Result.andThen_ok] at h1
   simp only [asAddr, Sem.run_bind, Sem.run_pure, Result.andThen_ok]
   exact h1
  ·cases h

theorem aresults_run {P : Program} {m : Mp} {H : AH} {w : World} (hR : Rel m H w) {a : Env} {tmps : Array Value} (ha : VRL m a tmps.toList) {fn : Func} {v : Value} (h : aresults P fn a H = some v) :
  ∃ v', (results fn tmps).run P w = .ok v' w ∧ VR m v v' := by
 have key : ∀ (l : List ResultVar) (vs : List Value), l.mapM (aresult1 P a H) = some vs →
   ∃ vs', (l.mapM (fun r => match r with | .tmp t => pure (tmps.getD t undef) | .cell x t => do loadVar t (← asAddr (tmps.getD x undef))) : Sem (List Value)).run P w = .ok vs' w ∧ VRL m vs vs' := by
  intro l
  induction l with
  | nil => intro vs h; simp at h; subst h; exact ⟨[], rfl, .nil m⟩
  | cons r l ih =>
   intro vs h
   simp only [List.mapM_cons, Option.bind_eq_bind, Option.bind_eq_some_iff, Option.pure_def, Option.some.injEq] at h
   obtain ⟨u, hu, us, hus, rfl⟩ := h
   obtain ⟨u', h1, h2⟩ := aresult1_run (P := P) hR ha hu
   obtain ⟨us', h3, h4⟩ := ih us hus
   refine ⟨u' :: us', ?_, .cons h2 h4⟩
   simp only [List.mapM_cons, Sem.run_bind]
   rw [h1]
   simp only [Result.andThen_ok]
   rw [h3]; rfl
 unfold aresults at h
 obtain ⟨vs, hvs, rfl⟩ := Option.map_eq_some_iff.1 h
 obtain ⟨vs', h1, h2⟩ := key _ _ hvs
 have h3 : (fn.results.mapM (fun r => match r with | .tmp t => pure (tmps.getD t undef) | .cell x t => do loadVar t (← asAddr (tmps.getD x undef))) : Sem (Array Value)).run P w = .ok vs'.toArray w := by
  rw [Array.mapM_eq_mapM_toList]; simp only [Sem.run_map]; rw [h1]; rfl
 refine ⟨if h : vs'.toArray.size = 1 then vs'.toArray[0] else .tuple vs'.toArray, ?_, ?_⟩
 ·refine (run_bind_ok (f := fun vs : Array Value => pure (if h : vs.size = 1 then vs[0] else .tuple vs)) h3).trans ?_
  rfl
 ·cases vs with
  | nil => rw [h2.nil_cases]; exact .of_vrl_tuple (.nil m)
  | cons x r =>
   obtain ⟨x', r', rfl, hx, hr⟩ := h2.cases
   cases r with
   | nil =>
    rw [hr.nil_cases]
    exact hx
   | cons y s =>
    obtain ⟨y', s', rfl, hy, hs⟩ := hr.cases
    rw [dif_neg (by simp)]
    exact .of_vrl_tuple h2

theorem putAll_vr {m : Mp} : ∀ (l : List (Tmp × Value)) (l' : List (Tmp × Value)) (a : Env) (tmps : Array Value), l.map (·.1) = l'.map (·.1) → VRL m (l.map (·.2)) (l'.map (·.2)) → VRL m a tmps.toList → VRL m (putAll a l) (l'.foldl (fun tmps (x : Tmp × Value) => tmps.setIfInBounds x.1 x.2) tmps).toList := by
 intro l
 induction l with
 | nil => intro l' a tmps h1 h2 h3; cases l' with | nil => exact h3 | cons x r => simp at h1
 | cons x r ih =>
  intro l' a tmps h1 h2 h3
  cases l' with
  | nil => simp at h1
  | cons x' r' =>
   simp only [List.map_cons, List.cons.injEq] at h1
   simp only [List.map_cons] at h2
   simp only [List.foldl_cons, putAll]
   refine ih r' _ _ h1.2 h2.tail ?_
   rw [h1.1]
   simpa using h3.set x'.1 h2.head

theorem leaves_marks {P : Program} {fn : Func} {tmps : Array Value} {R : Ending → World → Prop} : ∀ (rs : List Nat) (w : World), rs.Nodup → (∀ r ∈ rs, w.heap[r]? = some (.deferred (some []))) →
  (∀ w', w'.heap.size = w.heap.size → w'.os = w.os → w'.tape = w.tape → w'.output = w.output → (∀ k, k ∉ rs → w'.heap[k]? = w.heap[k]?) → ∃ v, (results fn tmps).run P w' = .ok v w' ∧ R (.returned v) w') →
  LeavesInM Fence.wide 0 P fn tmps R (rs.map mkMark) .returning w := by
 intro rs
 induction rs with
 | nil =>
  intro w _ _ h
  exact h w rfl rfl rfl rfl (fun _ _ => rfl)
 | cons r rs ih =>
  intro w hn hb h
  have hr := hb r (by simp)
  have hrs := lt_of_some hr
  refine ⟨by simp, .inl ⟨r, w.putObj r (.deferred none), rfl, run_takeDeferred hr, ?_⟩⟩
  have hnr := (List.nodup_cons.1 hn)
  refine ih _ hnr.2 (fun q hq => ?_) fun w' h1 h2 h3 h4 h5 => h w' ?_ h2 h3 h4 fun k hk => ?_
  ·rw [World.putObj_heap_other (fun e => hnr.1 (by rw [← e]; exact hq))]
   exact hb q (by simp [hq])
  ·rw [h1]; simp [World.putObj]
  ·rw [h5 k (fun e => hk (by simp [e])), World.putObj_heap_other (fun e => hk (by simp [e]))]

theorem Rel.shut {m : Mp} {H : AH} {w w1 : World} (hR : Rel m H w) {rs : List Nat} (hb : ∀ r ∈ rs, w.heap[r]? = some (.deferred (some []))) (hsz : w1.heap.size = w.heap.size) (hk : ∀ k, k ∉ rs → w1.heap[k]? = w.heap[k]?) : Rel m H w1 := by
 refine ⟨hR.dom, fun b pl h => by rw [hsz]; exact hR.blk b pl h, fun b pl h => ?_, hR.apart, fun k arr hf => ?_⟩
 rotate_left
 ·obtain ⟨⟨ty, fr, e⟩, hno⟩ := hR.fro k arr hf
  refine ⟨⟨ty, fr, ?_⟩, hno⟩
  rw [hk k (fun hin => by have := hb k hin; rw [e] at this; cases this)]; exact e
 have ho := hR.obj b pl h
 by_cases hin : pl.blk ∈ rs
 ·have hd := hb _ hin
  cases hg : H.get b with
  | dead => trivial
  | cells c own sz ty =>
   rw [hg] at ho
   obtain ⟨h1, h2, h3⟩ := ho
   refine ⟨fun i hi => ?_, h2, fun hown => ?_⟩
   ·obtain ⟨v', h4, -⟩ := h1 i hi
    simp [World.cell?, hd] at h4
   ·obtain ⟨_, _, arr, lo, hi, h4, _⟩ := h3 hown
    rw [hd] at h4; cases h4
  | loop tmps ps asg body st pend =>
   rw [hg] at ho
   obtain ⟨r, h4, _⟩ := ho
   rw [hd] at h4; cases h4
  | iter s pos =>
   rw [hg] at ho
   have h4 : w.heap[pl.blk]? = some (.stringIter s pos) := ho.2
   rw [hd] at h4; cases h4
  | map es =>
   rw [hg] at ho
   obtain ⟨es', clock, h4, _⟩ := ho
   rw [hd] at h4; cases h4
 ·exact ho.mono (Mle.refl m) (hk _ hin)

def SummOK (P : Program) (S : Summ) : Prop := ∀ f s, S f = some s → ∀ args H v H1, s args H = some (v, H1) → (∀ N, LoopsOk P N H → LoopsOk P N H1) ∧
 ∀ N, LoopsOk P N H → ∀ (m : Mp) (w : World) (args' : Array Value), Rel m H w → GOk P m → VRL m args args'.toList → CallRel P f args' w (After m H w v H1)

theorem putAll_zip {ps : List Tmp} {args args' : List Value} (h : args.length = args'.length) : (ps.zip args).map (·.1) = (ps.zip args').map (·.1) := by
 induction ps generalizing args args' with
 | nil => rfl
 | cons p r ih =>
  cases args with
  | nil => cases args' with | nil => rfl | cons => simp at h
  | cons x s => cases args' with
   | nil => simp at h
   | cons x' s' => simp [ih (args := s) (args' := s') (by simpa using h)]
theorem zip_snd {m : Mp} {ps : List Tmp} {args args' : List Value} (h : VRL m args args') : VRL m ((ps.zip args).map (·.2)) ((ps.zip args').map (·.2)) := by
 induction ps generalizing args args' with
 | nil => exact .nil m
 | cons p r ih =>
  cases args with
  | nil => rw [h.nil_cases]; exact .nil m
  | cons x s =>
   obtain ⟨x', s', rfl, hx, hs⟩ := h.cases
   exact .cons hx (ih hs)

theorem aextern_some {P : Program} {f : FuncId} {args : List Value} {H H1 : AH} {v : Value} (h : aextern P f args H = some (v, H1)) : H1 = H ∧ args.all flat1 = true ∧ flat v = true ∧ ∀ w, (callFunc f args.toArray).run P w = .ok (.value v) w := by
 unfold aextern at h
 split at h
 ·rename_i hf
  split at h
  ·rename_i u hu
   split at h
   ·rename_i hv
    simp only [Option.some.injEq, Prod.mk.injEq] at h
    obtain ⟨rfl, rfl⟩ := h
    exact ⟨rfl, hf, hv, fun w => pureRun_run hu w⟩
   ·cases h
  ·cases h
 ·cases h
theorem vr_of_flat {m : Mp} {v : Value} (h : flat v = true) : VR m v v := by
 cases v with
 | agg x => exact .of_vrl_agg (.refl_flat h)
 | tuple x => exact .of_vrl_tuple (.refl_flat h)
 | iface t v => exact .iface t v v (.flat v h)
 | _ => exact .flat _ h

theorem ev_sound {P : Program} (hP : POk2 P) {S : Summ} (hS : SummOK P S) : ∀ n, Sound P (ev P S n) := by
 intro n
 induction n with
 | zero => exact ⟨fun _ t args H v H1 h => by simp [ev] at h, fun _ f args H v H1 h => by simp [ev] at h, fun _ l args H v H1 h => by simp [ev] at h⟩
 | succ n ih =>
  have hloops : ∀ N t args H v H1, ev P S (n + 1) t args H = some (v, H1) → LoopsOk P N H → LoopsOk P N H1 := by
   intro N t args H v H1 h hL
   cases t with
   | fn f =>
    simp only [ev] at h
    split at h
    ·rename_i r hs
     obtain ⟨s, e1, e2⟩ := Summ.ap_some hs
     cases h
     exact (hS f s e1 _ _ _ _ e2).1 N hL
    ·split at h
     ·rename_i fn hf
      split at h
      ·rename_i c hc
       split at h
       ·cases h
       ·cases h
       ·rename_i e a' H' hne he
        obtain ⟨u, -, h2⟩ := Option.map_eq_some_iff.1 h
        cases h2
        exact evalCode_loops ih n c _ _ _ _ _ (hP.codes f fn c hf hc) he hL
      ·rw [(aextern_some h).1]; exact hL
     ·cases h
   | yld l =>
    simp only [ev] at h
    split at h
    ·rename_i tmps ps asg body hg
     have hok := hL.code _ _ _ _ _ _ _ hg
     split at h
     ·split at h
      ·rename_i a1 H1' hasg
       have hL1 := evalCode_loops ih n asg _ _ _ _ _ hok.1 hasg hL
       split at h
       ·rename_i tmps' ps' asg' body' pend' hg1
        split at h
        ·rename_i e a2 H2 hbody
         have hok1 := hL1.code _ _ _ _ _ _ _ hg1
         have hL2 := evalCode_loops ih n body _ _ _ _ _ hok.2 hbody (hL1.set _ _ (fun _ _ _ _ _ _ q => by cases q; exact hok1))
         split at h
         ·rename_i tmps2 ps2 asg2 body2 st2 pend2 hg2
          have hok2 := hL2.code _ _ _ _ _ _ _ hg2
          cases e <;> cases h <;> exact hL2.set _ _ (fun _ _ _ _ _ _ q => by cases q; exact hok2)
         ·cases h
        ·cases h
       ·cases h
      ·cases h
     ·cases h
    ·cases h
  refine ⟨hloops, ?_, ?_⟩
  ·intro N f args H v H1 h hL m w args' hR hG ha
   simp only [ev] at h
   split at h
   ·rename_i r hs
    obtain ⟨s, e1, e2⟩ := Summ.ap_some hs
    cases h
    exact (hS f s e1 _ _ _ _ e2).2 N hL m w args' hR hG ha
   ·split at h
    ·rename_i fn hf
     split at h
     ·rename_i c hc
      split at h
      ·cases h
      ·cases h
      ·rename_i e a' H' hne he
       obtain ⟨u, hu, h2⟩ := Option.map_eq_some_iff.1 h
       simp only [Prod.mk.injEq] at h2
       obtain ⟨rfl, rfl⟩ := h2
       refine ⟨fn, hf, .inl ⟨by rw [hc]; rfl, ?_⟩⟩
       refine callsIn_of_wp_marks hf hc trivial ?_
       have ha0 : VRL m (args ++ List.replicate (fn.ntmps - args.length) undef) (args' ++ Array.replicate (fn.ntmps - args'.size) undef).toList := by
        simp only [Array.toList_append, Array.toList_replicate]
        have e1 : args'.size = args.length := by have := ha.1; simpa using this.symm
        rw [e1]
        exact ha.append (.replicate _ .undef)
       refine code_sound hP.toPOk ih n none w.heap.size c _ _ _ _ _ (hP.codes f fn c hf hc) he hL m w _ [] _ hR hG (fun l hl => by cases hl) ha0 rfl ⟨List.nodup_nil, fun r hr => by simp at hr⟩ (Nat.le_refl _) ?_
       intro act' m1 w1 rs g1 g2 g3 g4
       have hend : LeavesInM Fence.wide 0 P fn act'.tmps (fun e w' => ∃ v', e = .returned v' ∧ After m H w u H' v' w') act'.defers .returning w1 := by
        rw [g2]
        refine leaves_marks rs w1 g3.nodup (fun r hr => (g3.blk r hr).2) fun w2 k1 k2 k3 k4 k5 => ?_
        have hR2 := g4.rel.shut (fun r hr => (g3.blk r hr).2) k1 k5
        obtain ⟨v', r1, r2⟩ := aresults_run (P := P) hR2 g1 hu
        refine ⟨v', r1, v', rfl, m1, r2, ⟨hR2, g4.next, g4.old, by rw [k1]; exact g4.size, fun k hk hno => ?_, g4.grow, g4.seen, k2.trans g4.os, k3.trans g4.tape, k4.trans g4.output, fun k l hl => ?_, g4.fle, g4.fgrow⟩⟩
        ·rw [k5 k (fun hin => by have := (g3.blk k hin).1; omega)]
         exact g4.frame k hk hno
        ·have hk : k < w.heap.size := lt_of_some hl
         rw [k5 k (fun hin => by have := (g3.blk k hin).1; omega)]
         exact g4.loops k l hl
       cases e with
       | normal => exact hend
       | ret => exact hend
       | exit id => exact absurd rfl (hne id)
     ·rename_i hc
      obtain ⟨e1, hfl, hfv, hrun⟩ := aextern_some h
      subst e1
      have e2 := ha.flat_eq hfl
      have e3 : args' = args.toArray := by apply Array.ext'; simpa using e2
      subst e3
      exact ⟨fn, hf, .inr ⟨by rw [hc]; rfl, v, w, hrun w, m, vr_of_flat hfv, .refl hR⟩⟩
    ·cases h
  ·intro N l args H v H1 h hL m w args' pl hl hR hG ha
   simp only [ev] at h
   split at h
   ·rename_i tmps ps asg body hg
    have hok := hL.code _ _ _ _ _ _ _ hg
    split at h
    ·rename_i hlen
     split at h
     ·rename_i a1 H1' hasg
      have hL1 := evalCode_loops ih n asg _ _ _ _ _ hok.1 hasg hL
      split at h
      ·rename_i tmps' ps' asg' body' pend' hg1
       split at h
       ·rename_i e a2 H2 hbody
        have hok1 := hL1.code _ _ _ _ _ _ _ hg1
        have hLs : LoopsOk P N (H1'.set l (.loop tmps' ps' asg' body' 1 pend')) := hL1.set _ _ (fun _ _ _ _ _ _ q => by cases q; exact hok1)
        split at h
        ·rename_i tmps2 ps2 asg2 body2 st2 pend2 hg2
         have ho := hR.obj l pl hl
         rw [hg] at ho
         obtain ⟨lp, o1, o2, o3, o4, o5, o6, o7⟩ := ho
         have e1 : args'.size = args.length := by have := ha.1; simpa using this.symm
         have hy := run_yield (P := P) (args := args') o1 (by rw [e1, hlen, ← o5]; simp)
         refine ⟨_, _, _, _, hy, roundIn_of_wpIn trivial ?_⟩
         rw [o6, o7]
         have hz : VRL m (putAll tmps (ps.zip args)) ((lp.params.zip args').foldl (fun tmps (x : Tmp × Value) => tmps.setIfInBounds x.1 x.2) lp.tmps).toList := by
          rw [← Array.foldl_toList, Array.toList_zip, o5]
          exact putAll_vr _ _ _ _ (putAll_zip ha.1) (zip_snd ha) o4
         refine code_sound hP.toPOk ih n (some pl.blk) w.heap.size asg _ _ _ _ _ hok.1 hasg hL m w _ [] _ hR hG (fun q hq => by cases hq; exact ⟨lp, o1⟩) hz rfl ⟨List.nodup_nil, fun r hr => by simp at hr⟩ (Nat.le_refl _) ?_
         intro act1 m1 w1 rs1 g1 g2 g3 g4
         show ∃ w2, _
         have hl1 : m1 l = some pl := (g4.le hR).1 _ _ hl
         have ho1 := g4.rel.obj l pl hl1
         rw [hg1] at ho1
         obtain ⟨lp1, p1, p2, p3, p4, p5, p6, p7⟩ := ho1
         have hbr := run_beginRound (P := P) p1 p2
         refine ⟨_, hbr, ?_⟩
         have hs2 := Stp.setLoop g4.rel hl1 hg1 1 pend' p1
         have e2 : (w1.putObj pl.blk (.loop { lp1 with state := stOf 1, pending := pend' })) = w1.putObj pl.blk (.loop { lp1 with state := .busy }) := by rw [← p3]; rfl
         rw [e2] at hs2
         have hs02 := g4.trans hs2
         have hin : InRound (some pl.blk) (w1.putObj pl.blk (.loop { lp1 with state := .busy })) := fun q hq => by cases hq; exact ⟨_, World.putObj_heap_same (lt_of_some p1)⟩
         refine code_sound hP.toPOk ih n (some pl.blk) w.heap.size body _ _ _ _ _ hok.2 hbody hLs m1 _ act1 rs1 _ hs2.rel (hG.mono (g4.le hR)) hin g1 g2 (g3.stp g4.rel hs2) (Nat.le_trans g4.size hs2.size) ?_
         intro act2 m2 w2 rs2 q1 q2 q3 q4
         have hs03 := hs02.trans q4
         have hl2 : m2 l = some pl := (q4.le hs2.rel).1 _ _ hl1
         have ho2 := q4.rel.obj l pl hl2
         rw [hg2] at ho2
         obtain ⟨lp2, t1, t2, t3, t4, t5, t6, t7⟩ := ho2
         cases e with
         | normal =>
          cases h
          have hend := run_endRound (P := P) none t1
          exact ⟨_, _, hend, _, rfl, m2, .flat _ rfl, hs03.trans (Stp.setLoop q4.rel hl2 hg2 0 none t1)⟩
         | ret =>
          cases h
          have hend := run_endRound (P := P) (some .ret) t1
          exact ⟨_, _, hend, _, rfl, m2, .flat _ rfl, hs03.trans (Stp.setLoop q4.rel hl2 hg2 2 (some .ret) t1)⟩
         | exit id =>
          cases h
          have hend := run_endRound (P := P) (some (.exit id)) t1
          exact ⟨_, _, hend, _, rfl, m2, .flat _ rfl, hs03.trans (Stp.setLoop q4.rel hl2 hg2 2 (some (.exit id)) t1)⟩
        ·cases h
       ·cases h
      ·cases h
     ·cases h
    ·cases h
   ·cases h

end Go.AM
