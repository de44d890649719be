/- AM's regions that draw their order: whatever order is drawn, it comes to what the text's order comes to. -/

import Derived.Test.YtgpligmjbecbjaaGreatDoorAmRun
set_option linter.unusedVariables false
set_option linter.unusedSimpArgs false
set_option linter.unusedSectionVars false
namespace Go.AM
open Go
variable {N : Nat} [EqV]

theorem evalDraw_loops {P : Program} {cf : Oracle} (hcf : Sound P cf) {ops : Array Oper} : ∀ (l : List Oper) (i : Nat) (a a' : Env) (H H1 : AH) (rs rs' : List Rec), LoopsOk P N H → evalDraw P cf ops l i a H rs = some (a', H1, rs') → LoopsOk P N H1 := by
 intro l
 induction l with
 | nil => intro i a a' H H1 rs rs' hL h; cases h; exact hL
 | cons o r ih =>
  intro i a a' H H1 rs rs' hL h; simp only [evalDraw] at h; split at h
  ·obtain ⟨⟨v, H2⟩, h1, h2⟩ := Option.bind_eq_some_iff.1 h
   exact ih _ _ _ _ _ _ _ (doOp_loops hcf hL h1) h2
  ·exact ih _ _ _ _ _ _ _ hL h

theorem evalDraw_trace {P : Program} {cf : Oracle} {ops : Array Oper} : ∀ (n i : Nat) (a a' : Env) (H H1 : AH) (rs rs' : List Rec), i + n = ops.size → evalDraw P cf ops (ops.toList.drop i) i a H rs = some (a', H1, rs') →
  ∃ (E : Nat → Env) (Hp : Nat → AH) (vl : Nat → Value), E i = a ∧ Hp i = H ∧ E ops.size = a' ∧ Hp ops.size = H1 ∧ (∀ x ∈ rs, x ∈ rs') ∧
   (∀ (k : Nat) (hk : k < ops.size), i ≤ k → ((wantedA ops ops[k] (E k) = true ∧ doOp P cf ops[k] (E k) (Hp k) = some (vl k, Hp (k + 1)) ∧ ∀ x ∈ recOf P ops[k] k (E k) (Hp k) (vl k) (Hp (k + 1)), x ∈ rs') ∨
    (wantedA ops ops[k] (E k) = false ∧ vl k = undef ∧ Hp (k + 1) = Hp k)) ∧ E (k + 1) = putA (E k) ops[k].dst (vl k)) := by
 intro n
 induction n with
 | zero =>
  intro i a a' H H1 rs rs' hi h; rw [List.drop_of_length_le (by simp; omega)] at h; cases h; have : i = ops.size := by omega
  subst this; exact ⟨fun _ => a, fun _ => H, fun _ => undef, rfl, rfl, rfl, rfl, fun x hx => hx, fun k hk hle => by omega⟩
 | succ n ih =>
  intro i a a' H H1 rs rs' hi h; have hlt : i < ops.size := by omega
  have hd : ops.toList.drop i = ops[i] :: ops.toList.drop (i + 1) := by
   rw [List.drop_eq_getElem_cons (by simpa using hlt)]; simp
  rw [hd] at h; simp only [evalDraw] at h; split at h
  ·rename_i hw
   obtain ⟨⟨v, H2⟩, h1, h2⟩ := Option.bind_eq_some_iff.1 h; obtain ⟨E, Hp, vl, e1, e2, e3, e4, e5, e6⟩ := ih (i + 1) _ _ _ _ _ _ (by omega) h2; refine ⟨fun k => if k = i then a else E k, fun k => if k = i then H else Hp k, fun k => if k = i then v else vl k, by simp, by simp, (if_neg (by omega)).trans e3, (if_neg (by omega)).trans e4, fun x hx => e5 x (List.mem_append_right _ hx), fun k hk hle => ?_⟩; by_cases hki : k = i
   ·subst hki
    have h3 : ¬ (k + 1 = k) := by omega
    simp only [if_true, if_neg h3]; refine ⟨.inl ⟨hw, by rw [e2]; exact h1, fun x hx => e5 x (List.mem_append_left _ (by rw [e2] at hx; exact hx))⟩, e1⟩
   ·have h3 : ¬ (k + 1 = i) := by omega
    simp only [if_neg hki, if_neg h3]; exact e6 k hk (by omega)
  ·rename_i hw
   obtain ⟨E, Hp, vl, e1, e2, e3, e4, e5, e6⟩ := ih (i + 1) _ _ _ _ _ _ (by omega) h; refine ⟨fun k => if k = i then a else E k, fun k => if k = i then H else Hp k, fun k => if k = i then undef else vl k, by simp, by simp, (if_neg (by omega)).trans e3, (if_neg (by omega)).trans e4, e5, fun k hk hle => ?_⟩; by_cases hki : k = i
   ·subst hki
    have h3 : ¬ (k + 1 = k) := by omega
    simp only [if_true, if_neg h3]; exact ⟨.inr ⟨by simpa using hw, trivial, e2⟩, e1⟩
   ·have h3 : ¬ (k + 1 = i) := by omega
    simp only [if_neg hki, if_neg h3]; exact e6 k hk (by omega)

theorem aop_still {P : Program} {o : Op} {ty : TypeId} {ρ : Operand → Value} {H : AH} {r : ANx} (hk : okind P o = .quiet ∨ okind P o = .load) (h : aop P o ty ρ H = some r) : ∃ v, r = .val v H := by
 cases o
 all_goals (first | (rcases hk with hk | hk <;> simp only [okind] at hk <;> cases hk; done) | skip)
 all_goals (first | (simp only [aop] at h) | skip)
 all_goals (first | (cases h; exact ⟨_, rfl⟩) | (obtain ⟨u, hu, rfl⟩ := aval_some h; exact ⟨_, rfl⟩) | (split at h <;> cases h <;> exact ⟨_, rfl⟩) | skip)
 case unOp op t x =>
  split at h
  ·obtain ⟨u, hu, rfl⟩ := aval_some h; exact ⟨_, rfl⟩
  ·cases h
 case convert s d x =>
  obtain ⟨u, H2, hu, rfl⟩ := avalH_some h; unfold aconvert at hu; simp only [okind] at hk; split at hk
  ·rcases hk with hk | hk <;> cases hk
  ·rcases hk with hk | hk <;> cases hk
  ·rcases hk with hk | hk <;> cases hk
  ·rcases hk with hk | hk <;> cases hk
  ·rename_i h1 h2 h3 h4
   split at hu
   ·rename_i e s' hs hd hx; exact absurd hd (h3 _)
   ·rename_i e b off len z hs hd hx; exact absurd hs (h1 _)
   ·rename_i e len s' cs z hs hd hx; exact absurd hs (h1 _)
   ·split at hu
    ·obtain ⟨q, hq, e⟩ := Option.map_eq_some_iff.1 hu
     cases e; exact ⟨_, rfl⟩
    ·unfold aunsafe at hu
     split at hu
     ·rename_i hd _; exact absurd hd h4
     ·rename_i hs _ _; exact absurd hs h2
     ·cases hu
 case makeFunc fn a b =>
  cases fn <;> simp only [aop] at h <;> cases h
  exact ⟨_, rfl⟩
 case extract x i =>
  split at h
  ·obtain ⟨u, hu, rfl⟩ := aval_some h; exact ⟨_, rfl⟩
  ·cases h
 case call c =>
  obtain ⟨callee, args, argTypes⟩ := c; cases callee with
  | value f => rcases hk with hk | hk <;> simp only [okind] at hk <;> cases hk
  | invoke f mm => rcases hk with hk | hk <;> simp only [okind] at hk <;> cases hk
  | builtin b =>
   simp only at h; unfold abuiltin at h; cases b
   all_goals (first | (cases h; done) | skip)
   all_goals (simp only at h)
   case append => rcases hk with hk | hk <;> simp only [okind] at hk <;> cases hk
   case copy => rcases hk with hk | hk <;> simp only [okind] at hk <;> cases hk
   case len => obtain ⟨u, hu, rfl⟩ := aval_some h; exact ⟨_, rfl⟩
   case min =>
    split at h
    ·obtain ⟨u, hu, rfl⟩ := aval_some h; exact ⟨_, rfl⟩
    ·cases h
   case max =>
    split at h
    ·obtain ⟨u, hu, rfl⟩ := aval_some h; exact ⟨_, rfl⟩
    ·cases h
   all_goals (rcases hk with hk | hk <;> simp only [okind] at hk <;> cases hk)

theorem aop_alloc {P : Program} {o : Op} {ty : TypeId} {ρ : Operand → Value} {H : AH} {r : ANx} (hk : okind P o = .alloc) (h : aop P o ty ρ H = some r) : ∃ v c sz t, r = .val v (H.push (.cells c true sz t)) := by
 cases o
 all_goals (first | (simp only [okind] at hk; cases hk; done) | (simp only [okind] at hk; split at hk <;> cases hk; done) | skip)
 all_goals (simp only [aop] at h)
 case alloc e => split at h <;> cases h; exact ⟨_, _, _, _, rfl⟩
 case box e x => cases h; exact ⟨_, _, _, _, rfl⟩
 case buildSlice t len parts =>
  obtain ⟨u, H2, hu, rfl⟩ := avalH_some h; unfold abuildSlice at hu; split at hu
  ·split at hu
   ·split at hu
    ·obtain ⟨c, -, e⟩ := Option.map_eq_some_iff.1 hu
     cases e; exact ⟨_, _, _, _, rfl⟩
    ·cases hu
   ·cases hu
  ·cases hu
 case makeSlice t l c =>
  obtain ⟨u, H2, hu, rfl⟩ := avalH_some h; unfold amakeSlice at hu; split at hu
  ·split at hu
   ·split at hu
    ·cases hu; exact ⟨_, _, _, _, rfl⟩
    ·cases hu
   ·cases hu
  ·cases hu
 case call c =>
  obtain ⟨callee, args, argTypes⟩ := c; cases callee with
  | value f => simp only [okind] at hk; cases hk
  | invoke f mm => simp only [okind] at hk; cases hk
  | builtin b =>
   cases b
   all_goals (simp only [okind] at hk)
   all_goals (first | (cases hk; done) | (split at hk <;> cases hk))

theorem cellsEq_eq : ∀ {a b : List Value}, cellsEq a b = true → a = b := by
 intro a
 induction a with
 | nil => intro b h; cases b with | nil => rfl | cons => cases h
 | cons x r ih =>
  intro b h; cases b with
  | nil => cases h
  | cons y s =>
   simp only [cellsEq, Bool.and_eq_true] at h; rw [EqV.sound _ _ h.1, ih h.2]

theorem anc_closed {ops : Array Oper} {D : Nat → Bool} (hD : ∀ (j : Nat) (o : Oper), ops[j]? = some o → D j = true → ∀ e ∈ o.after, Region.binds .any e = true → D e.on = true) : ∀ (f i j : Nat), anc ops f i j = true → D j = true → D i = true := by
 intro f
 induction f with
 | zero => intro i j h; cases h
 | succ f ih =>
  intro i j h hj; simp only [anc] at h; cases ho : ops[j]? with
  | none => rw [ho] at h; cases h
  | some o =>
   rw [ho] at h; rw [Array.any_eq_true'] at h; obtain ⟨e, he, h⟩ := h; simp only [Bool.and_eq_true, Bool.or_eq_true, beq_iff_eq] at h; have h1 := hD j o ho hj e he h.1; rcases h.2 with h2 | h2
   ·rw [← h2]; exact h1
   ·exact ih i e.on h2 h1
theorem anc_ready {ops : Array Oper} {D : Nat → Bool} (hD : ∀ (j : Nat) (o : Oper), ops[j]? = some o → D j = true → ∀ e ∈ o.after, Region.binds .any e = true → D e.on = true) {f i j : Nat} {o : Oper} (ho : ops[j]? = some o) (hr : ∀ e ∈ o.after, Region.binds .any e = true → D e.on = true)
  (h : anc ops f i j = true) : D i = true := by
 cases f with
 | zero => cases h
 | succ f =>
  simp only [anc, ho] at h; rw [Array.any_eq_true'] at h; obtain ⟨e, he, h⟩ := h; simp only [Bool.and_eq_true, Bool.or_eq_true, beq_iff_eq] at h; rcases h.2 with h2 | h2
  ·rw [← h2]; exact hr e he h.1
  ·exact anc_closed hD f i e.on h2 (hr e he h.1)

theorem drawOk_spec {P : Program} {ops : Array Oper} (h : drawOk P ops = true) {i j : Nat} (hi : i < ops.size) (hj : j < ops.size) (hij : i < j) :
  anc ops ops.size i j = true ∨ ((okind P ops[i].op ≠ .effect ∨ okind P ops[j].op ≠ .effect) ∧ (∀ d, ops[i].dst = some d → d ∉ reads ops ops[j] ∧ ops[j].dst ≠ some d) ∧ (∀ d, ops[j].dst = some d → d ∉ reads ops ops[i])) := by
 have h1 := List.all_eq_true.1 h j (by simpa using hj)
 simp only [Bool.and_eq_true] at h1
 have h2 := List.all_eq_true.1 h1.2 i (by simpa using hij)
 simp only [Array.getElem?_eq_getElem hi, Array.getElem?_eq_getElem hj, Bool.or_eq_true, Bool.and_eq_true] at h2
 rcases h2 with h2 | ⟨⟨h2, h3⟩, h4⟩
 ·exact .inl h2
 ·refine .inr ⟨?_, fun d hd => ?_, fun d hd => ?_⟩
  ·simp only [Bool.not_eq_true', Bool.and_eq_false_iff, beq_eq_false_iff_ne] at h2
   exact h2
  ·rw [hd] at h3
   simp only [Bool.and_eq_true, Bool.not_eq_true', bne_iff_ne] at h3; exact ⟨by simpa using h3.1, h3.2⟩
  ·rw [hd] at h4
   simpa using h4
theorem drawOk_edges {P : Program} {ops : Array Oper} (h : drawOk P ops = true) {j : Nat} {o : Oper} (ho : ops[j]? = some o) {e : Edge} (he : e ∈ o.after) (hb : Region.binds .any e = true) : e.on < j := by
 have hj := (Array.getElem?_eq_some_iff.1 ho).1
 have h1 := List.all_eq_true.1 h j (by simpa using hj)
 simp only [Bool.and_eq_true, ho] at h1
 have := List.all_eq_true.1 h1.1 e (by simpa using he)
 simpa [hb] using this
theorem anc_lt {P : Program} {ops : Array Oper} (hok : drawOk P ops = true) : ∀ (f i j : Nat), anc ops f i j = true → i < j := by
 intro f
 induction f with
 | zero => intro i j h; cases h
 | succ f ih =>
  intro i j h; simp only [anc] at h; cases ho : ops[j]? with
  | none => rw [ho] at h; cases h
  | some o =>
   rw [ho] at h; rw [Array.any_eq_true'] at h; obtain ⟨e, he, h⟩ := h; simp only [Bool.and_eq_true, Bool.or_eq_true, beq_iff_eq] at h; have h1 := drawOk_edges hok ho he h.1; rcases h.2 with h2 | h2
   ·omega
   ·have := ih _ _ h2; omega

theorem lt_of_some {α : Type} {h : Array α} {k : Nat} {x : α} (e : h[k]? = some x) : k < h.size := (Array.getElem?_eq_some_iff.1 e).1
theorem Stp.junk {m : Mp} {H : AH} {w w1 : World} (hR : Rel m H w) (obj : Obj) (hw : w1.heap = w.heap.push obj) (ho : w1.os = w.os) (ht : w1.tape = w.tape) (hp : w1.output = w.output) : Stp m H w m H w1 := by
 have hold : ∀ k, k < w.heap.size → w1.heap[k]? = w.heap[k]? := fun k hk => by rw [hw, Array.getElem?_push, if_neg (by omega)]
 have hsz : w1.heap.size = w.heap.size + 1 := by rw [hw]; simp
 refine ⟨⟨hR.dom, fun b pl hb => by have := hR.blk b pl hb; omega, fun b pl hb => (hR.obj b pl hb).mono (Mle.refl m) (hold _ (hR.blk b pl hb)), hR.apart, fun k arr hk => by rw [hold k (hR.fro_lt hk)]; exact hR.fro k arr hk⟩, Nat.le_refl _, fun _ _ => rfl, by omega, fun k hk _ => hold k hk, fun _ hk => .inl hk, fun _ hk => .inl hk, ho, ht, hp, fun k l hl => ⟨l, ?_, rfl⟩, fun _ _ h => h, fun _ _ h => .inl h⟩
 rw [hold k (lt_of_some hl)]; exact hl

def cut (m : Mp) (n : Nat) : Mp := ⟨fun b => if b < n then m b else none, m.fro⟩
theorem cut_apply (m : Mp) (n b : Nat) : cut m n b = if b < n then m b else none := rfl
@[simp] theorem cut_fro (m : Mp) (n : Nat) : (cut m n).fro = m.fro := rfl
theorem cut_mono (m : Mp) {n k : Nat} (h : n ≤ k) : Mle (cut m n) (cut m k) := by
 refine ⟨fun b pl hb => ?_, fun _ _ h => h⟩
 rw [cut_apply] at hb ⊢
 split at hb
 ·rw [if_pos (by omega)]; exact hb
 ·cases hb
theorem cut_mle {m m1 : Mp} (h : Mle m m1) (n : Nat) : Mle (cut m n) (cut m1 n) := by
 refine ⟨fun b pl hb => ?_, h.2⟩
 rw [cut_apply] at hb ⊢
 split at hb
 ·rename_i hlt; rw [if_pos hlt]; exact h.1 _ _ hb
 ·cases hb
theorem cut_some {m : Mp} {n b : Nat} {pl : Pl} (h : cut m n b = some pl) : b < n ∧ m b = some pl := by
 rw [cut_apply] at h; split at h
 ·rename_i hb; exact ⟨hb, h⟩
 ·cases h
theorem cut_in {m : Mp} {n b : Nat} (h : b < n) : cut m n b = m b := if_pos h
theorem cut_self {m : Mp} {H : AH} {w : World} (hR : Rel m H w) : cut m H.next = m := by
 refine Mp.ext (funext fun b => ?_) rfl
 show (if b < H.next then m b else none) = m b
 split
 ·rfl
 ·rename_i h
  cases hb : m b with
  | none => rfl
  | some pl => exact absurd (hR.dom b pl hb) h

theorem Stp.pushOnly {m : Mp} {H : AH} {w : World} {m1 : Mp} {H1 : AH} {w1 : World} (h : Stp m H w m1 H1 w1) (o : AObj) : Stp m H w m1 (H1.push o) w1 := by
 have hget : ∀ b pl, m1 b = some pl → (H1.push o).get b = H1.get b := fun b pl hb => by rw [AH.get_push, if_neg (Nat.ne_of_gt (h.rel.dom b pl hb))]
 refine ⟨⟨fun b pl hb => Nat.lt_succ_of_lt (h.rel.dom b pl hb), h.rel.blk, fun b pl hb => by rw [hget b pl hb]; exact h.rel.obj b pl hb, fun b b' p p' a c d e f => h.rel.apart b b' p p' a c d (by rw [← hget b p a]; exact e) (by rw [← hget b' p' c]; exact f), fun k arr hk => ⟨(h.rel.fro k arr hk).1, fun ⟨b, pl, a, c, d⟩ => (h.rel.fro k arr hk).2 ⟨b, pl, a, by rw [← hget b pl a]; exact c, d⟩⟩⟩, Nat.le_succ_of_le h.next, h.old, h.size, h.frame, fun k ⟨b, pl, a, c, d⟩ => h.grow k ⟨b, pl, a, by rw [← hget b pl a]; exact c, d⟩, fun k ⟨b, pl, a, c, d⟩ => h.seen k ⟨b, pl, a, by rw [← hget b pl a]; exact c, d⟩, h.os, h.tape, h.output, h.loops, h.fle, h.fgrow⟩

theorem Stp.see {m : Mp} {H : AH} {w : World} {m1 : Mp} {H1 : AH} {w1 : World} (h : Stp m H w m1 H1 w1) {b : Nat} {pl : Pl} (hb : b < H1.next) (hlo : H.next ≤ b) (hnone : m1 b = none) (hobj : ObjRel (upd m1 b pl) (H1.get b) pl w1) (hblk : pl.blk < w1.heap.size) (hnew : w.heap.size ≤ pl.blk)
  (hfar : ∀ b' p', m1 b' = some p' → H1.get b' ≠ .dead → p'.blk ≠ pl.blk) (hun : m1.fro pl.blk = none) : Stp m H w (upd m1 b pl) H1 w1 := by
 have hle : Mle m1 (upd m1 b pl) := ⟨fun k p hk => by
  by_cases e : k = b
  ·subst e; rw [hnone] at hk; cases hk
  ·rw [upd_other e]; exact hk, fun _ _ h => h⟩
 have hfro : ∀ k arr, m1.fro k = some arr → (∃ ty fr, w1.heap[k]? = some (.cells arr ty fr)) ∧ ¬ Owned (upd m1 b pl) H1 k := fun k arr hk => by
  obtain ⟨g1, g2⟩ := h.rel.fro k arr hk; refine ⟨g1, ?_⟩
  rintro ⟨b', p', hb', ho, he⟩
  by_cases e : b' = b
  ·subst e; rw [upd_self] at hb'; cases hb'
   rw [← he, hun] at hk; cases hk
  ·rw [upd_other e] at hb'; exact g2 ⟨b', p', hb', ho, he⟩
 refine ⟨⟨fun k p hk => ?_, fun k p hk => ?_, fun k p hk => ?_, fun k k' p p' hk hk' hne ho hd => ?_, hfro⟩, h.next, fun k hk => ?_, h.size, h.frame, fun k => ?_, fun k => ?_, h.os, h.tape, h.output, h.loops, h.fle, h.fgrow⟩
 ·by_cases e : k = b
  ·subst e; exact hb
  ·rw [upd_other e] at hk; exact h.rel.dom k p hk
 ·by_cases e : k = b
  ·subst e; rw [upd_self] at hk; cases hk; exact hblk
  ·rw [upd_other e] at hk; exact h.rel.blk k p hk
 ·by_cases e : k = b
  ·subst e; rw [upd_self] at hk; cases hk; exact hobj
  ·rw [upd_other e] at hk; exact (h.rel.obj k p hk).mono hle rfl
 ·by_cases e : k = b
  ·subst e; rw [upd_self] at hk; cases hk
   rw [upd_other (Ne.symm hne)] at hk'; exact fun q => hfar k' p' hk' hd q.symm
  ·rw [upd_other e] at hk
   by_cases e' : k' = b
   ·subst e'; rw [upd_self] at hk'; cases hk'
    exact hfar k p hk (by intro q; rw [q] at ho; cases ho)
   ·rw [upd_other e'] at hk'
    exact h.rel.apart k k' p p' hk hk' hne ho hd
 ·rw [upd_other (by omega)]; exact h.old k hk
 ·rintro ⟨b', p', hb', ho, rfl⟩
  by_cases e : b' = b
  ·subst e; rw [upd_self] at hb'; cases hb'; exact .inr hnew
  ·rw [upd_other e] at hb'; exact h.grow _ ⟨b', p', hb', ho, rfl⟩
 ·rintro ⟨b', p', hb', ho, rfl⟩
  by_cases e : b' = b
  ·subst e; rw [upd_self] at hb'; cases hb'; exact .inr hnew
  ·rw [upd_other e] at hb'; exact h.seen _ ⟨b', p', hb', ho, rfl⟩

end Go.AM
