/- Closed calls: what a call of values without addresses comes to in the empty heap, it comes to in any heap. -/

import Derived.Test.YtgpligmjbecbjaaGreatDoorAmSeal
import Derived.Test.YtgpligmjbecbjaaGreatDoorAmFast
set_option linter.unusedVariables false
set_option linter.unusedSimpArgs false
set_option linter.unusedSectionVars false
namespace Go.AM
open Go
variable [EqV]

def emp (N : Nat) : AH := ⟨fun _ => .dead, N⟩
theorem emp_loops {P : Program} (N : Nat) : LoopsOk P N (emp N) := ⟨Nat.le_refl _, fun k tmps ps asg body st pend h => by cases h⟩

theorem CallRel.weaken {P : Program} {f : FuncId} {args : Array Value} {w : World} {R R' : Value → World → Prop} (h : CallRel P f args w R) (hR : ∀ v w', R v w' → R' v w') : CallRel P f args w R' := by
 obtain ⟨fn, hf, h | ⟨h1, v, w', h2, h3⟩⟩ := h
 ·refine ⟨fn, hf, .inl ⟨h.1, h.2.mono fun e w' he => ?_⟩⟩
  obtain ⟨v, e1, e2⟩ := he; exact ⟨v, e1, hR _ _ e2⟩
 ·exact ⟨fn, hf, .inr ⟨h1, v, w', h2, hR _ _ h3⟩⟩
def GlFlat : Prop := ∀ g cs, EqV.glob g = some cs → ∀ i (h : i < cs.size), Closed cs[i]
theorem call_emp {P : Program} (hP : POk2 P) {S : Summ} (hS : SummOK P S) (hgl : GlFlat) {n : Nat} {f : FuncId} {args : List Value} {v d : Value} {H1 : AH} (h : ev P S n (.fn f) args (emp P.globals.size) = some (v, H1)) (hc : ∀ x ∈ args, Closed x)
  (hsame : ∀ b, b < P.globals.size → H1.get b = .dead) (hd : Deep H1 P.globals.size v d) {m : Mp} {H : AH} {w : World} {args' : Array Value} (hR : Rel m H w) (hG : GOk P m) (ha : VRL m args args'.toList) : CallRel P f args' w (After m H w d H) := by
 let m0 : Mp := ⟨fun b => if b < P.globals.size then some ⟨b, 0, 0, 0⟩ else none, m.fro⟩
 have hat : ∀ b pl, m0 b = some pl → b < P.globals.size ∧ pl = ⟨b, 0, 0, 0⟩ ∧ m b = some pl := fun b pl hb => by
  have hb : (if b < P.globals.size then some (⟨b, 0, 0, 0⟩ : Pl) else none) = some pl := hb; split at hb
  ·rename_i hlt; cases hb; exact ⟨hlt, rfl, (hG b hlt).1⟩
  ·cases hb
 have hno : ∀ k, ¬ Owned m0 (emp P.globals.size) k := fun k ⟨b, pl, _, ho, _⟩ => by cases ho
 have hR0 : Rel m0 (emp P.globals.size) w := by
  refine ⟨fun b pl hb => (hat b pl hb).1, fun b pl hb => hR.blk b pl (hat b pl hb).2.2, fun b pl hb => True.intro, fun b b' pl pl' _ _ _ ho => (by cases ho), fun k arr hk => ⟨(hR.fro k arr hk).1, hno k⟩⟩
 have cv : ∀ {x x' : Value}, Closed x → VR m x x' → VR m0 x x' := fun hx h => Closed.vr (m := m) (m2 := m0) (fun k arr h => h) h hx
 have hG0 : GOk P m0 := fun g hg => by
  refine ⟨if_pos hg, fun cs hcs => ?_⟩; have h1 := (hG g hg).2 cs hcs; obtain ⟨k2, off2, arr2, e, g1, g2, g3⟩ := h1.dptr_inv; cases e; exact .dptr cs _ _ arr2 g1 g2 fun i a b => cv (hgl g cs hcs i a) (g3 i a b)
 have ha0 : VRL m0 args args'.toList := ⟨ha.1, fun i p q => cv (hc _ (List.getElem_mem p)) (ha.2 i p q)⟩
 refine CallRel.weaken ((ev_sound hP hS n).fn _ _ _ _ _ _ h (emp_loops _) m0 w args' hR0 hG0 ha0) fun v' w' hv => ?_
 obtain ⟨m1, h1, h2⟩ := hv
 obtain ⟨m2, h3, h4⟩ := sealed hR0 h2 (fun b hb => hsame b hb) hd h1
 have hfr : ∀ k, k < w.heap.size → w'.heap[k]? = w.heap[k]? := fun k hk => h3.frame k hk (hno k)
 have hfg : ∀ k arr, m2.fro k = some arr → m.fro k = some arr ∨ w.heap.size ≤ k := fun k arr hk => by
  rcases h3.fgrow k arr hk with q | q | q
  ·exact .inl q
  ·exact absurd q (hno k)
  ·exact .inr q
 let m3 : Mp := ⟨m.at_, m2.fro⟩
 have hle : Mle m m3 := ⟨fun b pl hb => hb, fun k arr hk => h3.fle k arr hk⟩
 have v4 : VR m3 d v' := h4.mono (m := m2) (m1 := m3) ⟨fun b pl hb => (hat b pl (by rw [← h3.old b (h3.rel.dom b pl hb)]; exact hb)).2.2, fun k arr h => h⟩
 refine ⟨m3, v4, ⟨⟨fun b pl hb => hR.dom b pl hb, fun b pl hb => Nat.lt_of_lt_of_le (hR.blk b pl hb) h3.size, fun b pl hb => ?_, fun b b' pl pl' h1 h2 => hR.apart b b' pl pl' h1 h2, fun k arr hk => ?_⟩, Nat.le_refl _, fun b _ => rfl, h3.size, fun k hk _ => hfr k hk, fun k hk => .inl hk, fun k hk => .inl hk, h3.os, h3.tape, h3.output, h3.loops, fun k arr hk => h3.fle k arr hk, fun k arr hk => ?_⟩⟩
 ·exact (hR.obj b pl hb).mono hle (hfr _ (hR.blk b pl hb))
 ·refine ⟨(h3.rel.fro k arr hk).1, fun ho => ?_⟩
  rcases hfg k arr hk with q | q
  ·exact (hR.fro k arr q).2 ho
  ·obtain ⟨b, pl, hb, _, rfl⟩ := ho
   have := hR.blk b pl hb; omega
 ·rcases hfg k arr hk with q | q
  ·exact .inl q
  ·exact .inr (.inr q)

noncomputable def PSumm.put (S : PSumm) (f : FuncId) (s : List Value → (Nat → AObj) → Option Value) : PSumm := fun g => Bool.rec (S g) (some s) (Nat.beq g f)
def PSumm.none : PSumm := fun _ => Option.none
theorem PSumm.none_ok {P : Program} : SummOK P PSumm.none.summ := fun f s h => by cases h
theorem PSumm.put_ok {P : Program} {S : PSumm} (hS : SummOK P S.summ) {f : FuncId} {s : List Value → (Nat → AObj) → Option Value}
  (h : ∀ args g d, s args g = some d → ∀ (m : Mp) (H : AH) (w : World) (args' : Array Value), H.get = g → Rel m H w → GOk P m → VRL m args args'.toList → CallRel P f args' w (After m H w d H)) : SummOK P (S.put f s).summ := by
 intro g s' hg args H v H1 hs
 unfold PSumm.summ PSumm.put at hg
 by_cases e : g = f
 ·subst e
  rw [Nat.beq_refl] at hg; cases hg; obtain ⟨d, hd, e⟩ := Option.map_eq_some_iff.1 hs; simp only [Prod.mk.injEq] at e; obtain ⟨rfl, rfl⟩ := e; exact ⟨fun N hL => hL, fun N hL m w args' hR hG ha => h _ _ _ hd m H w args' rfl hR hG ha⟩
 ·rw [nb_f e] at hg
  exact hS g s' hg args H v H1 hs
noncomputable def deadN (N : Nat) (h : HT) : Bool := Nat.rec true (fun b r => match h.get (Nat.succ b) with
 | .dead => r
 | _ => false) N
theorem deadN_ok {h : HT} : ∀ {N : Nat}, deadN N h = true → ∀ b, b < N → h.get (b + 1) = .dead := by
 intro N
 induction N with
 | zero => intro _ b hb; omega
 | succ N ih =>
  intro hd b hb; have hd : (match h.get (Nat.succ N) with
   | .dead => deadN N h
   | _ => false) = true := hd
  split at hd
  ·rename_i e
   rcases Nat.lt_or_ge b N with hb | hb
   ·exact ih hd b hb
   ·rw [show b = N by omega]; exact e
  ·cases hd
noncomputable def chkB (N : Nat) (e : Bool) (v : Value) (h : HT) (_ : Nat) : β := match v with
 | .bool b => match b == e with
  | true => match deadN N h with
   | true => some ()
   | false => none
  | false => none
 | _ => none
theorem call_bool {P : Program} (hP : POk2 P) {S : PSumm} (hS : SummOK P S.summ) (hgl : GlFlat) {N n : Nat} (hN : P.globals.size = N) {f : FuncId} {args : List Value} {e : Bool} (hc : ∀ x ∈ args, Closed x)
  (h : evK P S n (.fn f) args .leaf N (chkB N e) = some ()) : ∀ (m : Mp) (H : AH) (w : World) (args' : Array Value), Rel m H w → GOk P m → VRL m args args'.toList → CallRel P f args' w (After m H w (.bool e) H) := by
 intro m H w args' hR hG ha
 subst hN
 obtain ⟨v, h', nx', h1, h2⟩ := evK_ok n _ _ _ _ _ _ h
 unfold chkB at h2
 split at h2
 ·rename_i b
  split at h2
  ·rename_i hb
   split at h2
   ·rename_i hd
    have hb : b = e := by simpa using hb
    subst hb; exact call_emp hP hS hgl h1 hc (fun b hb => deadN_ok hd b hb) (.closed _ (.flat _ rfl)) hR hG ha
   ·cases h2
  ·cases h2
 ·cases h2
theorem call_extern {P : Program} {f : FuncId} {fn : Func} (hf : P.funcs[f]? = some fn) (hb : fn.body.isSome = false) {args : List Value} {v : Value} (ha : args.all flat1 = true) (hv : flat v = true) (hr : pureRun P (callFunc f args.toArray) = some (.value v)) :
  ∀ (m : Mp) (H : AH) (w : World) (args' : Array Value), Rel m H w → GOk P m → VRL m args args'.toList → CallRel P f args' w (After m H w v H) := by
 intro m H w args' hR hG ha'
 have e2 := ha'.flat_eq ha
 have e3 : args' = args.toArray := by apply Array.ext'; simpa using e2
 subst e3
 exact ⟨fn, hf, .inr ⟨hb, v, w, pureRun_run hr w, m, vr_of_flat hv, .refl hR⟩⟩
theorem call_same {P : Program} {f : FuncId} {fn : Func} (hf : P.funcs[f]? = some fn) (hb : fn.body.isSome = false) (hr : ∀ x, pureRun P (callFunc f #[x]) = some (.value x)) {x : Value} :
  ∀ (m : Mp) (H : AH) (w : World) (args' : Array Value), Rel m H w → GOk P m → VRL m [x] args'.toList → CallRel P f args' w (After m H w x H) := by
 intro m H w args' hR hG ha'
 obtain ⟨x', r, e, hx, hr'⟩ := ha'.cases
 have hr' := hr'.nil_cases
 subst hr'
 have e3 : args' = #[x'] := by apply Array.ext'; simpa using e
 subst e3
 exact ⟨fn, hf, .inr ⟨hb, x', w, pureRun_run (hr x') w, m, hx, .refl hR⟩⟩

noncomputable def eqN (l : List UInt8) : List Nat → Bool := List.rec (fun t => List.rec true (fun _ _ _ => false) t) (fun x _ ih t => List.rec false (fun y ys _ => Bool.rec false (ih ys) (Nat.beq x.toNat y)) t) l
noncomputable def memN (l : List UInt8) (T : List (List Nat)) : Bool := List.rec false (fun t _ ih => Bool.rec ih true (eqN l t)) T
def bytesN (t : List Nat) : List UInt8 := t.map UInt8.ofNat
noncomputable def isS (x : β) : Bool := Option.rec false (fun _ => true) x
noncomputable def allS (f : List Nat → β) (T : List (List Nat)) : Bool := List.rec true (fun t _ ih => Bool.rec false ih (isS (f t))) T
noncomputable def idxL (n : Nat) (l : List UInt8) : Nat → Int := List.rec (fun _ => -1) (fun x _ ih i => Bool.rec (ih (Nat.succ i)) (Int.ofNat i) (Nat.beq x.toNat n)) l
noncomputable def smIdx (args : List Value) : Option Value := match args with
 | [.string ⟨⟨l⟩⟩, .int .u8 (.ofNat n)] => Bool.rec none (some (.int .i64 (idxL n l 0))) (Nat.blt n 256)
 | _ => none

def Gives (P : Program) (f : FuncId) (us : List Value) (v : Value) : Prop := ∀ (m : Mp) (H : AH) (w : World) (args' : Array Value), Rel m H w → GOk P m → VRL m us args'.toList → CallRel P f args' w (After m H w v H)
noncomputable def mapO (f : Value → Option Value) (l : List Value) : Option (List Value) :=
 List.rec (some []) (fun x _ ih => match f x with
  | some y => match ih with
   | some r => some (y :: r)
   | none => none
  | none => none) l
noncomputable def closedB (n : Nat) : Value → Bool :=
 Nat.rec (fun _ => false) (fun _ ih v => match v with
  | .func (.method _) x y => match y.toList with
   | [] => x.toList.all ih
   | _ => false
  | .func (.methodOf _ _) x y => match y.toList with
   | [] => x.toList.all ih
   | _ => false
  | .agg x => x.toList.all ih
  | .tuple x => x.toList.all ih
  | v => flat1 v) n
noncomputable def deepStep (g : Nat → AObj) (n : Nat) (ih : Value → Option Value) (v : Value) : Option Value := match v with
  | .slice (some ⟨b, off, none⟩) len (sz + 1) => match g b with
   | .cells c true _ _ => match Nat.ble (off + len * (sz + 1)) c.length with
    | true => match mapO ih ((c.drop off).take (len * (sz + 1))) with
     | some ds => some (LST len ⟨ds⟩)
     | none => none
    | false => none
   | _ => none
  | .pointer (some ⟨b, off, none⟩) => match g b with
   | .cells c true _ _ => match Nat.ble off c.length with
    | true => match mapO ih (c.drop off) with
     | some ds => some (DPTR ⟨ds⟩)
     | none => none
    | false => none
   | _ => none
  | .agg x => match mapO ih x.toList with
   | some ds => some (.agg ⟨ds⟩)
   | none => none
  | v => match closedB (n + 1) v with
   | true => some v
   | false => none
noncomputable def deepV (g : Nat → AObj) (n : Nat) : Value → Option Value :=
 Nat.rec (fun _ => none) (fun n ih => deepStep g n ih) n
noncomputable def deepL (g : Nat → AObj) (l : List Value) : Option (List Value) := mapO (deepV g 9) l
theorem closedB_ok : ∀ {n : Nat} {v : Value}, closedB n v = true → Closed v := by
 intro n
 induction n with
 | zero => intro v h; cases h
 | succ n ih =>
  have all : ∀ {x : Array Value}, x.toList.all (closedB n) = true → ∀ i (h : i < x.size), Closed x[i] := fun {x} hx i hi => ih (List.all_eq_true.1 hx _ (by simp))
  have nil : ∀ {y : Array Value}, y.toList = [] → ∀ i (h : i < y.size), Closed y[i] := fun {y} hy i hi => by
   have : y.size = 0 := by rw [← Array.length_toList, hy]; rfl
   omega
  intro v h; unfold closedB at h; simp only at h; split at h
  ·split at h
   ·rename_i hy; exact .func _ _ _ (fun l e => by cases e) (all h) (nil hy)
   ·cases h
  ·split at h
   ·rename_i hy; exact .func _ _ _ (fun l e => by cases e) (all h) (nil hy)
   ·cases h
  ·exact .agg _ (all h)
  ·exact .tuple _ (all h)
  ·exact .flat _ h
theorem put_flat {P : Program} {S : PSumm} (hS : SummOK P S.summ) {f : FuncId} {s : List Value → Option Value} (h : ∀ us v, s us = some v → Gives P f us v) : SummOK P (S.put f fun args _ => s args).summ :=
 PSumm.put_ok hS fun args g d hd m H w args' hg hR hG ha => h args d hd m H w args' hR hG ha

noncomputable def eqVL (a : List Value) : List Value → Bool := List.rec (fun t => List.rec true (fun _ _ _ => false) t) (fun x _ ih t => List.rec false (fun y ys _ => Bool.rec false (ih ys) (veq 9 x y)) t) a
noncomputable def memVL (l : List Value) (T : List (List Value)) : Bool := List.rec false (fun t _ ih => Bool.rec ih true (eqVL l t)) T
noncomputable def allV (f : List Value → β) (T : List (List Value)) : Bool := List.rec true (fun t _ ih => Bool.rec false ih (isS (f t))) T
theorem gives_bool {P : Program} (hP : POk2 P) {S : PSumm} (hS : SummOK P S.summ) (hgl : GlFlat) {N n : Nat} (hN : P.globals.size = N) {f : FuncId} {args : List Value} {e : Bool} (hc : (args.all (closedB 9)) = true)
  (h : evK P S n (.fn f) args .leaf N (chkB N e) = some ()) : Gives P f args (.bool e) :=
 call_bool hP hS hgl hN (fun x hx => closedB_ok (List.all_eq_true.1 hc x hx)) h
end Go.AM
