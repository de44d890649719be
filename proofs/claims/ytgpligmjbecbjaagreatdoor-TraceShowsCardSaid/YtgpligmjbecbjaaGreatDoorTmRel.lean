/- How a typed state stands to a state of the abstract machine. -/

import Derived.Test.YtgpligmjbecbjaaGreatDoorTmDef
set_option linter.unusedVariables false
set_option linter.unusedSimpArgs false
namespace Go.TM
open Go Go.AM

inductive Key where
 | o (id : Nat) | n (id j : Nat)
 deriving DecidableEq
instance : Coe Nat Key := ⟨.o⟩
def Key.top : Key → Nat
 | .o id => id
 | .n id _ => id
structure Mp where
 ρ : Key → Option Nat
 G : Nat → Option (List Value)
 μ : Nat → Option (List Value)
 ν : Nat → Nat

def Rows {α : Type} (R : α → List Value → Prop) (sz : Nat) (c : List Value) (l : List α) : Prop :=
 ∀ (i : Nat) (h : i < l.length), i * sz + sz ≤ c.length ∧ R l[i] ((c.drop (i * sz)).take sz)
def DS (G : Nat → Option (List Value)) {α : Type} (sz : Nat) (R : α → List Value → Prop) (l : List α) (v : Value) : Prop :=
 (v = .slice none 0 0 ∧ l = []) ∨
 (∃ s cs x, v = .func (.methodOf l.length s) cs x ∧ l.length * sz ≤ cs.size ∧ Rows R sz cs.toList l) ∨
 (∃ b off z c, v = .slice (some ⟨b, off, none⟩) l.length z ∧ (z = sz ∨ z = 0) ∧ G b = some c ∧ off + l.length * sz ≤ c.length ∧ Rows R sz (c.drop off) l)
def DC (G : Nat → Option (List Value)) : (t : Ty) → t.den → List Value → Prop
 | .int k, x, cs => cs = [.int k x]
 | .bool, x, cs => cs = [.bool x]
 | .str, x, cs => cs = [.string ⟨x.toArray⟩]
 | .slice t, l, cs => ∃ v, cs = [v] ∧ DS G t.size (DC G t) l v
 | .unit, _, cs => cs = []
 | .pair a b, x, cs => ∃ c1 c2, cs = c1 ++ c2 ∧ DC G a x.1 c1 ∧ DC G b x.2 c2
 | .st a, x, cs => DC G a x cs

def Gle (G G' : Nat → Option (List Value)) : Prop := ∀ b c, G b = some c → G' b = some c
theorem Gle.refl (G : Nat → Option (List Value)) : Gle G G := fun _ _ h => h
theorem Gle.trans {a b c : Nat → Option (List Value)} (h : Gle a b) (k : Gle b c) : Gle a c := fun x y g => k _ _ (h _ _ g)

theorem Rows.mono {α : Type} {R R' : α → List Value → Prop} {sz : Nat} {c : List Value} {l : List α} (h : Rows R sz c l) (hR : ∀ x cs, R x cs → R' x cs) : Rows R' sz c l :=
 fun i hi => ⟨(h i hi).1, hR _ _ (h i hi).2⟩
theorem DS.mono {G G' : Nat → Option (List Value)} {α : Type} {sz : Nat} {R R' : α → List Value → Prop} {l : List α} {v : Value} (h : DS G sz R l v) (hG : Gle G G') (hR : ∀ x cs, R x cs → R' x cs) : DS G' sz R' l v := by
 rcases h with h | ⟨s, cs, x, h1, h2, h3⟩ | ⟨b, off, z, c, h1, h2, h3, h4, h5⟩
 ·exact .inl h
 ·exact .inr (.inl ⟨s, cs, x, h1, h2, h3.mono hR⟩)
 ·exact .inr (.inr ⟨b, off, z, c, h1, h2, hG _ _ h3, h4, h5.mono hR⟩)
theorem DC.mono {G G' : Nat → Option (List Value)} (hG : Gle G G') : ∀ (t : Ty) (x : t.den) (cs : List Value), DC G t x cs → DC G' t x cs := by
 intro t
 induction t with
 | int k => intro x cs h; exact h
 | bool => intro x cs h; exact h
 | str => intro x cs h; exact h
 | slice t ih => intro x cs h; obtain ⟨v, h1, h2⟩ := h; exact ⟨v, h1, h2.mono hG ih⟩
 | unit => intro x cs h; exact h
 | pair a b iha ihb => intro x cs h; obtain ⟨c1, c2, h1, h2, h3⟩ := h; exact ⟨c1, c2, h1, iha _ _ h2, ihb _ _ h3⟩
 | st a ih => intro x cs h; exact ih _ _ h
theorem DC.length {G : Nat → Option (List Value)} : ∀ (t : Ty) (x : t.den) (cs : List Value), DC G t x cs → cs.length = t.size := by
 intro t
 induction t with
 | int k => intro x cs h; rw [show cs = _ from h]; rfl
 | bool => intro x cs h; rw [show cs = _ from h]; rfl
 | str => intro x cs h; rw [show cs = _ from h]; rfl
 | slice t ih => intro x cs h; obtain ⟨v, h1, h2⟩ := h; rw [h1]; rfl
 | unit => intro x cs h; rw [show cs = _ from h]; rfl
 | pair a b iha ihb => intro x cs h; obtain ⟨c1, c2, h1, h2, h3⟩ := h; rw [h1, List.length_append, iha _ _ h2, ihb _ _ h3]; rfl
 | st a ih => intro x cs h; exact ih _ _ h
theorem cellsT_length : ∀ (t : Ty) (x : t.den), (cellsT t x).length = t.size := by
 intro t
 induction t with
 | pair a b iha ihb => intro x; simp only [cellsT, List.length_append, iha, ihb]; rfl
 | st a ih => intro x; exact ih x
 | _ => intro x; rfl

def matI : TObj → Option (Ty × Nat × List Nat × Nat)
 | .mat _ t _ tid nt ver _ => some (t, tid, nt, ver)
 | .hid t tid nt ver => some (t, tid, nt, ver)
 | _ => none
def softO : TObj → Prop
 | .row _ _ _ _ | .fro _ _ | .dead => True
 | _ => False
def cutR (ct : Option Nat) (u v : Value) : Prop := match ct with
 | none => v = u ∧ ∃ p k z, u = .slice p k z
 | some n => ∃ p k z, u = .slice p k z ∧ n ≤ k ∧ v = .slice p n z
def NestR (m : Mp) (os : List TObj) (id i pos ver : Nat) (ct : Option Nat) (v : Value) : Prop := ∃ o, os[id]? = some o ∧ match matI o with
 | some (t, _, _, ver') => ver ≤ ver' ∧ (ver' = ver → i < m.ν id ∧ pos < t.size ∧ ∃ c u, m.μ id = some c ∧ c[i * t.size + pos]? = some u ∧ cutR ct u v)
 | none => softO o
def Elt2R (m : Mp) (os : List TObj) (id i pos j off ver : Nat) (v : Value) : Prop := ∃ o, os[id]? = some o ∧ match matI o with
 | some (t, _, _, ver') => ver ≤ ver' ∧ (ver' = ver → i < m.ν id ∧ pos < t.size ∧ ∃ c b n z, m.μ id = some c ∧ c[i * t.size + pos]? = some (.slice (some ⟨b, 0, none⟩) n z) ∧ j < n ∧ v = .pointer (some ⟨b, j * z + off, none⟩))
 | none => softO o
def OwnR (m : Mp) (os : List TObj) (id : Nat) (v : Value) : Prop :=
 match os[id]? with
 | some (.row _ t l _) => (m.ρ id = none ∧ l = [] ∧ v = .slice none 0 0) ∨ ∃ b, m.ρ id = some b ∧ v = .slice (some ⟨b, 0, none⟩) l.length t.size
 | some (.fro t l) => DS m.G t.size (DC m.G t) l v
 | some .dead => True
 | some (.mat _ t _ _ _ _ _) | some (.hid t _ _ _) => (m.ρ id = none ∧ m.ν id = 0 ∧ v = .slice none 0 0) ∨ ∃ b, m.ρ id = some b ∧ v = .slice (some ⟨b, 0, none⟩) (m.ν id) t.size
 | _ => False
def SubR (m : Mp) (os : List TObj) (id lo n : Nat) (v : Value) : Prop :=
 match os[id]? with
 | some (.row _ t l _) => (m.ρ id = none ∧ lo = 0 ∧ n = 0 ∧ l = [] ∧ v = .slice none 0 0) ∨ ∃ b, m.ρ id = some b ∧ lo + n ≤ l.length ∧ v = .slice (some ⟨b, lo * t.size, none⟩) n t.size
 | some (.fro t l) => DS m.G t.size (DC m.G t) ((l.drop lo).take n) v
 | some .dead => True
 | _ => False
def EltR (m : Mp) (os : List TObj) (id i off : Nat) (v : Value) : Prop :=
 match os[id]? with
 | some (.row _ t l _) => ∃ b, m.ρ id = some b ∧ i < l.length ∧ v = .pointer (some ⟨b, i * t.size + off, none⟩)
 | some (.mat _ t _ _ _ _ _) | some (.hid t _ _ _) => ∃ b, m.ρ id = some b ∧ i < m.ν id ∧ v = .pointer (some ⟨b, i * t.size + off, none⟩)
 | some (.fro _ _) => True
 | some .dead => True
 | _ => False
def isFix (os : List TObj) (id : Nat) : Prop :=
 match os[id]? with
 | some (.box _ _ _) | some (.iter _ _ _) | some .lost => True
 | _ => False
def YldR (m : Mp) (os : List TObj) (id : Nat) (v : Value) : Prop :=
 match os[id]? with
 | some (.frame _ _ _ _ _ _ _) => ∃ b, m.ρ id = some b ∧ v = .func (.yield b) #[] #[]
 | some .dead => True
 | _ => False

def BufR (m : Mp) (os : List TObj) (id : Nat) (v : Value) : Prop :=
 match os[id]? with
 | some (.row _ t l _) => (m.ρ id = none ∧ l = [] ∧ v = .slice none 0 0) ∨ ∃ b, m.ρ id = some b ∧ l ≠ [] ∧ v = .slice (some ⟨b, 0, none⟩) l.length t.size
 | some (.fro _ _) => True
 | some .dead => True
 | _ => False
def SdR (m : Mp) (os : List TObj) (id : Nat) (v : Value) : Prop :=
 match os[id]? with
 | some (.row _ t l _) => (m.ρ id = none ∧ l = [] ∧ v = .pointer none) ∨ ∃ b, m.ρ id = some b ∧ l ≠ [] ∧ v = .pointer (some ⟨b, 0, none⟩)
 | some (.fro _ _) => True
 | some .dead => True
 | _ => False

inductive RV (m : Mp) (os : List TObj) : TV → Value → Prop
 | int (k : IntKind) (n : Int) : RV m os (.int k n) (.int k n)
 | bool (b : SB) : RV m os (.bool b) (.bool b.get)
 | str (s : List UInt8) : RV m os (.str s) (.string ⟨s.toArray⟩)
 | nilS : RV m os .nilS (.slice none 0 0)
 | nilP : RV m os .nilP (.pointer none)
 | nilF : RV m os .nilF .nilFunc
 | buf (id : Nat) (v : Value) (h : BufR m os id v) : RV m os (.buf id) v
 | sdat (id : Nat) (v : Value) (h : SdR m os id v) : RV m os (.sdat id) v
 | nilOr (id : Nat) (q : Bool) (v : Value) (h : (q = true ∧ v = .pointer none) ∨ (q = false ∧ ∃ b, m.ρ id = some b ∧ v = .pointer (some ⟨b, 0, none⟩))) (hf : isFix os id) : RV m os (.nilOr id q) v
 | deep (t : Ty) (l : List t.den) (v : Value) (h : DS m.G t.size (DC m.G t) l v) : RV m os (.deep t l) v
 | own (id : Nat) (v : Value) (h : OwnR m os id v) : RV m os (.own id) v
 | sub (id lo n : Nat) (v : Value) (h : SubR m os id lo n v) : RV m os (.sub id lo n) v
 | ptr (id off b : Nat) (h : m.ρ id = some b) (hf : isFix os id) : RV m os (.ptr id off) (.pointer (some ⟨b, off, none⟩))
 | elt (id i off : Nat) (v : Value) (h : EltR m os id i off v) : RV m os (.elt id i off) v
 | nest (id i pos ver : Nat) (ct : Option Nat) (v : Value) (h : NestR m os id i pos ver ct v) : RV m os (.nest id i pos ver ct) v
 | elt2 (id i pos j off ver : Nat) (v : Value) (h : Elt2R m os id i pos j off ver v) : RV m os (.elt2 id i pos j off ver) v
 | dptrM (cs : List TV) (s : String) (arr x : Array Value) (hl : cs.length ≤ arr.size) (h : ∀ (i : Nat) (h : i < cs.length) (h' : i < arr.size), RV m os cs[i] arr[i]) : RV m os (.dptr cs) (.func (.method s) arr x)
 | dptrP (cs : List TV) (b off : Nat) (c : List Value) (hG : m.G b = some c) (hl : off + cs.length ≤ c.length) (h : ∀ (i : Nat) (h : i < cs.length) (h' : off + i < c.length), RV m os cs[i] c[off + i]) :
   RV m os (.dptr cs) (.pointer (some ⟨b, off, none⟩))
 | agg (cs : List TV) (arr : Array Value) (hl : cs.length = arr.size) (h : ∀ (i : Nat) (h : i < cs.length) (h' : i < arr.size), RV m os cs[i] arr[i]) : RV m os (.agg cs) (.agg arr)
 | tup (cs : List TV) (arr : Array Value) (hl : cs.length = arr.size) (h : ∀ (i : Nat) (h : i < cs.length) (h' : i < arr.size), RV m os cs[i] arr[i]) : RV m os (.tup cs) (.tuple arr)
 | func (f : Nat) (x y : List TV) (x' y' : Array Value) (hx : x.length = x'.size) (hy : y.length = y'.size) (h1 : ∀ (i : Nat) (h : i < x.length) (h' : i < x'.size), RV m os x[i] x'[i])
   (h2 : ∀ (i : Nat) (h : i < y.length) (h' : i < y'.size), RV m os y[i] y'[i]) : RV m os (.func f x y) (.func (.func f) x' y')
 | yld (id : Nat) (v : Value) (h : YldR m os id v) : RV m os (.yld id) v
 | junk (v : Value) : RV m os .junk v

def RL (m : Mp) (os : List TObj) (cs : List TV) (vs : List Value) : Prop := cs.length = vs.length ∧ ∀ (i : Nat) (h : i < cs.length) (h' : i < vs.length), RV m os cs[i] vs[i]

def NS (m : Mp) (H : AH) (id j ty : Nat) (t : Ty) (l : List t.den) (v : Value) : Prop :=
 (v = .slice none 0 0 ∧ l = []) ∨ ∃ b c, m.ρ (.n id j) = some b ∧ v = .slice (some ⟨b, 0, none⟩) l.length t.size ∧ H.get b = .cells c true t.size ty ∧ l.length * t.size ≤ c.length ∧ Rows (DC m.G t) t.size c l
def NC (m : Mp) (H : AH) (id j0 : Nat) (nt : List Nat) (free : Bool) : (t : Ty) → Nat → t.den → List Value → Prop
 | .int k, _, x, cs => cs = [.int k x]
 | .bool, _, x, cs => cs = [.bool x]
 | .str, _, x, cs => cs = [.string ⟨x.toArray⟩]
 | .slice t, pos, l, cs => ∃ v, cs = [v] ∧ (free = true ∨ NS m H id (j0 + pos) (nt.getD pos 0) t l v)
 | .unit, _, _, cs => cs = []
 | .pair a b, pos, x, cs => ∃ c1 c2, cs = c1 ++ c2 ∧ NC m H id j0 nt free a pos x.1 c1 ∧ NC m H id j0 nt free b (pos + a.size) x.2 c2
 | .st a, pos, x, cs => NC m H id j0 nt free a pos x cs
def MR (m : Mp) (H : AH) (id : Nat) (t : Ty) (l : List t.den) (tid : Nat) (nt : List Nat) (hole : Option Nat) : Prop :=
 l.length = m.ν id ∧ ((m.ρ id = none ∧ l = []) ∨ ∃ b c, m.ρ id = some b ∧ m.μ id = some c ∧ H.get b = .cells c true t.size tid ∧ l.length * t.size ≤ c.length ∧
  ∀ (i : Nat) (h : i < l.length), NC m H id (i * t.size) nt (hole == some i) t 0 l[i] ((c.drop (i * t.size)).take t.size))
def ObjR (m : Mp) (os : List TObj) (H : AH) (id : Nat) : TObj → Prop
 | .dead => True
 | .row _ t l tid => (m.ρ id = none ∧ l = []) ∨ ∃ b c, m.ρ id = some b ∧ H.get b = .cells c true t.size tid ∧ l.length * t.size ≤ c.length ∧ Rows (DC m.G t) t.size c l
 | .fro t l => m.ρ id = none
 | .mat _ t l tid nt _ hole => MR m H id t l tid nt hole
 | .hid _ _ _ _ => True
 | .box w cs tid => ∃ b c, m.ρ id = some b ∧ H.get b = .cells c true 0 tid ∧ w.length = cs.length ∧ RL m os cs c
 | .frame tmps ps asg body st pend _ => ∃ b tmps', m.ρ id = some b ∧ H.get b = .loop tmps' ps asg body st pend ∧ RL m os tmps tmps'
 | .iter _ s pos => ∃ b, m.ρ id = some b ∧ H.get b = .iter ⟨s.toArray⟩ pos
 | .lost => True

structure HR (m : Mp) (os : List TObj) (H : AH) : Prop where
 inj : ∀ (i j : Key) b, m.ρ i = some b → m.ρ j = some b → i = j
 lt : ∀ (i : Key) b, m.ρ i = some b → b < H.next ∧ i.top < os.length
 disj : ∀ (i : Key) b, m.ρ i = some b → m.G b = none
 gr : ∀ b c, m.G b = some c → b < H.next ∧ ∃ own sz ty, H.get b = .cells c own sz ty
 obj : ∀ i o, os[i]? = some o → ObjR m os H i o

def KeepO : TObj → TObj → Prop
 | .dead, o' => o' = .dead
 | .row w t l tid, o' => (w = false ∧ o' = .row w t l tid) ∨ (w = true ∧ ((∃ l', o' = .row w t l' tid ∧ l'.length = l.length) ∨ o' = .dead ∨ ∃ l', o' = .fro t l' ∧ l'.length = l.length))
 | .fro t l, o' => o' = .fro t l
 | .mat w t l tid nt ver hole, o' => (w = false ∧ o' = .mat w t l tid nt ver hole) ∨ (w = true ∧ ((∃ l' ver' hole', o' = .mat w t l' tid nt ver' hole' ∧ l'.length = l.length ∧ ver ≤ ver') ∨ (∃ l', o' = .row w t l' tid ∧ l'.length = l.length) ∨ o' = .dead ∨ ∃ l', o' = .fro t l' ∧ l'.length = l.length))
 | .hid t tid nt ver, o' => o' = .hid t tid nt ver
 | .box w cs tid, o' => ∃ cs', o' = .box w cs' tid ∧ cs'.length = cs.length ∧ ∀ j : Nat, w[j]? = some false → cs'[j]? = cs[j]?
 | .frame tmps ps asg body st pend ctx, o' => ∃ st' pend', o' = .frame tmps ps asg body st' pend' ctx
 | .iter w s pos, o' => ∃ pos', o' = .iter w s pos' ∧ (w = false → pos' = pos)
 | .lost, o' => o' = .lost
def Keep (os os' : List TObj) : Prop := ∀ (i : Nat) o, os[i]? = some o → ∃ o', os'[i]? = some o' ∧ KeepO o o'
theorem KeepO.refl (o : TObj) : KeepO o o := by
 cases o with
 | dead => rfl
 | row w t l tid => cases w with | false => exact .inl ⟨rfl, rfl⟩ | true => exact .inr ⟨rfl, .inl ⟨l, rfl, rfl⟩⟩
 | fro t l => rfl
 | mat w t l tid nt ver hole => cases w with | false => exact .inl ⟨rfl, rfl⟩ | true => exact .inr ⟨rfl, .inl ⟨l, ver, hole, rfl, rfl, Nat.le_refl _⟩⟩
 | hid t tid nt ver => rfl
 | box w cs tid => exact ⟨cs, rfl, rfl, fun _ _ => rfl⟩
 | frame tmps ps asg body st pend ctx => exact ⟨st, pend, rfl⟩
 | iter w s pos => exact ⟨pos, rfl, fun _ => rfl⟩
 | lost => rfl
theorem KeepO.trans {a b c : TObj} (h : KeepO a b) (k : KeepO b c) : KeepO a c := by
 cases a with
 | dead => cases (show b = _ from h); exact k
 | row w t l tid =>
  rcases h with ⟨hw, rfl⟩ | ⟨hw, ⟨l', rfl, hl⟩ | rfl | ⟨l', rfl, hl⟩⟩
  ·exact k
  ·rcases k with ⟨hw', rfl⟩ | ⟨hw', ⟨l2, rfl, hl2⟩ | rfl | ⟨l2, rfl, hl2⟩⟩
   ·exact .inr ⟨hw, .inl ⟨l', rfl, hl⟩⟩
   ·exact .inr ⟨hw, .inl ⟨l2, rfl, hl2.trans hl⟩⟩
   ·exact .inr ⟨hw, .inr (.inl rfl)⟩
   ·exact .inr ⟨hw, .inr (.inr ⟨l2, rfl, hl2.trans hl⟩)⟩
  ·exact .inr ⟨hw, .inr (.inl k)⟩
  ·exact .inr ⟨hw, .inr (.inr ⟨l', k, hl⟩)⟩
 | fro t l => cases (show b = _ from h); exact k
 | hid t tid nt ver => cases (show b = _ from h); exact k
 | mat w t l tid nt ver hole =>
  rcases h with ⟨hw, rfl⟩ | ⟨rfl, ⟨l', v', h', rfl, hl, hv⟩ | ⟨l', rfl, hl⟩ | rfl | ⟨l', rfl, hl⟩⟩
  ·exact k
  ·rcases k with ⟨hw', rfl⟩ | ⟨hw', ⟨l2, v2, h2, rfl, hl2, hv2⟩ | ⟨l2, rfl, hl2⟩ | rfl | ⟨l2, rfl, hl2⟩⟩
   ·cases hw'
   ·exact .inr ⟨rfl, .inl ⟨l2, v2, h2, rfl, hl2.trans hl, Nat.le_trans hv hv2⟩⟩
   ·exact .inr ⟨rfl, .inr (.inl ⟨l2, rfl, hl2.trans hl⟩)⟩
   ·exact .inr ⟨rfl, .inr (.inr (.inl rfl))⟩
   ·exact .inr ⟨rfl, .inr (.inr (.inr ⟨l2, rfl, hl2.trans hl⟩))⟩
  ·rcases k with ⟨hw', rfl⟩ | ⟨hw', ⟨l2, rfl, hl2⟩ | rfl | ⟨l2, rfl, hl2⟩⟩
   ·cases hw'
   ·exact .inr ⟨rfl, .inr (.inl ⟨l2, rfl, hl2.trans hl⟩)⟩
   ·exact .inr ⟨rfl, .inr (.inr (.inl rfl))⟩
   ·exact .inr ⟨rfl, .inr (.inr (.inr ⟨l2, rfl, hl2.trans hl⟩))⟩
  ·exact .inr ⟨rfl, .inr (.inr (.inl k))⟩
  ·exact .inr ⟨rfl, .inr (.inr (.inr ⟨l', k, hl⟩))⟩
 | box w cs tid =>
  obtain ⟨cs', rfl, h1, h2⟩ := h; obtain ⟨cs2, rfl, k1, k2⟩ := k; exact ⟨cs2, rfl, k1.trans h1, fun j hj => (k2 j hj).trans (h2 j hj)⟩
 | frame tmps ps asg body st pend ctx =>
  obtain ⟨st', pend', rfl⟩ := h; exact k
 | iter w s pos =>
  obtain ⟨p', rfl, h1⟩ := h; obtain ⟨p2, rfl, k1⟩ := k; exact ⟨p2, rfl, fun hw => (k1 hw).trans (h1 hw)⟩
 | lost => cases (show b = _ from h); exact k
theorem Keep.refl (os : List TObj) : Keep os os := fun i o h => ⟨o, h, .refl o⟩
theorem Keep.trans {a b c : List TObj} (h : Keep a b) (k : Keep b c) : Keep a c := fun i o ho => by
 obtain ⟨o1, h1, h2⟩ := h i o ho
 obtain ⟨o2, k1, k2⟩ := k i o1 h1
 exact ⟨o2, k1, h2.trans k2⟩
theorem Keep.len {a b : List TObj} (h : Keep a b) : a.length ≤ b.length := by
 by_cases hn : a.length = 0
 ·omega
 ·obtain ⟨o, h1, -⟩ := h (a.length - 1) a[a.length - 1] (List.getElem?_eq_getElem (by omega))
  have := (List.getElem?_eq_some_iff.1 h1).1; omega

def isFixO : TObj → Prop
 | .box _ _ _ | .iter _ _ _ | .lost => True
 | _ => False
def KW : TObj → TObj → Prop
 | .dead, o' => o' = .dead
 | .row _ t l tid, o' => (∃ w' l', o' = .row w' t l' tid ∧ l'.length = l.length) ∨ o' = .dead ∨ ∃ l', o' = .fro t l' ∧ l'.length = l.length
 | .fro t l, o' => o' = .fro t l ∨ o' = .dead
 | .mat _ t _ tid nt ver _, o' | .hid t tid nt ver, o' => (∃ ver', matI o' = some (t, tid, nt, ver') ∧ ver ≤ ver') ∨ (∃ w l', o' = .row w t l' tid) ∨ o' = .dead ∨ ∃ l', o' = .fro t l'
 | .frame _ _ _ _ _ _ _, o' => (∃ tmps ps asg body st pend ctx, o' = .frame tmps ps asg body st pend ctx) ∨ o' = .dead
 | _, o' => isFixO o'
theorem KeepO.kw {o o' : TObj} (h : KeepO o o') : KW o o' := by
 cases o with
 | dead => exact h
 | row w t l tid =>
  rcases h with ⟨hw, rfl⟩ | ⟨hw, ⟨l', rfl, hl⟩ | rfl | ⟨l', rfl, hl⟩⟩
  ·exact .inl ⟨w, l, rfl, rfl⟩
  ·exact .inl ⟨w, l', rfl, hl⟩
  ·exact .inr (.inl rfl)
  ·exact .inr (.inr ⟨l', rfl, hl⟩)
 | fro t l => exact .inl h
 | hid t tid nt ver => cases (show o' = _ from h); exact .inl ⟨ver, rfl, Nat.le_refl _⟩
 | mat w t l tid nt ver hole =>
  rcases h with ⟨hw, rfl⟩ | ⟨rfl, ⟨l', v', h', rfl, hl, hv⟩ | ⟨l', rfl, hl⟩ | rfl | ⟨l', rfl, hl⟩⟩
  ·exact .inl ⟨ver, rfl, Nat.le_refl _⟩
  ·exact .inl ⟨v', rfl, hv⟩
  ·exact .inr (.inl ⟨_, l', rfl⟩)
  ·exact .inr (.inr (.inl rfl))
  ·exact .inr (.inr (.inr ⟨l', rfl⟩))
 | lost => cases (show o' = _ from h); trivial
 | box w cs tid => obtain ⟨cs', rfl, _⟩ := h; trivial
 | frame tmps ps asg body st pend ctx => exact .inl (let ⟨a, b, e⟩ := h; ⟨_, _, _, _, _, _, _, e⟩)
 | iter w s pos => obtain ⟨a, rfl, _⟩ := h; trivial
theorem isFixO.kw {o o' : TObj} (h : isFixO o) (k : KW o o') : isFixO o' := by
 cases o with
 | box w cs tid => exact k
 | iter w s pos => exact k
 | lost => exact k
 | _ => exact h.elim
theorem matKW {o o' : TObj} {t : Ty} {tid : Nat} {nt : List Nat} {ver : Nat} (hi : matI o = some (t, tid, nt, ver)) : KW o o' ↔ ((∃ ver', matI o' = some (t, tid, nt, ver') ∧ ver ≤ ver') ∨ (∃ w l', o' = .row w t l' tid) ∨ o' = .dead ∨ ∃ l', o' = .fro t l') := by
 cases o <;> simp only [matI, reduceCtorEq, Option.some.injEq, Prod.mk.injEq] at hi
 all_goals
  obtain ⟨rfl, rfl, rfl, rfl⟩ := hi; rfl
theorem mat_trans {a b c : TObj} {t : Ty} {tid : Nat} {nt : List Nat} {ver : Nat} (hi : matI a = some (t, tid, nt, ver)) (h : KW a b) (kr : ∀ w l, b = .row w t l tid → KW b c) (kd : b = .dead → c = .dead) (kf : ∀ l, b = .fro t l → KW b c) (k : KW b c) : KW a c := by
 rw [matKW hi] at h ⊢
 rcases h with ⟨v', h1, h2⟩ | ⟨w, l, rfl⟩ | rfl | ⟨l, rfl⟩
 ·rw [matKW h1] at k
  rcases k with ⟨v2, k1, k2⟩ | k
  ·exact .inl ⟨v2, k1, Nat.le_trans h2 k2⟩
  ·exact .inr k
 ·rcases k with ⟨w', l', rfl, _⟩ | rfl | ⟨l', rfl, _⟩
  ·exact .inr (.inl ⟨_, _, rfl⟩)
  ·exact .inr (.inr (.inl rfl))
  ·exact .inr (.inr (.inr ⟨_, rfl⟩))
 ·exact .inr (.inr (.inl k))
 ·rcases k with rfl | rfl
  ·exact .inr (.inr (.inr ⟨_, rfl⟩))
  ·exact .inr (.inr (.inl rfl))
theorem KW.trans {a b c : TObj} (h : KW a b) (k : KW b c) : KW a c := by
 cases a with
 | dead => cases (show b = _ from h); exact k
 | row w t l tid =>
  rcases h with ⟨w', l', rfl, hl⟩ | rfl | ⟨l', rfl, hl⟩
  ·rcases k with ⟨w2, l2, rfl, hl2⟩ | rfl | ⟨l2, rfl, hl2⟩
   ·exact .inl ⟨w2, l2, rfl, hl2.trans hl⟩
   ·exact .inr (.inl rfl)
   ·exact .inr (.inr ⟨l2, rfl, hl2.trans hl⟩)
  ·exact .inr (.inl k)
  ·rcases k with k | k
   ·exact .inr (.inr ⟨l', k, hl⟩)
   ·exact .inr (.inl k)
 | fro t l =>
  rcases h with rfl | rfl
  ·exact k
  ·exact .inr k
 | mat w t l tid nt ver hole => exact mat_trans rfl h (fun _ _ e => k) (fun e => by subst e; exact k) (fun _ _ => k) k
 | hid t tid nt ver => exact mat_trans rfl h (fun _ _ e => k) (fun e => by subst e; exact k) (fun _ _ => k) k
 | lost => exact isFixO.kw (o := b) h k
 | box w cs tid => exact isFixO.kw (o := b) h k
 | frame tmps ps asg body st pend ctx =>
  rcases h with ⟨_, _, _, _, _, _, _, rfl⟩ | rfl
  ·exact k
  ·exact .inr k
 | iter w s pos => exact isFixO.kw (o := b) h k
def KeepW (os os' : List TObj) : Prop := ∀ (i : Nat) o, os[i]? = some o → ∃ o', os'[i]? = some o' ∧ KW o o'
theorem Keep.kw {os os' : List TObj} (h : Keep os os') : KeepW os os' := fun i o ho => by
 obtain ⟨o', h1, h2⟩ := h i o ho
 exact ⟨o', h1, h2.kw⟩
theorem KeepW.trans {a b c : List TObj} (h : KeepW a b) (k : KeepW b c) : KeepW a c := fun i o ho => by
 obtain ⟨o1, h1, h2⟩ := h i o ho
 obtain ⟨o2, k1, k2⟩ := k i o1 h1
 exact ⟨o2, k1, h2.trans k2⟩

structure MapLe (m : Mp) (os : List TObj) (m' : Mp) (os' : List TObj) : Prop where
 gle : Gle m.G m'.G
 keep : KeepW os os'
 fix : ∀ (i : Nat) b, m.ρ i = some b → isFix os i → m'.ρ i = some b
 frm : ∀ (i : Nat) a b c d e f g a' b' c' d' e' f' g', os[i]? = some (.frame a b c d e f g) → os'[i]? = some (.frame a' b' c' d' e' f' g') → m'.ρ i = m.ρ i
 row : ∀ (i : Nat) w t l tid w' t' l' tid', os[i]? = some (.row w t l tid) → os'[i]? = some (.row w' t' l' tid') → m'.ρ i = m.ρ i
 fro : ∀ (i : Nat) w t l tid t' l', os[i]? = some (.row w t l tid) → os'[i]? = some (.fro t' l') → (m.ρ i = none ∧ l' = []) ∨ ∃ b c, m.ρ i = some b ∧ m'.G b = some c ∧ l'.length * t'.size ≤ c.length ∧ Rows (DC m'.G t') t'.size c l'
 mat : ∀ (i : Nat) o t tid nt ver o' t' tid' nt' ver', os[i]? = some o → matI o = some (t, tid, nt, ver) → os'[i]? = some o' → matI o' = some (t', tid', nt', ver') → m'.ρ i = m.ρ i ∧ m'.ν i = m.ν i ∧ (ver' = ver → m'.μ i = m.μ i)
 matR : ∀ (i : Nat) o t tid nt ver w' t' l' tid', os[i]? = some o → matI o = some (t, tid, nt, ver) → os'[i]? = some (.row w' t' l' tid') → m'.ρ i = m.ρ i ∧ l'.length = m.ν i
 matF : ∀ (i : Nat) o t tid nt ver t' l', os[i]? = some o → matI o = some (t, tid, nt, ver) → os'[i]? = some (.fro t' l') → l'.length = m.ν i ∧ ((m.ρ i = none ∧ l' = []) ∨ ∃ b c, m.ρ i = some b ∧ m'.G b = some c ∧ l'.length * t'.size ≤ c.length ∧ Rows (DC m'.G t') t'.size c l')

theorem isFix.keep {os os' : List TObj} (hk : KeepW os os') {id : Nat} (h : isFix os id) : isFix os' id := by
 unfold isFix at *
 cases ho : os[id]? with
 | none => rw [ho] at h; exact h.elim
 | some o =>
  obtain ⟨o', h1, h2⟩ := hk id o ho; rw [h1]; rw [ho] at h; have h' : isFixO o := by cases o <;> first | trivial | exact h
  have := h'.kw h2; cases o' <;> first | trivial | exact this
theorem drop_mul_rows {α : Type} {R : α → List Value → Prop} {sz : Nat} {c : List Value} {l : List α} (h : Rows R sz c l) (lo n : Nat) (hn : lo + n ≤ l.length) : Rows R sz (c.drop (lo * sz)) ((l.drop lo).take n) := by
 intro i hi
 have hi' : lo + i < l.length := by simp at hi; omega
 obtain ⟨h1, h2⟩ := h (lo + i) hi'
 rw [Nat.add_mul] at h1
 refine ⟨by simp; omega, ?_⟩
 have e : ((l.drop lo).take n)[i] = l[lo + i] := by simp
 rw [e, List.drop_drop]
 rw [Nat.add_mul] at h2
 exact h2

theorem OwnR_mat {m : Mp} {os : List TObj} {id : Nat} {v : Value} {o : TObj} {t : Ty} {tid : Nat} {nt : List Nat} {ver : Nat} (ho : os[id]? = some o) (hi : matI o = some (t, tid, nt, ver)) :
  OwnR m os id v ↔ ((m.ρ id = none ∧ m.ν id = 0 ∧ v = .slice none 0 0) ∨ ∃ b, m.ρ id = some b ∧ v = .slice (some ⟨b, 0, none⟩) (m.ν id) t.size) := by
 unfold OwnR
 rw [ho]
 cases o <;> simp only [matI, reduceCtorEq, Option.some.injEq, Prod.mk.injEq] at hi
 all_goals
  obtain ⟨rfl, rfl, rfl, rfl⟩ := hi; rfl
theorem EltR_mat {m : Mp} {os : List TObj} {id i off : Nat} {v : Value} {o : TObj} {t : Ty} {tid : Nat} {nt : List Nat} {ver : Nat} (ho : os[id]? = some o) (hi : matI o = some (t, tid, nt, ver)) :
  EltR m os id i off v ↔ ∃ b, m.ρ id = some b ∧ i < m.ν id ∧ v = .pointer (some ⟨b, i * t.size + off, none⟩) := by
 unfold EltR
 rw [ho]
 cases o <;> simp only [matI, reduceCtorEq, Option.some.injEq, Prod.mk.injEq] at hi
 all_goals
  obtain ⟨rfl, rfl, rfl, rfl⟩ := hi; rfl
theorem OwnR.mat_mono {m m' : Mp} {os os' : List TObj} (hm : MapLe m os m' os') {id : Nat} {v : Value} {o : TObj} {t : Ty} {tid : Nat} {nt : List Nat} {ver : Nat} (ho : os[id]? = some o) (hi : matI o = some (t, tid, nt, ver))
  (h : OwnR m os id v) : OwnR m' os' id v := by
 rw [OwnR_mat ho hi] at h
 obtain ⟨o', h1, h2⟩ := hm.keep id o ho
 rw [matKW hi] at h2
 rcases h2 with ⟨v', e, _⟩ | ⟨w, l', rfl⟩ | rfl | ⟨l', rfl⟩
 ·rw [OwnR_mat h1 e]
  obtain ⟨g1, g2, -⟩ := hm.mat id _ _ _ _ _ _ _ _ _ _ ho hi h1 e; rw [g1, g2]; exact h
 ·obtain ⟨g1, g2⟩ := hm.matR id _ _ _ _ _ _ _ _ _ ho hi h1
  unfold OwnR; rw [h1]; simp only; rw [g1, g2]; exact h.imp (fun ⟨a, b, c⟩ => ⟨a, List.eq_nil_of_length_eq_zero (g2.trans b), c⟩) _root_.id
 ·unfold OwnR; rw [h1]; trivial
 ·obtain ⟨g0, g⟩ := hm.matF id _ _ _ _ _ _ _ ho hi h1
  unfold OwnR; rw [h1]; simp only; rcases g with ⟨e1, e2⟩ | ⟨b, c, e1, e2, e3, e4⟩
  ·rcases h with ⟨_, _, h3⟩ | ⟨b, h3, h4⟩
   ·exact .inl ⟨h3, e2⟩
   ·rw [e1] at h3; cases h3
  ·rcases h with ⟨h3, _, _⟩ | ⟨b', h3, h4⟩
   ·rw [e1] at h3; cases h3
   ·rw [e1] at h3; cases h3
    exact .inr (.inr ⟨b, 0, t.size, c, by rw [h4, g0], .inl rfl, e2, by omega, by simpa using e4⟩)
theorem EltR.mat_mono {m m' : Mp} {os os' : List TObj} (hm : MapLe m os m' os') {id i off : Nat} {v : Value} {o : TObj} {t : Ty} {tid : Nat} {nt : List Nat} {ver : Nat} (ho : os[id]? = some o) (hi : matI o = some (t, tid, nt, ver))
  (h : EltR m os id i off v) : EltR m' os' id i off v := by
 rw [EltR_mat ho hi] at h
 obtain ⟨b, a1, a2, a3⟩ := h
 obtain ⟨o', h1, h2⟩ := hm.keep id o ho
 rw [matKW hi] at h2
 rcases h2 with ⟨v', e, _⟩ | ⟨w, l', rfl⟩ | rfl | ⟨l', rfl⟩
 ·rw [EltR_mat h1 e]
  obtain ⟨g1, g2, -⟩ := hm.mat id _ _ _ _ _ _ _ _ _ _ ho hi h1 e; rw [g1, g2]; exact ⟨b, a1, a2, a3⟩
 ·obtain ⟨g1, g2⟩ := hm.matR id _ _ _ _ _ _ _ _ _ ho hi h1
  unfold EltR; rw [h1]; exact ⟨b, g1.trans a1, by omega, a3⟩
 ·unfold EltR; rw [h1]; trivial
 ·unfold EltR; rw [h1]; trivial
theorem softO.kw {o o' : TObj} (h : softO o) (k : KW o o') : softO o' := by
 cases o with
 | row w t l tid => rcases k with ⟨_, _, rfl, _⟩ | rfl | ⟨_, rfl, _⟩ <;> trivial
 | fro t l => rcases k with rfl | rfl <;> trivial
 | dead => cases (show o' = _ from k); trivial
 | _ => exact h.elim
theorem softO.noI {o : TObj} (h : softO o) : matI o = none := by cases o <;> first | rfl | exact h.elim
theorem nest_mono {m m' : Mp} {os os' : List TObj} (hm : MapLe m os m' os') {id ver : Nat} (F : Ty → Nat → Option (List Value) → Prop)
  (h : ∃ o, os[id]? = some o ∧ match matI o with | some (t, _, _, ver') => ver ≤ ver' ∧ (ver' = ver → F t (m.ν id) (m.μ id)) | none => softO o) :
  ∃ o, os'[id]? = some o ∧ match matI o with | some (t, _, _, ver') => ver ≤ ver' ∧ (ver' = ver → F t (m'.ν id) (m'.μ id)) | none => softO o := by
 obtain ⟨o, ho, h⟩ := h
 obtain ⟨o', h1, h2⟩ := hm.keep id o ho
 refine ⟨o', h1, ?_⟩
 cases hi : matI o with
 | none =>
  rw [hi] at h; have := softO.kw h h2; rw [this.noI]; exact this
 | some x =>
  obtain ⟨t, tid, nt, ver1⟩ := x; rw [hi] at h; rw [matKW hi] at h2; rcases h2 with ⟨v', e, hv⟩ | ⟨w, l', rfl⟩ | rfl | ⟨l', rfl⟩
  ·rw [e]
   obtain ⟨g1, g2, g3⟩ := hm.mat id _ _ _ _ _ _ _ _ _ _ ho hi h1 e; refine ⟨Nat.le_trans h.1 hv, fun q => ?_⟩; have e2 : v' = ver1 := by have := h.1; omega
   rw [g2, g3 e2]; exact h.2 (by omega)
  ·trivial
  ·trivial
  ·trivial
theorem RV.mono {m m' : Mp} {os os' : List TObj} (hm : MapLe m os m' os') {tv : TV} {v : Value} (h : RV m os tv v) : RV m' os' tv v := by
 induction h with
 | int k n => exact .int k n
 | bool b => exact .bool b
 | str s => exact .str s
 | nilS => exact .nilS
 | nilP => exact .nilP
 | nilF => exact .nilF
 | buf id v h =>
  refine .buf id v ?_; unfold BufR at *; cases ho : os[id]? with
  | none => rw [ho] at h; exact h.elim
  | some o =>
   obtain ⟨o', h1, h2⟩ := hm.keep id o ho; rw [h1]; rw [ho] at h; cases o with
   | dead => cases (show o' = _ from h2); trivial
   | row w t l tid =>
    rcases h2 with ⟨w', l', e, hl⟩ | rfl | ⟨l', e, hl⟩
    ·have hr := hm.row id w t l tid _ _ _ _ ho (e ▸ h1)
     subst e; simp only at h ⊢; rw [hr, hl]; refine h.imp (fun ⟨a, b, c⟩ => ⟨a, by subst b; simpa using hl, c⟩) fun ⟨b, a, q, c⟩ => ⟨b, a, fun e => q ?_, c⟩
     subst e; exact List.eq_nil_of_length_eq_zero hl.symm
    ·trivial
    ·subst e; trivial
   | fro t l => rcases h2 with rfl | rfl <;> trivial
   | _ => exact h.elim
 | sdat id v h =>
  refine .sdat id v ?_; unfold SdR at *; cases ho : os[id]? with
  | none => rw [ho] at h; exact h.elim
  | some o =>
   obtain ⟨o', h1, h2⟩ := hm.keep id o ho; rw [h1]; rw [ho] at h; cases o with
   | dead => cases (show o' = _ from h2); trivial
   | row w t l tid =>
    rcases h2 with ⟨w', l', e, hl⟩ | rfl | ⟨l', e, hl⟩
    ·have hr := hm.row id w t l tid _ _ _ _ ho (e ▸ h1)
     subst e; simp only at h ⊢; rw [hr]; refine h.imp (fun ⟨a, b, c⟩ => ⟨a, by subst b; simpa using hl, c⟩) fun ⟨b, a, q, c⟩ => ⟨b, a, fun e => q ?_, c⟩
     subst e; exact List.eq_nil_of_length_eq_zero hl.symm
    ·trivial
    ·subst e; trivial
   | fro t l => rcases h2 with rfl | rfl <;> trivial
   | _ => exact h.elim
 | nilOr id q v h hf => exact .nilOr id q v (h.imp _root_.id fun ⟨hq, b, h1, h2⟩ => ⟨hq, b, hm.fix _ _ h1 hf, h2⟩) (hf.keep hm.keep)
 | deep t l v h => exact .deep t l v (h.mono hm.gle (DC.mono hm.gle t))
 | own id v h =>
  refine .own id v ?_; have h0 := h; unfold OwnR at *; cases ho : os[id]? with
  | none => rw [ho] at h; exact h.elim
  | some o =>
   obtain ⟨o', h1, h2⟩ := hm.keep id o ho; rw [h1]; rw [ho] at h; cases o with
   | dead => cases (show o' = _ from h2); trivial
   | row w t l tid =>
    have base : ∀ l' w', o' = .row w' t l' tid → l'.length = l.length → (match some o' with
     | some (.row _ t l _) => (m'.ρ id = none ∧ l = [] ∧ v = .slice none 0 0) ∨ ∃ b, m'.ρ id = some b ∧ v = .slice (some ⟨b, 0, none⟩) l.length t.size
     | some (.fro t l) => DS m'.G t.size (DC m'.G t) l v
     | some .dead => True
     | some (.mat _ t _ _ _ _ _) | some (.hid t _ _ _) => (m'.ρ id = none ∧ m'.ν id = 0 ∧ v = .slice none 0 0) ∨ ∃ b, m'.ρ id = some b ∧ v = .slice (some ⟨b, 0, none⟩) (m'.ν id) t.size
     | _ => False) := fun l' w' e hl => by
     have hr := hm.row id w t l tid _ _ _ _ ho (e ▸ h1); subst e; simp only at h ⊢; rw [hr, hl]; exact h.imp (fun ⟨a, b, c⟩ => ⟨a, by subst b; simpa using hl, c⟩) _root_.id
    rcases h2 with ⟨w', l', e, hl⟩ | rfl | ⟨l', e, hl⟩
    ·exact base l' w' e hl
    ·trivial
    ·subst e
     simp only at h ⊢; rcases hm.fro id w t l tid t l' ho h1 with ⟨e1, e2⟩ | ⟨b, c, e1, e2, e3, e4⟩
     ·rcases h with ⟨_, _, h3⟩ | ⟨b, h3, h4⟩
      ·exact .inl ⟨h3, e2⟩
      ·rw [e1] at h3; cases h3
     ·rcases h with ⟨h3, _, _⟩ | ⟨b', h3, h4⟩
      ·rw [e1] at h3; cases h3
      ·rw [e1] at h3; cases h3
       exact .inr (.inr ⟨b, 0, t.size, c, by rw [h4, hl], .inl rfl, e2, by omega, by simpa using e4⟩)
   | fro t l =>
    rcases h2 with rfl | rfl
    ·exact DS.mono h hm.gle (DC.mono hm.gle t)
    ·trivial
   | mat w t l tid nt ver hole => have := OwnR.mat_mono hm ho rfl h0; unfold OwnR at this; rw [h1] at this; exact this
   | hid t tid nt ver => have := OwnR.mat_mono hm ho rfl h0; unfold OwnR at this; rw [h1] at this; exact this
   | box w cs tid => exact h.elim
   | frame a b c d e f g => exact h.elim
   | iter a b c => exact h.elim
   | lost => exact h.elim
 | sub id lo n v h =>
  refine .sub id lo n v ?_; unfold SubR at *; cases ho : os[id]? with
  | none => rw [ho] at h; exact h.elim
  | some o =>
   obtain ⟨o', h1, h2⟩ := hm.keep id o ho; rw [h1]; rw [ho] at h; cases o with
   | dead => cases (show o' = _ from h2); trivial
   | row w t l tid =>
    have base : ∀ l' w', o' = .row w' t l' tid → l'.length = l.length → (match some o' with | some (TObj.row _ t l _) => (m'.ρ id = none ∧ lo = 0 ∧ n = 0 ∧ l = [] ∧ v = .slice none 0 0) ∨ ∃ b, m'.ρ id = some b ∧ lo + n ≤ l.length ∧ v = .slice (some ⟨b, lo * t.size, none⟩) n t.size | some (.fro t l) => DS m'.G t.size (DC m'.G t) ((l.drop lo).take n) v | some .dead => True | _ => False) := fun l' w' e hl => by
     have hr := hm.row id w t l tid _ _ _ _ ho (e ▸ h1); subst e; simp only at h ⊢; rw [hr, hl]; exact h.imp (fun ⟨a, b, c, d, e⟩ => ⟨a, b, c, by subst d; simpa using hl, e⟩) _root_.id
    rcases h2 with ⟨w', l', e, hl⟩ | rfl | ⟨l', e, hl⟩
    ·exact base l' w' e hl
    ·trivial
    ·subst e
     simp only at h ⊢; rcases hm.fro id w t l tid t l' ho h1 with ⟨e1, e2⟩ | ⟨b, c, e1, e2, e3, e4⟩
     ·rcases h with ⟨_, _, _, _, h3⟩ | ⟨b, h3, h4⟩
      ·exact .inl ⟨h3, by subst e2; simp⟩
      ·rw [e1] at h3; cases h3
     ·rcases h with ⟨h3, _, _⟩ | ⟨b', h3, h4, h5⟩
      ·rw [e1] at h3; cases h3
      ·rw [e1] at h3; cases h3
       have hlen : ((l'.drop lo).take n).length = n := by simp; omega
       have hle : lo * t.size + n * t.size ≤ l'.length * t.size := by rw [← Nat.add_mul]; exact Nat.mul_le_mul_right _ (by omega)
       exact .inr (.inr ⟨b, lo * t.size, t.size, c, by rw [h5, hlen], .inl rfl, e2, by rw [hlen]; omega, drop_mul_rows e4 lo n (by omega)⟩)
   | fro t l =>
    rcases h2 with rfl | rfl
    ·exact DS.mono h hm.gle (DC.mono hm.gle t)
    ·trivial
   | mat w t l tid nt ver hole => exact h.elim
   | hid t tid nt ver => exact h.elim
   | box w cs tid => exact h.elim
   | frame a b c d e f g => exact h.elim
   | iter a b c => exact h.elim
   | lost => exact h.elim
 | ptr id off b h hf => exact .ptr id off b (hm.fix _ _ h hf) (hf.keep hm.keep)
 | elt id i off v h =>
  refine .elt id i off v ?_; have h0 := h; unfold EltR at *; cases ho : os[id]? with
  | none => rw [ho] at h; exact h.elim
  | some o =>
   obtain ⟨o', h1, h2⟩ := hm.keep id o ho; rw [h1]; rw [ho] at h; cases o with
   | dead => cases (show o' = _ from h2); trivial
   | row w t l tid =>
    obtain ⟨b, a1, a2, a3⟩ := h; rcases h2 with ⟨w', l', e, hl⟩ | rfl | ⟨l', e, hl⟩
    ·subst e; exact ⟨b, (hm.row id w t l tid _ _ _ _ ho h1).trans a1, by omega, a3⟩
    ·trivial
    ·subst e; trivial
   | fro t l => rcases h2 with rfl | rfl <;> trivial
   | mat w t l tid nt ver hole => have := EltR.mat_mono hm ho rfl h0; unfold EltR at this; rw [h1] at this; exact this
   | hid t tid nt ver => have := EltR.mat_mono hm ho rfl h0; unfold EltR at this; rw [h1] at this; exact this
   | box w cs tid => exact h.elim
   | frame a b c d e f g => exact h.elim
   | iter a b c => exact h.elim
   | lost => exact h.elim
 | nest id i pos ver ct v h =>
  exact .nest id i pos ver ct v (nest_mono hm (fun t n μ => i < n ∧ pos < t.size ∧ ∃ c u, μ = some c ∧ c[i * t.size + pos]? = some u ∧ cutR ct u v) h)
 | elt2 id i pos j off ver v h =>
  exact .elt2 id i pos j off ver v (nest_mono hm (fun t n μ => i < n ∧ pos < t.size ∧ ∃ c b n z, μ = some c ∧ c[i * t.size + pos]? = some (.slice (some ⟨b, 0, none⟩) n z) ∧ j < n ∧ v = .pointer (some ⟨b, j * z + off, none⟩)) h)
 | dptrM cs s arr x hl h ih => exact .dptrM cs s arr x hl fun i a b => ih i a b
 | dptrP cs b off c hG hl h ih => exact .dptrP cs b off c (hm.gle _ _ hG) hl fun i a b => ih i a b
 | agg cs arr hl h ih => exact .agg cs arr hl fun i a b => ih i a b
 | tup cs arr hl h ih => exact .tup cs arr hl fun i a b => ih i a b
 | func f x y x' y' hx hy h1 h2 i1 i2 => exact .func f x y x' y' hx hy (fun i a b => i1 i a b) fun i a b => i2 i a b
 | yld id v h =>
  refine .yld id v ?_; unfold YldR at *; cases ho : os[id]? with
  | none => rw [ho] at h; exact h.elim
  | some o =>
   obtain ⟨o', h1, h2⟩ := hm.keep id o ho; rw [h1]; rw [ho] at h; cases o with
   | dead => cases (show o' = _ from h2); trivial
   | frame a b c d e f g =>
    obtain ⟨b', p1, p2⟩ := h; rcases h2 with ⟨_, _, _, _, _, _, _, rfl⟩ | rfl
    ·exact ⟨b', (hm.frm id _ _ _ _ _ _ _ _ _ _ _ _ _ _ ho h1).trans p1, p2⟩
    ·trivial
   | _ => exact h.elim
 | junk v => exact .junk v
theorem RL.mono {m m' : Mp} {os os' : List TObj} (hm : MapLe m os m' os') {cs : List TV} {vs : List Value} (h : RL m os cs vs) : RL m' os' cs vs := ⟨h.1, fun i a b => (h.2 i a b).mono hm⟩

theorem MapLe.refl (m : Mp) (os : List TObj) (H : AH) (hR : HR m os H) : MapLe m os m os :=
 ⟨.refl _, (Keep.refl _).kw, fun _ _ h _ => h, fun _ _ _ _ _ _ _ _ _ _ _ _ _ _ _ _ _ => rfl, fun _ _ _ _ _ _ _ _ _ _ _ => rfl, fun i w t l tid t' l' h1 h2 => (by rw [h1] at h2; cases h2), fun i o t tid nt ver o' t' tid' nt' ver' h1 h2 h3 h4 => ⟨rfl, rfl, fun _ => rfl⟩, fun i o t tid nt ver w' t' l' tid' h1 h2 h3 => (by rw [h1] at h3; cases h3; cases h2), fun i o t tid nt ver t' l' h1 h2 h3 => (by rw [h1] at h3; cases h3; cases h2)⟩
theorem MapLe.trans {m m1 m2 : Mp} {os os1 os2 : List TObj} (h : MapLe m os m1 os1) (k : MapLe m1 os1 m2 os2) : MapLe m os m2 os2 := by
 refine ⟨h.gle.trans k.gle, h.keep.trans k.keep, fun i b hb hf => k.fix _ _ (h.fix _ _ hb hf) (hf.keep h.keep), ?_, ?_, ?_, ?_, ?_, ?_⟩
 ·intro i a b c d e f g a' b' c' d' e' f' g' h1 h2
  obtain ⟨o1, g1, g2⟩ := h.keep i _ h1; obtain ⟨o2, g3, g4⟩ := k.keep i _ g1; rw [h2] at g3; cases g3; rcases g2 with ⟨_, _, _, _, _, _, _, rfl⟩ | rfl
  ·rw [k.frm i _ _ _ _ _ _ _ _ _ _ _ _ _ _ g1 h2, h.frm i _ _ _ _ _ _ _ _ _ _ _ _ _ _ h1 g1]
  ·cases g4
 ·intro i w t l tid w' t' l' tid' h1 h2
  obtain ⟨o1, g1, g2⟩ := h.keep i _ h1; obtain ⟨o2, g3, g4⟩ := k.keep i _ g1; rw [h2] at g3; cases g3; rcases g2 with ⟨w1, l1, rfl, hl⟩ | rfl | ⟨l1, rfl, hl⟩
  ·rw [k.row i _ _ _ _ _ _ _ _ g1 h2, h.row i _ _ _ _ _ _ _ _ h1 g1]
  ·cases g4
  ·rcases g4 with g4 | g4 <;> cases g4
 ·intro i w t l tid t' l' h1 h2
  obtain ⟨o1, g1, g2⟩ := h.keep i _ h1; obtain ⟨o2, g3, g4⟩ := k.keep i _ g1; rw [h2] at g3; cases g3; rcases g2 with ⟨w1, l1, rfl, hl⟩ | rfl | ⟨l1, rfl, hl⟩
  ·have e := h.row i _ _ _ _ _ _ _ _ h1 g1
   rw [← e]; exact k.fro i _ _ _ _ _ _ g1 h2
  ·cases g4
  ·rcases g4 with g4 | g4 <;> cases g4
   rcases h.fro i _ _ _ _ _ _ h1 g1 with a | ⟨b, c, a1, a2, a3, a4⟩
   ·exact .inl a
   ·exact .inr ⟨b, c, a1, k.gle _ _ a2, a3, a4.mono (DC.mono k.gle _)⟩
 ·intro i o t tid nt ver o' t' tid' nt' ver' h1 h2 h3 h4
  obtain ⟨o1, g1, g2⟩ := h.keep i _ h1; obtain ⟨o2, g3, g4⟩ := k.keep i _ g1; rw [h3] at g3; cases g3; rw [matKW h2] at g2; rcases g2 with ⟨v1, e1, hv1⟩ | ⟨w, l', rfl⟩ | rfl | ⟨l', rfl⟩
  ·obtain ⟨a1, a2, a3⟩ := h.mat i _ _ _ _ _ _ _ _ _ _ h1 h2 g1 e1
   obtain ⟨b1, b2, b3⟩ := k.mat i _ _ _ _ _ _ _ _ _ _ g1 e1 h3 h4; rw [matKW e1] at g4; refine ⟨b1.trans a1, b2.trans a2, fun e => ?_⟩; rcases g4 with ⟨v2, e2, hv2⟩ | ⟨w, l', rfl⟩ | rfl | ⟨l', rfl⟩
   ·rw [h4] at e2; cases e2
    exact (b3 (by omega)).trans (a3 (by omega))
   ·cases h4
   ·cases h4
   ·cases h4
  ·rcases g4 with ⟨_, _, rfl, _⟩ | rfl | ⟨_, rfl, _⟩ <;> cases h4
  ·cases (show o' = _ from g4); cases h4
  ·rcases g4 with rfl | rfl <;> cases h4
 ·intro i o t tid nt ver w' t' l' tid' h1 h2 h3
  obtain ⟨o1, g1, g2⟩ := h.keep i _ h1; obtain ⟨o2, g3, g4⟩ := k.keep i _ g1; rw [h3] at g3; cases g3; rw [matKW h2] at g2; rcases g2 with ⟨v1, e1, hv1⟩ | ⟨w, l2, rfl⟩ | rfl | ⟨l2, rfl⟩
  ·obtain ⟨a1, a2, a3⟩ := h.mat i _ _ _ _ _ _ _ _ _ _ h1 h2 g1 e1
   obtain ⟨b1, b2⟩ := k.matR i _ _ _ _ _ _ _ _ _ g1 e1 h3; exact ⟨b1.trans a1, b2.trans a2⟩
  ·obtain ⟨a1, a2⟩ := h.matR i _ _ _ _ _ _ _ _ _ h1 h2 g1
   have b1 := k.row i _ _ _ _ _ _ _ _ g1 h3; rcases g4 with ⟨_, l3, e, hl⟩ | e | ⟨_, e, _⟩ <;> cases e
   exact ⟨b1.trans a1, hl.trans a2⟩
  ·cases g4
  ·rcases g4 with g4 | g4 <;> cases g4
 ·intro i o t tid nt ver t' l' h1 h2 h3
  obtain ⟨o1, g1, g2⟩ := h.keep i _ h1; obtain ⟨o2, g3, g4⟩ := k.keep i _ g1; rw [h3] at g3; cases g3; rw [matKW h2] at g2; rcases g2 with ⟨v1, e1, hv1⟩ | ⟨w, l2, rfl⟩ | rfl | ⟨l2, rfl⟩
  ·obtain ⟨a1, a2, a3⟩ := h.mat i _ _ _ _ _ _ _ _ _ _ h1 h2 g1 e1
   obtain ⟨b1, b2⟩ := k.matF i _ _ _ _ _ _ _ g1 e1 h3; rw [a1, a2] at *; exact ⟨b1, b2⟩
  ·obtain ⟨a1, a2⟩ := h.matR i _ _ _ _ _ _ _ _ _ h1 h2 g1
   have b1 := k.fro i _ _ _ _ _ _ g1 h3; rcases g4 with ⟨_, l3, e, hl⟩ | e | ⟨_, e, hl⟩ <;> cases e
   rw [a1] at b1; exact ⟨hl.trans a2, b1⟩
  ·cases g4
  ·rcases g4 with g4 | g4 <;> cases g4
   obtain ⟨a0, a⟩ := h.matF i _ _ _ _ _ _ _ h1 h2 g1; refine ⟨a0, ?_⟩; rcases a with a | ⟨b, c, a1, a2, a3, a4⟩
   ·exact .inl a
   ·exact .inr ⟨b, c, a1, k.gle _ _ a2, a3, a4.mono (DC.mono k.gle _)⟩

structure Ext (m : Mp) (h : THp) (H : AH) (m' : Mp) (h' : THp) (H' : AH) : Prop where
 keep : Keep h.os h'.os
 le : MapLe m h.os m' h'.os
 next : H.next ≤ H'.next
 frame : ∀ b, b < H.next → (∀ i : Key, m.ρ i ≠ some b) → H'.get b = H.get b
 gg : ∀ b c, m'.G b = some c → m.G b = some c ∨ (∃ i : Key, m.ρ i = some b) ∨ H.next ≤ b
 dirty : ∃ l, h'.dirty = l ++ h.dirty ∧ (gmark ∉ l → ∀ b c, m'.G b = some c → m.G b = some c) ∧ (∀ (i : Key) b, m.ρ i = some b → i.top ∉ l → H'.get b = H.get b) ∧ ∀ (i : Key) b, m'.ρ i = some b → m.ρ i = some b ∨ (∃ j : Key, j.top ∈ l ∧ m.ρ j = some b) ∨ H.next ≤ b
 old : ∀ l, h'.dirty = l ++ h.dirty → ∀ (k : Key) b, k.top < h.os.length → k.top ∉ l → m'.ρ k = some b → m.ρ k = some b

theorem Ext.refl {m : Mp} {h : THp} {H : AH} (hR : HR m h.os H) : Ext m h H m h H :=
 ⟨.refl _, .refl _ _ H hR, Nat.le_refl _, fun _ _ _ => rfl, fun _ _ h => .inl h, ⟨[], rfl, fun _ _ _ h => h, fun _ _ _ _ => rfl, fun _ _ h => .inl h⟩, fun _ _ _ _ _ _ h => h⟩
theorem Ext.trans {m m1 m2 : Mp} {h h1 h2 : THp} {H H1 H2 : AH} (hR : HR m h.os H) (a : Ext m h H m1 h1 H1) (b : Ext m1 h1 H1 m2 h2 H2) : Ext m h H m2 h2 H2 := by
 obtain ⟨l1, e1, c1, d1, t1⟩ := a.dirty
 obtain ⟨l2, e2, c2, d2, t2⟩ := b.dirty
 refine ⟨a.keep.trans b.keep, a.le.trans b.le, Nat.le_trans a.next b.next, fun c hc hn => ?_, fun c cs hc => ?_, ⟨l2 ++ l1, by rw [e2, e1, List.append_assoc], fun hg b c hb => c1 (fun q => hg (List.mem_append_right _ q)) b c (c2 (fun q => hg (List.mem_append_left _ q)) b c hb), fun i c hi hn => ?_, fun i c hi => ?_⟩, fun l hl k c hk hn hc => ?_⟩
 rotate_right
 ·have el : l = l2 ++ l1 := List.append_cancel_right (hl.symm.trans (by rw [e2, e1, List.append_assoc]))
  subst el; simp only [List.mem_append, not_or] at hn; exact a.old l1 e1 k c hk hn.2 (b.old l2 e2 k c (Nat.lt_of_lt_of_le hk a.keep.len) hn.1 hc)
 ·rw [b.frame c (Nat.lt_of_lt_of_le hc a.next) fun i hi => ?_, a.frame c hc hn]
  rcases t1 i c hi with g | ⟨j, -, g⟩ | g
  ·exact hn i g
  ·exact hn j g
  ·omega
 ·rcases b.gg c cs hc with g | ⟨i, g⟩ | g
  ·exact a.gg c cs g
  ·rcases t1 i c g with g | ⟨j, -, g⟩ | g
   ·exact .inr (.inl ⟨i, g⟩)
   ·exact .inr (.inl ⟨j, g⟩)
   ·exact .inr (.inr g)
  ·exact .inr (.inr (Nat.le_trans a.next g))
 ·simp only [List.mem_append, not_or] at hn
  have hc := (hR.lt i c hi).1; by_cases g : ∃ j, m1.ρ j = some c
  ·obtain ⟨j, hj⟩ := g
   rcases t1 j c hj with g | ⟨k, k1, g⟩ | g
   ·have := hR.inj i j c hi g
    subst this; rw [d2 i c hj hn.1, d1 i c hi hn.2]
   ·have := hR.inj i k c hi g
    subst this; exact absurd k1 hn.2
   ·omega
  ·rw [b.frame c (Nat.lt_of_lt_of_le hc a.next) (fun j hj => g ⟨j, hj⟩), d1 i c hi hn.2]
 ·have back : ∀ j : Key, m1.ρ j = some c → m.ρ j = some c ∨ (∃ k : Key, k.top ∈ l1 ∧ m.ρ k = some c) ∨ H.next ≤ c := fun j hj => t1 j c hj
  rcases t2 i c hi with g | ⟨j, j1, g⟩ | g
  ·rcases back i g with g | ⟨k, k1, g⟩ | g
   ·exact .inl g
   ·exact .inr (.inl ⟨k, List.mem_append_right _ k1, g⟩)
   ·exact .inr (.inr g)
  ·rcases back j g with g | ⟨k, k1, g⟩ | g
   ·exact .inr (.inl ⟨j, List.mem_append_left _ j1, g⟩)
   ·exact .inr (.inl ⟨k, List.mem_append_right _ k1, g⟩)
   ·exact .inr (.inr g)
  ·have := a.next; exact .inr (.inr (by omega))

theorem lt_of_get {α : Type} {l : List α} {i : Nat} {x : α} (h : l[i]? = some x) : i < l.length := (List.getElem?_eq_some_iff.1 h).1
theorem os_getD {os : List TObj} {id : Nat} {o : TObj} (h : os.getD id .dead = o) (ho : o ≠ .dead) : os[id]? = some o := by
 rw [List.getD_eq_getElem?_getD] at h
 cases e : os[id]? with
 | none => rw [e] at h; exact absurd h.symm ho
 | some o' => rw [e] at h; exact congrArg some h
theorem at_some {h : THp} {id : Nat} {o : TObj} (e : h.at_ id = o) (ho : o ≠ .dead) : h.os[id]? = some o := os_getD e ho

theorem RV.of_DC {G : Nat → Option (List Value)} {m : Mp} {os : List TObj} (hG : m.G = G) : ∀ (t : Ty) (x : t.den) (cs : List Value), DC G t x cs → RL m os (cellsT t x) cs := by
 subst hG
 intro t
 induction t with
 | int k => intro x cs h; rw [show cs = _ from h]; exact ⟨rfl, fun i a b => by simp [cellsT] at a; subst a; exact .int k x⟩
 | bool => intro x cs h; rw [show cs = _ from h]; exact ⟨rfl, fun i a b => by simp [cellsT] at a; subst a; exact .bool (.v x)⟩
 | str => intro x cs h; rw [show cs = _ from h]; exact ⟨rfl, fun i a b => by simp [cellsT] at a; subst a; exact .str x⟩
 | slice t ih => intro x cs h; obtain ⟨v, h1, h2⟩ := h; rw [h1]; exact ⟨rfl, fun i a b => by simp [cellsT] at a; subst a; exact .deep t x v h2⟩
 | unit => intro x cs h; rw [show cs = _ from h]; exact ⟨rfl, fun i a b => by simp [cellsT] at a⟩
 | pair a b iha ihb =>
  intro x cs h; obtain ⟨c1, c2, h1, h2, h3⟩ := h; have g1 := iha _ _ h2; have g2 := ihb _ _ h3; subst h1; refine ⟨by simp only [cellsT, List.length_append, g1.1, g2.1], fun i p q => ?_⟩; simp only [cellsT] at p ⊢; by_cases hi : i < (cellsT a x.1).length
  ·rw [List.getElem_append_left hi, List.getElem_append_left (by rw [← g1.1]; exact hi)]
   exact g1.2 i hi (by rw [← g1.1]; exact hi)
  ·rw [List.getElem_append_right (by omega), List.getElem_append_right (by rw [← g1.1]; omega)]
   have := g2.2 (i - (cellsT a x.1).length) (by simp at p; omega) (by rw [← g2.1]; simp at p; omega); have e : i - c1.length = i - (cellsT a x.1).length := by rw [g1.1]
   simpa only [e] using this
 | st a ih => intro x cs h; exact ih _ _ h
theorem isFix_iff {os : List TObj} {i : Nat} : isFix os i ↔ ∃ o, os[i]? = some o ∧ isFixO o := by
 unfold isFix
 cases e : os[i]? with
 | none => exact ⟨fun h => h.elim, fun ⟨o, h, _⟩ => by cases h⟩
 | some o => exact ⟨fun h => ⟨o, rfl, by cases o <;> first | trivial | exact h⟩, fun ⟨o', h, k⟩ => by cases h; cases o <;> first | trivial | exact k⟩
end Go.TM
