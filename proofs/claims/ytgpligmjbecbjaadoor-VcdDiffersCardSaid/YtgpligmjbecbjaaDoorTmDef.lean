/- The typed machine 'TM': the model's Code on states whose parts may be unknown: own rows as lists, answers in continuation style. Definitions alone. -/

import Derived.Test.YtgpligmjbecbjaaDoorAmOmega
import Derived.Test.YtgpligmjbecbjaaDoorAmFast
set_option linter.unusedVariables false
namespace Go.TM
open Go Go.AM

abbrev wr (k : IntKind) (n : Int) : Int := k.wrap n
abbrev ad (m n : Int) : Int := m + n
abbrev sb (m n : Int) : Int := m - n
abbrev ml (m n : Int) : Int := m * n
abbrev ng (m : Int) : Int := -m
abbrev dv (m n : Int) : Int := m.tdiv n
abbrev md (m n : Int) : Int := m.tmod n
abbrev band (k : IntKind) (m n : Int) : Int := k.wrap (BitVec.ofInt k.bits m &&& BitVec.ofInt k.bits n).toNat
abbrev bor (k : IntKind) (m n : Int) : Int := k.wrap (BitVec.ofInt k.bits m ||| BitVec.ofInt k.bits n).toNat
abbrev bxor (k : IntKind) (m n : Int) : Int := k.wrap (BitVec.ofInt k.bits m ^^^ BitVec.ofInt k.bits n).toNat
abbrev bandn (k : IntKind) (m n : Int) : Int := k.wrap (BitVec.ofInt k.bits m &&& ~~~ (BitVec.ofInt k.bits n)).toNat
abbrev shl (k : IntKind) (m n : Int) : Int := m * 2 ^ (min n.toNat k.bits)
abbrev shr (k : IntKind) (m n : Int) : Int := m.fdiv (2 ^ (min n.toNat k.bits))
abbrev le (m n : Int) : Bool := decide (m ≤ n)
abbrev lt (m n : Int) : Bool := decide (m < n)
abbrev eq (m n : Int) : Bool := decide (m = n)
abbrev ne (m n : Int) : Bool := decide (m ≠ n)
abbrev mn (m n : Int) : Int := if n < m then n else m
abbrev mx (m n : Int) : Int := if m < n then n else m
abbrev tn (n : Int) : Nat := n.toNat
abbrev nadd (m n : Nat) : Nat := m + n
abbrev nsub (m n : Nat) : Nat := m - n
abbrev ni (n : Nat) : Int := (n : Int)
abbrev ix (n m : Int) : Bool := decide (0 ≤ n ∧ n < m)
abbrev rg (a b m : Int) : Bool := decide (0 ≤ a ∧ a ≤ b ∧ b ≤ m)
abbrev fits (a b m : Nat) : Bool := decide (a + b ≤ m)
abbrev nt (b : Bool) : Bool := !b
abbrev bq (a b : Bool) : Bool := a == b
abbrev ba (a b : Bool) : Bool := a && b
abbrev runs (n : Int) : List UInt8 := (Utf8.encode n).data.toList
abbrev len {α : Type} (l : List α) : Nat := l.length
abbrev rd {α : Type} (l : List α) (i : Nat) (d : α) : α := l.getD i d
abbrev put {α : Type} (l : List α) (i : Nat) (x : α) : List α := l.set i x
abbrev cut {α : Type} (l : List α) (a n : Nat) : List α := (l.drop a).take n
abbrev app {α : Type} (l r : List α) : List α := l ++ r
abbrev rept {α : Type} (n : Nat) (x : α) : List α := List.replicate n x
abbrev byt (b : UInt8) : Int := (b.toNat : Int)
abbrev byts (l : List UInt8) : List Int := l.map fun b => (b.toNat : Int)
abbrev isb (l : List Int) : Bool := l.all fun n => decide (0 ≤ n ∧ n < 256)
abbrev bstr (l : List Int) : List UInt8 := l.map fun n => UInt8.ofNat n.toNat
abbrev slt (a b : List UInt8) : Bool := Op.bytesLess a b
abbrev rune (s : List UInt8) (i : Nat) : Int := ((Utf8.decode ⟨s.toArray⟩ i).1 : Int)
abbrev runw (s : List UInt8) (i : Nat) : Nat := (Utf8.decode ⟨s.toArray⟩ i).2
abbrev nlt (a b : Nat) : Bool := decide (a < b)
abbrev eqn (a b : Nat) : Bool := decide (a = b)
abbrev sq (a b : List UInt8) : Bool := decide (a = b)
abbrev br {R : Type} (b : Bool) (x y : Option R) : Option R := cond b x y
abbrev ob {A R : Type} (x : Option A) (f : A → Option R) : Option R := x.bind f
abbrev inR {R S : Type} (x : Option R) : Option (S ⊕ R) := x.map .inr
abbrev oj {R S : Type} (x : Option (S ⊕ R)) (f : S → Option R) : Option R := match x with
 | some (.inl s) => f s
 | some (.inr r) => some r
 | none => none
def iterS {σ R : Type} (f : σ → Option (σ ⊕ R)) (s : σ) : Option R :=
 match f s with
 | some (.inl s') => iterS f s'
 | some (.inr r) => some r
 | none => none
partial_fixpoint
inductive SB where
 | t | f | v (b : Bool)
def SB.get : SB → Bool
 | .t => true
 | .f => false
 | .v b => b
def SB.not : SB → SB
 | .t => .f
 | .f => .t
 | .v b => .v (nt b)
def SB.of : Bool → SB
 | true => .t
 | false => .f
def brB {R : Type} (b : SB) (x y : Option R) : Option R := match b with
 | .t => x
 | .f => y
 | .v b => br b x y
def brs {R : Type} (c : List Bool) (x : Option R) : Option R := match c with
 | [] => x
 | b :: r => br b (brs r x) none

inductive Ty where
 | int (k : IntKind) | bool | str | slice (t : Ty) | unit | pair (a b : Ty) | st (a : Ty)
 deriving DecidableEq
@[reducible] def Ty.den : Ty → Type
 | .int _ => Int
 | .bool => Bool
 | .str => List UInt8
 | .slice t => List t.den
 | .unit => Unit
 | .pair a b => a.den × b.den
 | .st a => a.den
def Ty.size : Ty → Nat
 | .unit => 0
 | .pair a b => a.size + b.size
 | .st a => a.size
 | _ => 1
def Ty.dflt : (t : Ty) → t.den
 | .int _ => (0 : Int)
 | .bool => false
 | .str => ([] : List UInt8)
 | .slice t => ([] : List t.den)
 | .unit => ()
 | .pair a b => (a.dflt, b.dflt)
 | .st a => a.dflt
def Ty.isSt : Ty → Bool
 | .st _ => true
 | _ => false
@[reducible] def Tys : List Ty → Type
 | [] => Unit
 | [t] => t.den
 | t :: r => t.den × Tys r

inductive TV where
 | int (k : IntKind) (n : Int)
 | bool (b : SB)
 | str (s : List UInt8)
 | nilS | nilP | nilF
 | nilOr (id : Nat) (b : Bool)
 | buf (id : Nat)
 | sdat (id : Nat)
 | deep (t : Ty) (l : List t.den)
 | own (id : Nat)
 | sub (id lo n : Nat)
 | ptr (id off : Nat)
 | elt (id i off : Nat)
 | nest (id i pos ver : Nat) (ct : Option Nat)
 | elt2 (id i pos j off ver : Nat)
 | dptr (cs : List TV)
 | agg (cs : List TV)
 | tup (cs : List TV)
 | func (f : Nat) (first cap : List TV)
 | yld (id : Nat)
 | junk

inductive TObj where
 | dead
 | row (w : Bool) (t : Ty) (l : List t.den) (tid : Nat)
 | fro (t : Ty) (l : List t.den)
 | mat (w : Bool) (t : Ty) (l : List t.den) (tid : Nat) (nt : List Nat) (ver : Nat) (hole : Option Nat)
 | hid (t : Ty) (tid : Nat) (nt : List Nat) (ver : Nat)
 | box (w : List Bool) (cs : List TV) (tid : Nat)
 | frame (tmps : List TV) (ps : List Nat) (asg body : Code) (st : Nat) (pend : Option Code) (ctx : List Nat)
 | iter (w : Bool) (s : List UInt8) (pos : Nat)
 | lost

structure THp where
 os : List TObj
 dirty : List Nat
def THp.at_ (h : THp) (id : Nat) : TObj := h.os.getD id .dead
def THp.set (h : THp) (id : Nat) (o : TObj) : THp := ⟨h.os.set id o, id :: h.dirty⟩
abbrev gmark : Nat := 1000000000
def THp.mark (h : THp) : THp := ⟨h.os, gmark :: h.dirty⟩
def THp.push (h : THp) (o : TObj) : THp := ⟨h.os ++ [o], h.dirty⟩

def tvV1 : Value → TV
 | .bool b => .bool (.of b)
 | .int k n => .int k n
 | .string s => .str s.data.toList
 | .slice none 0 0 => .nilS
 | .pointer none => .nilP
 | .nilFunc => .nilF
 | _ => .junk
def tvV : Value → TV
 | .agg cs => .agg (cs.toList.map tvV1)
 | v => tvV1 v
def cellsT : (t : Ty) → t.den → List TV
 | .int k, n => [.int k n]
 | .bool, b => [.bool (.v b)]
 | .str, s => [.str s]
 | .slice t, l => [.deep t l]
 | .unit, _ => []
 | .pair a b, x => cellsT a x.1 ++ cellsT b x.2
 | .st a, x => cellsT a x
def valT (t : Ty) (x : t.den) : TV := if t.isSt then .agg (cellsT t x) else (cellsT t x).headD .junk
def TV.cells : TV → List TV
 | .agg cs => cs
 | v => [v]
def tvOne (h : THp) : TV → Bool
 | .agg _ | .tup _ | .junk | .elt _ _ _ | .elt2 _ _ _ _ _ _ | .sdat _ => false
 | .nest id _ _ ver _ => match h.at_ id with
  | .mat _ _ _ _ _ ver' none => ver' == ver
  | _ => false
 | .buf id => match h.at_ id with
  | .row _ _ _ _ => true
  | _ => false
 | .own id => match h.at_ id with
  | .row _ _ _ _ | .fro _ _ | .mat _ _ _ _ _ _ _ => true
  | _ => false
 | .sub id _ _ => match h.at_ id with
  | .row _ _ _ _ | .fro _ _ => true
  | _ => false
 | .yld id => match h.at_ id with
  | .frame _ _ _ _ _ _ _ => true
  | _ => false
 | _ => true

def castL {t' : Ty} (t : Ty) (l : List t'.den) : Option (List t.den) := if e : t' = t then some (e ▸ l) else none
def decS (h : THp) (t : Ty) : TV → Option (List t.den)
 | .nilS => some []
 | .deep t' l => castL t l
 | .own id => match h.at_ id with
  | .row _ t' l _ => castL t l
  | .fro t' l => castL t l
  | _ => none
 | .sub id lo n => match h.at_ id with
  | .row _ t' l _ => castL t (cut l lo n)
  | .fro t' l => castL t (cut l lo n)
  | _ => none
 | _ => none
def decC (h : THp) : (t : Ty) → List TV → Option (t.den × List TV)
 | .int k, .int k' n :: r => if k' = k then some (n, r) else none
 | .bool, .bool b :: r => some (b.get, r)
 | .str, .str s :: r => some (s, r)
 | .slice t, v :: r => match decS h t v with
  | some l => some (l, r)
  | none => none
 | .unit, r => some ((), r)
 | .pair a b, cs => match decC h a cs with
  | some (x, r) => match decC h b r with
   | some (y, r') => some ((x, y), r')
   | none => none
  | none => none
 | .st a, cs => decC h a cs
 | _, _ => none
def decV (h : THp) (t : Ty) (v : TV) : Option t.den :=
 match t, v with
 | .st a, .agg cs => match decC h a cs with
  | some (x, []) => some x
  | _ => none
 | .st _, _ => none
 | .pair _ _, _ => none
 | _, .agg _ => none
 | t, v => match decC h t [v] with
  | some (x, []) => some x
  | _ => none
def decVs (h : THp) : (ts : List Ty) → List TV → Option (Tys ts)
 | [], [] => some ()
 | [t], [v] => decV h t v
 | t :: u :: r, v :: vs => match decV h t v with
  | some x => match decVs h (u :: r) vs with
   | some y => some (x, y)
   | none => none
  | none => none
 | _, _ => none

def getN : (t : Ty) → Nat → t.den → Option ((u : Ty) × List u.den)
 | .slice u, 0, l => some ⟨u, l⟩
 | .pair a b, p, x => match Nat.blt p a.size with
  | true => getN a p x.1
  | false => getN b (p - a.size) x.2
 | .st a, p, x => getN a p x
 | _, _, _ => none
def setN : (t : Ty) → Nat → (u : Ty) → List u.den → t.den → Option t.den
 | .slice t, 0, u, l, _ => castL t l
 | .pair a b, p, u, l, x => match Nat.blt p a.size with
  | true => match setN a p u l x.1 with
   | some y => some (y, x.2)
   | none => none
  | false => match setN b (p - a.size) u l x.2 with
   | some y => some (x.1, y)
   | none => none
 | .st a, p, u, l, x => setN a p u l x
 | _, _, _, _, _ => none
def cellsN (id i ver : Nat) : (t : Ty) → Nat → t.den → List TV
 | .int k, _, n => [.int k n]
 | .bool, _, b => [.bool (.v b)]
 | .str, _, s => [.str s]
 | .slice _, pos, _ => [.nest id i pos ver none]
 | .unit, _, _ => []
 | .pair a b, pos, x => cellsN id i ver a pos x.1 ++ cellsN id i ver b (pos + a.size) x.2
 | .st a, pos, x => cellsN id i ver a pos x
def cutO {α : Type} (ct : Option Nat) (c : List α) : List α := match ct with
 | none => c
 | some n => cut c 0 n
def nestOf (h : THp) : TV → Option ((u : Ty) × List u.den)
 | .nest id i pos ver ct => match h.at_ id with
  | .mat _ t l _ _ ver' none => if ver' = ver then match getN t pos (rd l i t.dflt) with
    | some ⟨u, c⟩ => some ⟨u, cutO ct c⟩
    | none => none
   else none
  | _ => none
 | _ => none
def un1 (h : THp) (v : TV) : TV := match nestOf h v with
 | some ⟨u, c⟩ => .deep u c
 | none => v
def unN (h : THp) : TV → TV
 | .agg cs => .agg (cs.map (un1 h))
 | v => un1 h v
def absN (h : THp) (nt : List Nat) (id i ver : Nat) : (t : Ty) → Nat → List TV → Option (t.den × List TV × List Bool × List (Nat × Nat))
 | .int k, _, .int k' n :: r => if k' = k then some (n, r, [], []) else none
 | .bool, _, .bool b :: r => some (b.get, r, [], [])
 | .str, _, .str s :: r => some (s, r, [], [])
 | .slice t, pos, v :: r => match v with
  | .nilS => some ([], r, [], [])
  | .own id2 => match h.at_ id2 with
   | .row true t' l tid' => if tid' = nt.getD pos 0 then match castL t l with
     | some l' => some (l', r, [], [(pos, id2)])
     | none => none
    else none
   | _ => none
  | .nest id' i' pos' ver' ct => if id' = id ∧ pos' = pos ∧ ver' = ver then match nestOf h (.nest id' i' pos' ver' ct) with
    | some ⟨u, c⟩ => match castL t c with
     | some l' => some (l', r, [eqn i' i], [])
     | none => none
    | none => none
   else none
  | _ => none
 | .unit, _, r => some ((), r, [], [])
 | .pair a b, pos, cs => match absN h nt id i ver a pos cs with
  | some (x, r, k1, a1) => match absN h nt id i ver b (pos + a.size) r with
   | some (y, r', k2, a2) => some ((x, y), r', k1 ++ k2, a1 ++ a2)
   | none => none
  | none => none
 | .st a, pos, cs => absN h nt id i ver a pos cs
 | _, _, _ => none
def absV (h : THp) (nt : List Nat) (id i ver : Nat) (t : Ty) (cs : List TV) : Option (t.den × List Bool × List (Nat × Nat)) :=
 match absN h nt id i ver t 0 cs with
 | some (x, [], k, a) => some (x, k, a)
 | _ => none
def nodupN : List Nat → Bool
 | [] => true
 | x :: r => !r.contains x && nodupN r
def killN (h : THp) : List Nat → THp
 | [] => h
 | id :: r => killN (h.set id .dead) r

def ownIds : List TV → List Nat
 | [] => []
 | .own id :: r | .sub id _ _ :: r | .nest id _ _ _ _ :: r => id :: ownIds r
 | _ :: r => ownIds r
def freeze1 (h : THp) (id : Nat) : Option THp :=
 match h.at_ id with
 | .row true t l _ => some ⟨h.os.set id (.fro t l), gmark :: h.dirty⟩
 | .mat true t l _ _ _ none => some ⟨h.os.set id (.fro t l), gmark :: h.dirty⟩
 | .fro _ _ => some h
 | _ => none
def freeze (h : THp) : List Nat → Option THp
 | [] => some h
 | id :: r => match freeze1 h id with
  | some h' => freeze h' r
  | none => none

def freezeA1 (h : THp) (id : Nat) : Option THp :=
 match h.at_ id with
 | .row _ t l _ => some ⟨h.os.set id (.fro t l), gmark :: h.dirty⟩
 | .mat _ t l _ _ _ none => some ⟨h.os.set id (.fro t l), gmark :: h.dirty⟩
 | .fro _ _ => some h
 | _ => none
def freezeA (h : THp) : List Nat → Option THp
 | [] => some h
 | id :: r => match freezeA1 h id with
  | some h' => freezeA h' r
  | none => none
def Ty.flat : Ty → Bool
 | .slice _ => false
 | .pair a b => a.flat && b.flat
 | .st a => a.flat
 | _ => true

def tyL (f : Nat → Option Ty) : List Field → Option Ty
 | [] => some .unit
 | [x] => f x.type
 | x :: r => match f x.type, tyL f r with
  | some a, some b => some (.pair a b)
  | _, _ => none
def arrT (a : Ty) : Nat → Ty
 | 0 => a
 | k + 1 => .pair a (arrT a k)
def tyOf (P : Program) : Nat → Nat → Option Ty
 | 0, _ => none
 | n + 1, t => match P.underlying t with
  | some (.int k) => some (.int k)
  | some .bool => some .bool
  | some .string => some .str
  | some (.slice e) => match tyOf P n e with
   | some a => some (.slice a)
   | none => none
  | some (.array k e) => match k, tyOf P n e with
   | k + 1, some a => some (.st (arrT a k))
   | _, _ => none
  | some (.struct fs) => match tyL (tyOf P n) fs.toList with
   | some a => some (.st a)
   | none => none
  | _ => none
def ntOf (P : Program) : Nat → Nat → List Nat
 | 0, _ => []
 | n + 1, t => match P.underlying t with
  | some (.slice e) => [e]
  | some (.array k e) => (List.replicate k (ntOf P n e)).flatten
  | some (.struct fs) => (fs.toList.map fun f => ntOf P n f.type).flatten
  | _ => [0]
def elemTy (P : Program) (e : Nat) : Option Ty :=
 match tyOf P 12 e with
 | some T => if sizeOf? P e = some T.size ∧ isAgg? P e = some T.isSt ∧ T.size ≠ 0 then some T else none
 | none => none

def zeroC : Ty → List Value → Option (List Value)
 | .int k, .int k' n :: r => if k' = k ∧ n = 0 then some r else none
 | .bool, .bool false :: r => some r
 | .str, .string s :: r => if s.data.toList = [] then some r else none
 | .slice _, .slice none 0 0 :: r => some r
 | .unit, r => some r
 | .pair a b, cs => match zeroC a cs with
  | some r => zeroC b r
  | none => none
 | .st a, cs => zeroC a cs
 | _, _ => none
def zeroOk (P : Program) (e : Nat) (T : Ty) : Bool :=
 match zero? P e with
 | some z => match zeroC T z.cells.toList with
  | some [] => true
  | _ => false
 | none => false
def partT (P : Program) (t : TypeId) (cs : List TV) (off : Nat) : Option TV :=
 match isAgg? P t, sizeOf? P t with
 | some true, some n => if off + n ≤ cs.length then some (.agg ((cs.drop off).take n)) else none
 | some false, _ => cs[off]?
 | _, _ => none
def spliceT (c : List TV) (off : Nat) (vs : List TV) : List TV := c.take off ++ vs ++ c.drop (off + vs.length)

abbrev Res := Option (List Bool × TV × THp)
def rv (v : TV) (h : THp) : Res := some ([], v, h)
def ck (c : Bool) (v : TV) (h : THp) : Res := some ([c], v, h)

def tload (P : Program) (t : TypeId) (x : TV) (h : THp) : Res :=
 match x with
 | .ptr id off => match h.at_ id with
  | .box _ cs _ => match partT P t cs off with
   | some v => rv v h
   | none => none
  | _ => none
 | .elt id i off => match h.at_ id with
  | .row _ T l _ => match partT P t (cellsT T (rd l i T.dflt)) off with
   | some v => rv v h
   | none => none
  | .mat _ T l _ _ ver none => match partT P t (cellsN id i ver T 0 (rd l i T.dflt)) off with
   | some v => rv v h
   | none => none
  | _ => none
 | .elt2 id i pos j off ver => match h.at_ id with
  | .mat _ T l _ _ ver' none => if ver' = ver then match getN T pos (rd l i T.dflt) with
    | some ⟨u, c⟩ => match partT P t (cellsT u (rd c j u.dflt)) off with
     | some v => rv v h
     | none => none
    | none => none
   else none
  | _ => none
 | .dptr cs => match partT P t cs 0 with
  | some v => rv v h
  | none => none
 | _ => none

def tstore (P : Program) (t : TypeId) (x v : TV) (h : THp) : Option (List Bool × THp) :=
 match x with
 | .ptr b off => match h.at_ b with
  | .box w cs tid => match sizeOf? P t with
   | some n => if v.cells.length = n ∧ off + n ≤ cs.length ∧ v.cells.all (tvOne h) = true ∧ ((w.drop off).take n).all id = true ∧ off + n ≤ w.length then some ([], h.set b (.box w (spliceT cs off v.cells) tid)) else none
   | none => none
  | _ => none
 | .elt id i off => match h.at_ id with
  | .row true T l tid => match sizeOf? P t with
   | some n => if v.cells.length = n ∧ off + n ≤ T.size ∧ ownIds v.cells = [] ∧ v.cells.all (tvOne h) = true then
     match decC h T (spliceT (cellsT T (rd l i T.dflt)) off v.cells) with
     | some (x, []) => some ([], h.set id (.row true T (put l i x) tid))
     | _ => none
    else none
   | none => none
  | .mat true T l tid nt ver hole => match sizeOf? P t with
   | some n => if v.cells.length = n ∧ off + n ≤ T.size ∧ v.cells.all (tvOne h) = true ∧ (hole = none ∨ n = T.size) then
     match absV h nt id i ver T (spliceT (cellsN id i ver T 0 (rd l i T.dflt)) off v.cells) with
     | some (x, k, a) => if nodupN (id :: a.map (·.2)) then some ((match hole with
       | none => k
       | some i0 => eqn i0 i :: k), (killN h (a.map (·.2))).set id (.mat true T (put l i x) tid nt (ver + 1) none)) else none
     | _ => none
    else none
   | none => none
  | _ => none
 | .elt2 id i pos j off ver => match h.at_ id with
  | .mat true T l tid nt ver' none => if ver' = ver then match getN T pos (rd l i T.dflt) with
    | some ⟨u, c⟩ => match sizeOf? P t with
     | some n => if v.cells.length = n ∧ off + n ≤ u.size ∧ ownIds v.cells = [] ∧ v.cells.all (tvOne h) = true then
       match decC h u (spliceT (cellsT u (rd c j u.dflt)) off v.cells) with
       | some (x, []) => match setN T pos u (put c j x) (rd l i T.dflt) with
        | some y => some ([], h.set id (.mat true T (put l i y) tid nt ver none))
        | none => none
       | _ => none
      else none
     | none => none
    | none => none
   else none
  | _ => none
 | _ => none

def newBox (t : TypeId) (v : TV) (h : THp) : Res :=
 if v.cells.all (tvOne h) = true then rv (.ptr h.os.length 0) (h.push (.box (v.cells.map fun _ => true) v.cells t)) else none

def selfTy (P : Program) (e : TypeId) (z : Value) : Option TypeId :=
 match P.underlying e, z.cells.toList with
 | some (.struct fs), [.pointer none, .slice none 0 0] => match fs.toList with
  | [f0, f1] => match P.underlying f0.type, P.underlying f1.type with
   | some (.pointer e'), some (.slice eb) => if e' = e then some eb else none
   | _, _ => none
  | _ => none
 | _, _ => none
def newSelf (e eb : TypeId) (h : THp) : Res :=
 rv (.ptr (h.os.length + 1) 0) ((h.push (.row true (.int .u8) [] eb)).push (.box [true, true] [.nilOr (h.os.length + 1) true, .buf h.os.length] e))
def fillLT (place : Nat → Option (Nat × Nat)) : List TV → List (Nat × TV) → Option (List TV)
 | cells, [] => some cells
 | cells, (i, v) :: rest =>
  match place i with
  | none => none
  | some (off, size) => if v.cells.length ≠ size ∨ cells.length < off + v.cells.length then none else fillLT place (spliceT cells off v.cells) rest
def tbuild (P : Program) (t : TypeId) (parts : List (Nat × TV)) (h : THp) : Option TV :=
 if (parts.all fun p => p.2.cells.all (tvOne h)) = false then none else
 match zero? P t, P.underlying t with
 | some (.agg z), some (.struct fs) => match fieldPlaces P fs.toList with
  | some pl => match fillLT (pl[·]?) (z.toList.map tvV1) parts with
   | some c => some (.agg c)
   | none => none
  | none => none
 | _, _ => none

def decEach (h : THp) (t : Ty) : List TV → Option (List t.den)
 | [] => some []
 | v :: r => match decV h t v with
  | some x => match decEach h t r with
   | some l => some (x :: l)
   | none => none
  | none => none
def absEach (h : THp) (nt : List Nat) (id : Nat) (T : Ty) : Nat → List TV → Option (List T.den × List (Nat × Nat × Nat))
 | _, [] => some ([], [])
 | k, v :: r => match v, T.isSt with
  | .agg cs, true => match absV h nt id k 0 T cs, absEach h nt id T (k + 1) r with
   | some (x, [], a), some (l, b) => some (x :: l, a.map (fun p => (k, p.1, p.2)) ++ b)
   | _, _ => none
  | .agg _, false | _, true => none
  | v, false => match absV h nt id k 0 T [v], absEach h nt id T (k + 1) r with
   | some (x, [], a), some (l, b) => some (x :: l, a.map (fun p => (k, p.1, p.2)) ++ b)
   | _, _ => none
def hasOwn (h : THp) (cs : List TV) : Bool := cs.any fun v => match v with
 | .own id => match h.at_ id with
  | .row true _ _ _ => true
  | _ => false
 | _ => false
def matOn (h : THp) : Bool := match h.os with
 | .hid _ _ _ _ :: _ => true
 | _ => false
def mat0 (mo : Bool) : List TObj := match mo with
 | true => [.hid .unit 0 [] 0]
 | false => []
def tbuildMat (P : Program) (e : TypeId) (T : Ty) (vs : List TV) (h : THp) : Res :=
 if matOn h && hasOwn h (vs.flatMap (·.cells)) then match absEach h (ntOf P 12 e) h.os.length T 0 vs with
  | some (l, a) => if nodupN (a.map (·.2.2)) then rv (.own h.os.length) ((killN h (a.map (·.2.2))).push (.mat true T l e (ntOf P 12 e) 0 none)) else none
  | none => none
 else none
def tbuildSlice (P : Program) (t : TypeId) (len : Nat) (parts : List (Nat × TV)) (h : THp) : Res :=
 match P.underlying t with
 | some (.slice e) => match elemTy P e with
  | some T => if parts.map (·.1) = List.range len ∧ len * T.size ≤ 2 ^ 24 ∧ zeroOk P e T = true then
    match tbuildMat P e T (parts.map (·.2)) h with
    | some r => some r
    | none =>
    match freeze h (ownIds (parts.flatMap (·.2.cells))) with
    | some h' => match decEach h' T (parts.map fun p => unN h p.2) with
     | some l => rv (.own h'.os.length) (h'.push (.row true T l e))
     | none => none
    | none => none
   else none
  | none => none
 | _ => none

def tmakeSlice (P : Program) (t : TypeId) (len cap : TV) (h : THp) : Res :=
 match P.underlying t, len, cap with
 | some (.slice e), .int _ l, .int _ c => match elemTy P e, bytesOf? P e with
  | some T, some by_ => if zeroOk P e T then some ([rg 0 l c, le c (2 ^ 48), le (ml by_ c) (2 ^ 48)], .own h.os.length, h.push (if T.flat || !matOn h then .row true T (rept (tn l) T.dflt) e else .mat true T (rept (tn l) T.dflt) e (ntOf P 12 e) 0 none)) else none
  | _, _ => none
 | _, _, _ => none

def bnd (d : Int) : Option TV → Option Int
 | none => some d
 | some (.int _ n) => some n
 | _ => none
def addN (o l : Nat) : Nat := match o with
 | 0 => l
 | o => nadd o l
def lowN : Option TV → Nat
 | some (.int _ n) => tn n
 | _ => 0
def subN (lo : Option TV) (r : Int) : Nat := match lo with
 | some (.int _ n) => nsub (tn r) (tn n)
 | _ => tn r
def tslice (P : Program) (t : TypeId) (x : TV) (lo hi mx : Option TV) (h : THp) : Res :=
 match P.underlying t, mx with
 | some .string, none => match x with
  | .str s => match bnd 0 lo, bnd (ni (len s)) hi with
   | some l, some r => ck (rg l r (ni (len s))) (.str (cut s (lowN lo) (subN lo r))) h
   | _, _ => none
  | _ => none
 | some (.slice e), none => match elemTy P e with
  | some T => match x with
   | .deep T' l => if T' = T then match bnd 0 lo, bnd (ni (len l)) hi with
     | some a, some r => ck (rg a r (ni (len l))) (.deep T' (cut l (lowN lo) (subN lo r))) h
     | _, _ => none
    else none
   | .nilS => match bnd 0 lo, bnd 0 hi with
    | some a, some r => some ([eq a 0, eq r 0], .nilS, h)
    | _, _ => none
   | .own id => match h.at_ id with
    | .row _ T' l _ => if T' = T then match bnd 0 lo, bnd (ni (len l)) hi with
      | some a, some r => ck (rg a r (ni (len l))) (.sub id (lowN lo) (subN lo r)) h
      | _, _ => none
     else none
    | .fro T' l => if T' = T then match bnd 0 lo, bnd (ni (len l)) hi with
      | some a, some r => ck (rg a r (ni (len l))) (.deep T' (cut l (lowN lo) (subN lo r))) h
      | _, _ => none
     else none
    | _ => none
   | .nest id i pos ver none => match lo, nestOf h (.nest id i pos ver none) with
    | none, some ⟨u, c⟩ => if u = T then match bnd (ni (len c)) hi with
      | some r => ck (rg 0 r (ni (len c))) (.nest id i pos ver (some (tn r))) h
      | none => none
     else none
    | _, _ => none
   | .sub id o n => match h.at_ id with
    | .row _ T' l _ => if T' = T then match bnd 0 lo, bnd (ni n) hi with
      | some a, some r => ck (rg a r (ni n)) (.sub id (addN o (lowN lo)) (subN lo r)) h
      | _, _ => none
     else none
    | _ => none
   | _ => none
  | none => none
 | _, _ => none

def tfieldAddr (P : Program) (s : TypeId) (x : TV) (field : Nat) (h : THp) : Option TV :=
 match P.underlying s with
 | some (.struct fs) => match fs[field]? with
  | some f => match sizeOf? P f.type with
   | some (_ + 1) => match x with
    | .ptr id off => some (.ptr id (off + f.offset))
    | .elt id i off => match h.at_ id with
     | .row _ _ _ _ => some (.elt id i (off + f.offset))
     | .mat _ _ _ _ _ _ none => some (.elt id i (off + f.offset))
     | _ => none
    | .elt2 id i pos j off ver => match h.at_ id with
     | .mat _ _ _ _ _ ver' none => if ver' = ver then some (.elt2 id i pos j (off + f.offset) ver) else none
     | _ => none
    | .dptr cs => if f.offset ≤ cs.length then some (.dptr (cs.drop f.offset)) else none
    | _ => none
   | _ => none
  | none => none
 | _ => none
def tfield (P : Program) (t : TypeId) (x : TV) (field : Nat) : Option TV :=
 match P.underlying t, x with
 | some (.struct fs), .agg cs => match fs[field]? with
  | some f => partT P f.type cs f.offset
  | none => none
 | _, _ => none

def tindexAddr (P : Program) (t : TypeId) (x i : TV) (h : THp) : Res :=
 match P.underlying t, i with
 | some (.slice e), .int _ n => match elemTy P e with
  | some T => match x with
   | .deep T' l => if T' = T then ck (ix n (ni (len l))) (.dptr (cellsT T' (rd l (tn n) T'.dflt))) h else none
   | .nilS => none
   | .own id => match h.at_ id with
    | .row _ T' l _ => if T' = T then ck (ix n (ni (len l))) (.elt id (tn n) 0) h else none
    | .fro T' l => if T' = T then ck (ix n (ni (len l))) (.dptr (cellsT T' (rd l (tn n) T'.dflt))) h else none
    | .mat _ T' l _ _ _ none => if T' = T then ck (ix n (ni (len l))) (.elt id (tn n) 0) h else none
    | _ => none
   | .nest id i pos ver ct => match nestOf h (.nest id i pos ver ct) with
    | some ⟨u, c⟩ => if u = T then ck (ix n (ni (len c))) (.elt2 id i pos (tn n) 0 ver) h else none
    | none => none
   | .sub id o m => match h.at_ id with
    | .row _ T' l _ => if T' = T then ck (ix n (ni m)) (.elt id (addN o (tn n)) 0) h else none
    | _ => none
   | _ => none
  | none => none
 | _, _ => none
def tindexArr (P : Program) (t : TypeId) (x : TV) (c : Option Int) (i : TV) (h : THp) : Res :=
 match P.underlying t, i with
 | some (.array k e), .int _ n => match elemTy P e with
  | some T => match x, c with
   | .ptr id off, some (.ofNat c) => if c < k then rv (.ptr id (off + c * T.size)) h else none
   | .dptr cs, some (.ofNat c) => if c < k ∧ c * T.size ≤ cs.length then rv (.dptr (cs.drop (c * T.size))) h else none
   | .dptr cs, none => if ownIds cs = [] then match decN h T k cs with
    | some l => ck (ix n k) (.dptr (cellsT T (rd l (tn n) T.dflt))) h
    | none => none
    else none
   | _, _ => none
  | none => none
 | _, _ => none
where decN (h : THp) (T : Ty) : Nat → List TV → Option (List T.den)
 | 0, _ => some []
 | k + 1, cs => match decC h T cs with
  | some (x, r) => match decN h T k r with
   | some l => some (x :: l)
   | none => none
  | none => none
def constI : Operand → Option Int
 | .const (.int _ n) => some n
 | _ => none
def tindex (P : Program) (t : TypeId) (x i : TV) (h : THp) : Res :=
 match P.underlying t, x, i with
 | some .string, .str s, .int _ n => ck (ix n (ni (len s))) (.int .u8 (byt (rd s (tn n) 0))) h
 | _, _, _ => none

def tlenOf (h : THp) : TV → Option Nat
 | .nilS => some 0
 | .deep _ l => some (len l)
 | .own id => match h.at_ id with
  | .row _ _ l _ => some (len l)
  | .fro _ l => some (len l)
  | .mat _ _ l _ _ _ none => some (len l)
  | _ => none
 | .nest id i pos ver ct => match nestOf h (.nest id i pos ver ct) with
  | some ⟨_, c⟩ => some (len c)
  | none => none
 | .sub id _ n => match h.at_ id with
  | .row _ _ _ _ => some n
  | _ => none
 | .buf id => match h.at_ id with
  | .row _ _ l _ => some (len l)
  | _ => none
 | _ => none
def tlen (P : Program) (ts : List TypeId) (args : List TV) (h : THp) : Res :=
 match ts, args with
 | t :: _, x :: _ => match P.underlying t with
  | some .string => match x with
   | .str s => rv (.int .i64 (ni (len s))) h
   | _ => none
  | some (.slice _) => match tlenOf h x with
   | some n => rv (.int .i64 (ni n)) h
   | none => none
  | some (.array n _) => rv (.int .i64 n) h
  | some (.pointer arr) => match P.underlying arr with
   | some (.array n _) => rv (.int .i64 n) h
   | _ => none
  | _ => none
 | _, _ => none

def newOf (P : Program) (T : Ty) (u : TypeDesc) (x : TV) (h : THp) : Option (List T.den) :=
 match u with
 | .string => match x, T with
  | .str s, .int .u8 => some (byts s)
  | _, _ => none
 | .slice _ => match nestOf h x with
  | some ⟨u, c⟩ => castL T c
  | none => decS h T x
 | _ => none
def lim (by_ : Nat) : Nat := 2 ^ 47 / by_
def notAt (id : Nat) : TV → Bool
 | .own i | .sub i _ _ | .nest i _ _ _ _ => i != id
 | _ => true
def tappMat (P : Program) (e : TypeId) (T : Ty) (by_ : Nat) (s : TV) (ud : TypeDesc) (x : TV) (h : THp) : Res :=
 match ud, x with
 | .slice _, .own idx => match h.at_ idx with
  | .mat true T' new tid' nt' _ none => if tid' = e ∧ nt' = ntOf P 12 e then match castL T new with
    | some new' => match s with
     | .nilS => ck (fits 0 (len new') (lim by_)) (.own h.os.length) ((h.set idx .dead).push (.mat true T new' e (ntOf P 12 e) 0 none))
     | .own id => if id = idx then none else match h.at_ id with
      | .mat true T2 l tid nt _ none => if tid = e ∧ nt = ntOf P 12 e then match castL T l with
        | some l' => ck (fits (len l') (len new') (lim by_)) (.own h.os.length) (((h.set id .dead).set idx .dead).push (.mat true T (app l' new') e (ntOf P 12 e) 0 none))
        | none => none
       else none
      | _ => none
     | _ => none
    | none => none
   else none
  | _ => none
 | _, _ => none
def tappNest (P : Program) (e : TypeId) (T : Ty) (by_ : Nat) (s : TV) (ud : TypeDesc) (x : TV) (h : THp) : Res :=
 match s with
 | .nest id i 0 ver none => if notAt id x then match h.at_ id with
  | .mat true (.slice u) l tid nt ver' none => if ver' = ver ∧ nt.getD 0 0 = e then match castL T (rd l i []), newOf P T ud x h with
    | some c, some new => ck (fits (len c) (len new) (lim by_)) (.own h.os.length) ((h.set id (.mat true (.slice u) l tid nt (ver + 1) (some i))).push (.row true T (app c new) e))
    | _, _ => none
   else none
  | _ => none
  else none
 | _ => none
def tappend (P : Program) (ts : List TypeId) (args : List TV) (h : THp) : Res :=
 match ts, args with
 | t :: u :: _, s :: x :: _ => match P.underlying t, P.underlying u with
  | some (.slice e), some ud => match elemTy P e, bytesOf? P e with
   | some T, some (by_ + 1) => if zeroOk P e T then (match tappMat P e T (by_ + 1) s ud x h, tappNest P e T (by_ + 1) s ud x h with
    | some r, _ => some r
    | none, some r => some r
    | none, none => match s, ud, x with
    | .nilS, .int _, .int .i64 n => some ([lt 0 n, fits 0 (tn n) (lim (by_ + 1))], .own h.os.length, h.push (.row true T (rept (tn n) T.dflt) e))
    | s, ud, x => match newOf P T ud x h with
     | some new => match s with
      | .nilS => ck (fits 0 (len new) (lim (by_ + 1))) (.own h.os.length) (h.push (.row true T new e))
      | .own id => if notAt id x then match h.at_ id with
       | .row true T' l tid => if tid = e then match castL T l with
         | some l' => ck (fits (len l') (len new) (lim (by_ + 1))) (.own h.os.length) ((h.set id .dead).push (.row true T (app l' new) e))
         | none => none
        else none
       | _ => none
       else none
      | .buf id => if notAt id x then match h.at_ id with
       | .row true T' l tid => if tid = e then match castL T l with
         | some l' => ck (fits (len l') (len new) (lim (by_ + 1))) (.buf h.os.length) ((h.set id .dead).push (.row true T (app l' new) e))
         | none => none
        else none
       | _ => none
       else none
      | .sub id 0 n => if notAt id x then match h.at_ id with
       | .row true T' l tid => if tid = e then match castL T l with
         | some l' => ck (fits n (len new) (lim (by_ + 1))) (.own h.os.length) ((h.set id .dead).push (.row true T (app (cut l' 0 n) new) e))
         | none => none
        else none
       | _ => none
       else none
      | _ => none
     | none => none) else none
   | _, _ => none
  | _, _ => none
 | _, _ => none

def intBin (op : BinOp) (k : IntKind) (m n : Int) : Option (List Bool × TV) :=
 match op with
 | .add => some ([], .int k (wr k (ad m n)))
 | .sub => some ([], .int k (wr k (sb m n)))
 | .mul => some ([], .int k (wr k (ml m n)))
 | .quo => some ([ne n 0], .int k (wr k (dv m n)))
 | .rem => some ([ne n 0], .int k (md m n))
 | .and => some ([], .int k (band k m n))
 | .or => some ([], .int k (bor k m n))
 | .xor => some ([], .int k (bxor k m n))
 | .andNot => some ([], .int k (bandn k m n))
 | .eql => some ([], .bool (.v (eq m n)))
 | .neq => some ([], .bool (.v (ne m n)))
 | .lss => some ([], .bool (.v (lt m n)))
 | .leq => some ([], .bool (.v (le m n)))
 | .gtr => some ([], .bool (.v (lt n m)))
 | .geq => some ([], .bool (.v (le n m)))
 | .shl | .shr => none
def andL : List Bool → Bool
 | [] => true
 | [a] => a
 | a :: b :: r => ba a (andL (b :: r))
def fieldEqs (P : Program) (xs ys : List TV) : List Field → Option (List Bool)
 | [] => some []
 | f :: r => if f.name = "_" then none else match P.underlying f.type, isAgg? P f.type, xs[f.offset]?, ys[f.offset]?, fieldEqs P xs ys r with
  | some (.int _), some false, some (.int k m), some (.int k' n), some l => if k = k' then some (eq m n :: l) else none
  | some .bool, some false, some (.bool a), some (.bool b), some l => some (bq a.get b.get :: l)
  | some .string, some false, some (.str a), some (.str b), some l => some (sq a b :: l)
  | _, _, _, _, _ => none
def flatT : TV → Bool
 | .int _ _ | .bool _ | .str _ => true
 | _ => false
def aggEq (P : Program) (t : TypeId) (xs ys : List TV) : Option Bool :=
 match P.underlying t with
 | some (.struct fs) => if P.stoodInHeld t || P.eqGuardType P.depth t || !(xs.all flatT && ys.all flatT) then none else match fieldEqs P xs ys fs.toList with
  | some l => some (andL l)
  | none => none
 | _ => none
def tbin (P : Program) (op : BinOp) (t : TypeId) (x y : TV) (h : THp) : Res :=
 match x, y with
 | .int k m, .int k' n => if op = .shl then ck (le 0 n) (.int k (wr k (shl k m n))) h else if op = .shr then ck (le 0 n) (.int k (shr k m n)) h else if k' = k then match intBin op k m n with
   | some (c, v) => some (c, v, h)
   | none => none
  else none
 | .bool a, .bool b => match P.underlying t with
  | some .bool => match op with
   | .eql => rv (.bool (.v (bq a.get b.get))) h
   | .neq => rv (.bool (.v (nt (bq a.get b.get)))) h
   | _ => none
  | _ => none
 | .str a, .str b => match op with
  | .add => ck (fits (len a) (len b) 9223372036854775807) (.str (app a b)) h
  | .eql => rv (.bool (.v (sq a b))) h
  | .neq => rv (.bool (.v (nt (sq a b)))) h
  | .lss => rv (.bool (.v (slt a b))) h
  | .geq => rv (.bool (.v (nt (slt a b)))) h
  | _ => none
 | .agg a, .agg b => match op with
  | .eql => match aggEq P t a b with
   | some r => rv (.bool (.v r)) h
   | none => none
  | .neq => match aggEq P t a b with
   | some r => rv (.bool (.v (nt r))) h
   | none => none
  | _ => none
 | .nilP, .nilP => match P.underlying t with
  | some (.pointer _) => match op with
   | .eql => rv (.bool .t) h
   | .neq => rv (.bool .f) h
   | _ => none
  | _ => none
 | .ptr id off, .ptr id' off' => match P.underlying t with
  | some (.pointer e) => match sizeOf? P e with
   | some (_ + 1) => if id = id' ∧ off = off' then match op with
    | .eql => rv (.bool .t) h
    | .neq => rv (.bool .f) h
    | _ => none
    else none
   | _ => none
  | _ => none
 | .ptr _ _, .nilP | .nilP, .ptr _ _ => match P.underlying t with
  | some (.pointer _) => match op with
   | .eql => rv (.bool .f) h
   | .neq => rv (.bool .t) h
   | _ => none
  | _ => none
 | .nilOr id b, .nilP => match P.underlying t with
  | some (.pointer _) => match op with
   | .eql => rv (.bool (.v b)) h
   | .neq => rv (.bool (.v (nt b))) h
   | _ => none
  | _ => none
 | .nilOr id b, .ptr id' off' => match P.underlying t with
  | some (.pointer e) => match sizeOf? P e with
   | some (_ + 1) => if id = id' ∧ off' = 0 then match op with
    | .eql => rv (.bool (.v (nt b))) h
    | .neq => rv (.bool (.v b)) h
    | _ => none
    else none
   | _ => none
  | _ => none
 | .func _ _ _, .nilF => match P.underlying t with
  | some (.func _ _ _) => match op with
   | .eql => rv (.bool .f) h
   | .neq => rv (.bool .t) h
   | _ => none
  | _ => none
 | _, _ => none
def tun (op : UnOp) (x : TV) (h : THp) : Res :=
 match op, x with
 | .not, .bool b => rv (.bool b.not) h
 | .neg, .int k n => rv (.int k (wr k (ng n))) h
 | _, _ => none
def tconvert (P : Program) (s d : TypeId) (x : TV) (h : THp) : Res :=
 match P.underlying s, P.underlying d, x with
 | some (.int _), some (.int k), .int _ n => rv (.int k (wr k n)) h
 | some .string, some .string, .str s => rv (.str s) h
 | some (.int _), some .string, .int _ n => rv (.str (runs n)) h
 | some .string, some (.slice e), .str s => match P.underlying e, sizeOf? P e with
  | some (.int .u8), some 1 => ck (fits 0 (len s) 140737488355328) (.own h.os.length) (h.push (.row true (.int .u8) (byts s) e))
  | _, _ => none
 | some (.slice e), some .string, x => match P.underlying e with
  | some (.int .u8) => match decS h (.int .u8) x with
   | some l => ck (isb l) (.str (bstr l)) h
   | none => none
  | _ => none
 | some (.pointer t), some .unsafePointer, .ptr id 0 => match h.at_ id, sizeOf? P t with
  | .box _ (_ :: _) _, some (_ + 1) => rv (.ptr id 0) h
  | _, _ => none
 | some .unsafePointer, some (.pointer u), .ptr id 0 => match h.at_ id, sizeOf? P u with
  | .box _ cs tid, some (n + 1) => if tid = u ∧ n + 1 ≤ cs.length then rv (.ptr id 0) h else none
  | _, _ => none
 | _, _, _ => none

def ev1 (gl : Nat → Option (List TV)) (env : List TV) : Operand → TV
 | .tmp t => env.getD t .junk
 | .const v => tvV v
 | .global g => match gl g with
  | some cs => .dptr cs
  | none => .junk
 | .func f => .func f [] []

def tbuiltin (P : Program) (b : Builtin) (ts : List TypeId) (args : List TV) (h : THp) : Res :=
 match b with
 | .len => tlen P ts args h
 | .append => tappend P ts args h
 | .cap => match ts, args with
  | t :: _, .nilS :: _ => match P.underlying t with
   | some (.slice _) => rv (.int .i64 0) h
   | _ => none
  | _, _ => none
 | .unsafeSliceData => match args with
  | [.buf id] => match h.at_ id with
   | .row _ (.int .u8) _ _ => rv (.sdat id) h
   | _ => none
  | _ => none
 | .unsafeString => match ts, args with
  | [pt, _], [.sdat id, .int .i64 n] => match h.at_ id, P.underlying pt with
   | .row true (.int .u8) l tid, some (.pointer e) => if tid = e ∧ sizeOf? P e = some 1 then some ([eq n (ni (len l)), isb l, fits 0 (len l) 4611686018427387904], .str (bstr l), h.set id .dead) else none
   | _, _ => none
  | _, _ => none
 | .min => match args with
  | [.int k m, .int k' n] => if k' = k then rv (.int k (mn m n)) h else none
  | _ => none
 | .max => match args with
  | [.int k m, .int k' n] => if k' = k then rv (.int k (mx m n)) h else none
  | _ => none
 | _ => none

inductive TN where
 | val (c : List Bool) (v : TV) (h : THp)
 | call (f : Nat) (args : List TV)
 | yld (id : Nat) (args : List TV)
def ofRes : Res → Option TN
 | some (c, v, h) => some (.val c v h)
 | none => none
def ofV (h : THp) : Option TV → Option TN
 | some v => some (.val [] v h)
 | none => none
def mapO (ρ : Operand → TV) : Option Operand → Option TV
 | some o => some (ρ o)
 | none => none
def top (P : Program) (o : Op) (ρ : Operand → TV) (h : THp) : Option TN :=
 match o with
 | .move x | .assign x => some (.val [] (ρ x) h)
 | .alloc e => match zero? P e with
  | some z => match selfTy P e z with
   | some eb => ofRes (newSelf e eb h)
   | none => ofRes (newBox e (tvV z) h)
  | none => none
 | .box e x => ofRes (newBox e (ρ x) h)
 | .build t parts => ofV h (tbuild P t (parts.toList.map fun p => (p.1, ρ p.2)) h)
 | .buildSlice t len parts => ofRes (tbuildSlice P t len (parts.toList.map fun p => (p.1, ρ p.2)) h)
 | .load t a => ofRes (tload P t (ρ a) h)
 | .store t a v => match tstore P t (ρ a) (ρ v) h with
  | some (c, h') => some (.val c .junk h')
  | none => none
 | .nilCheck x => match ρ x with
  | .ptr id off => some (.val [] (.ptr id off) h)
  | .elt id i off => none
  | .dptr cs => some (.val [] (.dptr cs) h)
  | .func f a b => some (.val [] (.func f a b) h)
  | _ => none
 | .binOp op t x y _ => ofRes (tbin P op t (ρ x) (ρ y) h)
 | .unOp op _ x => ofRes (tun op (ρ x) h)
 | .convert s d x => ofRes (tconvert P s d (ρ x) h)
 | .makeFunc (.func f) first cap => some (.val [] (.func f (first.toList.map ρ) (cap.toList.map ρ)) h)
 | .makeSlice t l c => ofRes (tmakeSlice P t (ρ l) (ρ c) h)
 | .slice t x lo hi mx => ofRes (tslice P t (ρ x) (mapO ρ lo) (mapO ρ hi) (mapO ρ mx) h)
 | .fieldAddr s x f => ofV h (tfieldAddr P s (ρ x) f h)
 | .field t x f => ofV h (tfield P t (ρ x) f)
 | .indexAddr t x i => match P.underlying t with
  | some (.array _ _) => ofRes (tindexArr P t (ρ x) (constI i) (ρ i) h)
  | _ => ofRes (tindexAddr P t (ρ x) (ρ i) h)
 | .index t x i => ofRes (tindex P t (ρ x) (ρ i) h)
 | .range t x => match P.underlying t, ρ x with
  | some .string, .str s => some (.val [] (.ptr h.os.length 0) (h.push (.iter true s 0)))
  | _, _ => none
 | .extract x i => match ρ x with
  | .tup vs => ofV h vs[i]?
  | _ => none
 | .call c => match c.callee with
  | .builtin b => ofRes (tbuiltin P b c.argTypes.toList (c.args.toList.map ρ) h)
  | .value f => match ρ f with
   | .func k first cap => some (.call k (first ++ c.args.toList.map ρ ++ cap))
   | .yld id => match h.at_ id with
    | .frame _ _ _ _ _ _ _ => some (.yld id (c.args.toList.map ρ))
    | _ => none
   | _ => none
  | .invoke _ _ => none
 | _ => none

inductive TTask where
 | fn (f : Nat)
 | yld (id : Nat)
abbrev Oc := (R : Type) → List Nat → TTask → List TV → THp → (TV → THp → Option R) → Option R

def putT (env : List TV) (d : Option Tmp) (v : TV) : List TV := match d with | some d => env.set d v | none => env

inductive TRec where
 | load (i : Nat) (id : Option Nat)
 | alloc (i id : Nat) (ch : List Nat)
 | effect (i n : Nat) (ch : List Nat)
def newDirty (h h' : THp) : List Nat := h'.dirty.take (h'.dirty.length - h.dirty.length)
def loadOk (P : Program) (t : TypeId) (v : TV) (h : THp) : Bool :=
 match isAgg? P t, v with
 | some true, .agg _ => true
 | some false, v => tvOne h v
 | _, _ => false
def trecOf (P : Program) (o : Oper) (i : Nat) (ρ : Operand → TV) (v : TV) (h h' : THp) : Option (List TRec) :=
 match okind P o.op with
 | .quiet => if (newDirty h h').isEmpty then some [] else none
 | .load => match o.op with
  | .load t x => if loadOk P t v h' && (newDirty h h').isEmpty then match ρ x with
    | .ptr id _ => match h.at_ id with
     | .box _ _ _ => some [.load i (some id)]
     | _ => none
    | .elt id _ _ => match h.at_ id with
     | .row _ _ _ _ | .mat _ _ _ _ _ _ _ => some [.load i (some id)]
     | _ => none
    | .elt2 id i0 pos _ _ ver => match nestOf h (.nest id i0 pos ver none) with
     | some _ => some [.load i (some id)]
     | none => none
    | .dptr _ => some [.load i none]
    | _ => none
   else none
  | _ => none
 | .alloc => match v with
  | .ptr id 0 => if id = h.os.length then some [.alloc i id (newDirty h h')] else none
  | .own id => match h'.at_ id with
   | .row _ _ _ _ | .mat _ _ _ _ _ _ _ => if id = h.os.length then some [.alloc i id (newDirty h h')] else none
   | _ => none
  | _ => none
 | .effect => some [.effect i h.os.length (newDirty h h')]
def chOk (rs : List TRec) (lo hi x : Nat) : Bool :=
 rs.all fun z => match z with
  | .effect q _ ch | .alloc q _ ch => !(decide (lo ≤ q) && decide (q ≤ hi)) || !ch.contains x
  | .load _ _ => true
def pairOk (A : Nat → Nat → Bool) (rs : List TRec) (k n : Nat) (y : TRec) : Bool :=
 match y with
 | .load i (some id) => A i k || A k i || ((decide (i < k) || decide (id < n)) && chOk rs (min i k) (max i k) id)
 | .load i none => A i k || A k i || decide (i < k) || chOk rs k i gmark
 | .alloc i id _ => decide (k < i) || A i k || chOk rs i k id
 | .effect _ _ _ => true
def trecsG (A : Nat → Nat → Bool) (rs : List TRec) : Bool :=
 rs.all fun x => match x with
  | .effect k n _ => rs.all (pairOk A rs k n)
  | _ => true
noncomputable def trecsOk (ops : Array Oper) (rs : List TRec) : Bool := (fun ms => trecsG (ancF ms) rs) (masks ops.toList [])

def guardSlot (ops : Array Oper) (o : Oper) : Option (Option (Nat × Bool)) :=
 match o.guard with
 | none => some none
 | some (j, b) => match ops[j]? with
  | some p => match p.dst with
   | some d => some (some (d, b))
   | none => none
  | none => none

def gd {R : Type} (b : Bool) (c : SB) (x y : Option R) : Option R := match b with
 | true => brB c x y
 | false => brB c y x
noncomputable section
variable (P : Program) (gl : Nat → Option (List TV)) (cf : Oc)
def tmOp {R : Type} (ctx : List Nat) (o : Oper) (env : List TV) (h : THp) (k : TV → THp → Option R) : Option R :=
 match o.op with
 | .pick c a b => match ev1 gl env c with
  | .bool c => brB c (k (ev1 gl env a) h) (k (ev1 gl env b) h)
  | _ => none
 | .next x true => match ev1 gl env x with
  | .ptr id 0 => match h.at_ id with
   | .iter true s pos => br (nlt pos (len s)) (k (.tup [.bool .t, .int .i64 (ni pos), .int .i32 (rune s pos)]) (h.set id (.iter true s (nadd pos (runw s pos))))) (k (.tup [.bool .f]) h)
   | _ => none
  | _ => none
 | op => match top P op (ev1 gl env) h with
  | some (.val c v h') => brs c (k v h')
  | some (.call f args) => cf R ctx (.fn f) args h k
  | some (.yld id args) => cf R ctx (.yld id) args h k
  | none => none
def tmOps {R : Type} (ctx : List Nat) (ops : Array Oper) (draw : Bool) (n0 : Nat) : List Oper → Nat → List TV → THp → List TRec → (List TV → THp → Option R) → Option R
 | [], _, env, h, rs, k => if draw then (if trecsOk ops rs then k env h else none) else k env h
 | o :: r, i, env, h, rs, k =>
  match guardSlot ops o with
  | none => none
  | some none => tmOp P gl cf ctx o env h fun v h' => match (if draw then trecOf P o i (ev1 gl env) v h h' else some []) with
    | some l => tmOps ctx ops draw n0 r (i + 1) (putT env o.dst v) h' (l ++ rs) k
    | none => none
  | some (some (d, b)) => match env.getD d .junk with
   | .bool c => gd b c
     (tmOp P gl cf ctx o (env.set d (.bool (.of b))) h fun v h' => match (if draw then trecOf P o i (ev1 gl (env.set d (.bool (.of b)))) v h h' else some []) with
      | some l => tmOps ctx ops draw n0 r (i + 1) (putT (env.set d (.bool (.of b))) o.dst v) h' (l ++ rs) k
      | none => none)
     (tmOps ctx ops draw n0 r (i + 1) (putT (env.set d (.bool (.of (!b)))) o.dst (.tup [])) h rs k)
   | .tup [] => tmOps ctx ops draw n0 r (i + 1) (putT env o.dst (.tup [])) h rs k
   | _ => none
end

inductive Sv where
 | int (k : IntKind) | bool | str | deep (t : Ty)
@[reducible] def Sv.den : Sv → Type
 | .int _ => Int
 | .bool => Bool
 | .str => List UInt8
 | .deep t => List t.den
def Sv.put : (s : Sv) → s.den → TV
 | .int k, n => .int k n
 | .bool, b => .bool (.v b)
 | .str, s => .str s
 | .deep t, l => .deep t l
def Sv.get : (s : Sv) → TV → Option s.den
 | .int k, .int k' n => if k' = k then some n else none
 | .bool, .bool b => some b.get
 | .str, .str s => some s
 | .deep t, .deep t' l => castL t l
 | .deep t, .nilS => some []
 | _, _ => none
inductive Sh where
 | val (i : Nat) (s : Sv)
 | cell (p : List Nat) (j : Nat) (s : Sv)
 | own (i : Nat) (t : Ty) (tid : Nat)
 | ownC (p : List Nat) (j : Nat) (t : Ty) (tid : Nat)
 | iter (p : List Nat)
 | selfp (p : List Nat) (j : Nat)
 | bufC (p : List Nat) (j : Nat) (tid : Nat)
 | ownM (i : Nat) (t : Ty) (tid : Nat) (nt : List Nat)
 | ownMC (p : List Nat) (j : Nat) (t : Ty) (tid : Nat) (nt : List Nat)
 | matS (i : Nat)
 | matC (p : List Nat) (j : Nat)
inductive RSh where
 | val (i : Nat) (s : Sv)
 | cell (id j : Nat) (s : Sv)
 | own (i : Nat) (t : Ty) (tid : Nat)
 | ownC (id j : Nat) (t : Ty) (tid : Nat)
 | iter (id : Nat) (s : List UInt8)
 | selfp (id j : Nat)
 | bufC (id j : Nat) (tid : Nat)
 | ownM (i : Nat) (t : Ty) (tid : Nat) (nt : List Nat)
 | ownMC (id j : Nat) (t : Ty) (tid : Nat) (nt : List Nat)
 | mat (id : Nat) (t : Ty) (tid : Nat) (nt : List Nat) (ver : Nat)
@[reducible] def RSh.den : RSh → Type
 | .val _ s | .cell _ _ s => s.den
 | .own _ t _ | .ownC _ _ t _ | .ownM _ t _ _ | .ownMC _ _ t _ _ | .mat _ t _ _ _ => List t.den
 | .iter _ _ => Nat
 | .selfp _ _ => Bool
 | .bufC _ _ _ => List Int
@[reducible] def St : List RSh → Type
 | [] => Unit
 | x :: r => x.den × St r

structure TS where
 env : List TV
 os : List TObj
def setCell (os : List TObj) (id j : Nat) (v : TV) : List TObj :=
 match os.getD id .dead with
 | .box w cs tid => os.set id (.box w (cs.set j v) tid)
 | _ => os
def fill1 : (x : RSh) → x.den → TS → TS
 | .val i s, v, e => ⟨e.env.set i (s.put v), e.os⟩
 | .cell id j s, v, e => ⟨e.env, setCell e.os id j (s.put v)⟩
 | .own i t tid, l, e => ⟨e.env.set i (.own e.os.length), e.os ++ [.row true t l tid]⟩
 | .ownC id j t tid, l, e => ⟨e.env, setCell e.os id j (.own e.os.length) ++ [.row true t l tid]⟩
 | .iter id s, n, e => ⟨e.env, e.os.set id (.iter true s n)⟩
 | .selfp id j, b, e => ⟨e.env, setCell e.os id j (.nilOr id b)⟩
 | .bufC id j tid, l, e => ⟨e.env, setCell e.os id j (.buf e.os.length) ++ [.row true (.int .u8) l tid]⟩
 | .ownM i t tid nt, l, e => ⟨e.env.set i (.own e.os.length), e.os ++ [.mat true t l tid nt 0 none]⟩
 | .ownMC id j t tid nt, l, e => ⟨e.env, setCell e.os id j (.own e.os.length) ++ [.mat true t l tid nt 0 none]⟩
 | .mat id t tid nt ver, l, e => ⟨e.env, e.os.set id (.mat true t l tid nt ver none)⟩
def fill : (l : List RSh) → St l → TS → TS
 | [], _, e => e
 | x :: r, v, e => fill r v.2 (fill1 x v.1 e)
def cellOf (os : List TObj) (id j : Nat) : TV :=
 match os.getD id .dead with
 | .box _ cs _ => cs.getD j .junk
 | _ => .junk
def walk (os : List TObj) : List TV → List Nat → Option Nat
 | _, [] => none
 | env, [i] => match env.getD i .junk with
  | .ptr id 0 => some id
  | _ => none
 | env, i :: j :: r => match env.getD i .junk with
  | .yld id => match os.getD id .dead with
   | .frame tmps _ _ _ _ _ _ => walk os tmps (j :: r)
   | _ => none
  | .func _ first cap => walk os (first ++ cap) (j :: r)
  | _ => none
def resM (os : List TObj) : TV → Option RSh
 | .own id => match os.getD id .dead with
  | .mat true t _ tid nt ver none => some (.mat id t tid nt ver)
  | _ => none
 | _ => none
def res1 (env : List TV) (os : List TObj) : Sh → Option RSh
 | .val i s => some (.val i s)
 | .own i t tid => some (.own i t tid)
 | .cell p j s => match walk os env p with
  | some id => some (.cell id j s)
  | none => none
 | .ownC p j t tid => match walk os env p with
  | some id => some (.ownC id j t tid)
  | none => none
 | .selfp p j => match walk os env p with
  | some id => some (.selfp id j)
  | none => none
 | .bufC p j tid => match walk os env p with
  | some id => some (.bufC id j tid)
  | none => none
 | .ownM i t tid nt => some (.ownM i t tid nt)
 | .ownMC p j t tid nt => match walk os env p with
  | some id => some (.ownMC id j t tid nt)
  | none => none
 | .matS i => resM os (env.getD i .junk)
 | .matC p j => match walk os env p with
  | some id => resM os (cellOf os id j)
  | none => none
 | .iter p => match walk os env p with
  | some id => match os.getD id .dead with
   | .iter true s _ => some (.iter id s)
   | _ => none
  | none => none
def resL (env : List TV) (os : List TObj) : List Sh → Option (List RSh)
 | [] => some []
 | x :: r => match res1 env os x with
  | some y => match resL env os r with
   | some l => some (y :: l)
   | none => none
  | none => none

def backO (os : List TObj) (t : Ty) (tid : Nat) : TV → Option (Option Nat × List t.den)
 | .own id => match os.getD id .dead with
  | .row true t' l tid' => if tid' = tid then match castL t l with
    | some l' => some (some id, l')
    | none => none
   else none
  | _ => none
 | .sub id 0 n => match os.getD id .dead with
  | .row true t' l tid' => if tid' = tid then match castL t l with
    | some l' => some (some id, cut l' 0 n)
    | none => none
   else none
  | _ => none
 | .nilS => some (none, [])
 | _ => none
def Sv.getO (os : List TObj) (s : Sv) (v : TV) : Option s.den :=
 match s, v with
 | .deep t, .own id => match os.getD id .dead with
  | .fro _ l => castL t l
  | _ => none
 | .deep t, .sub id lo n => match os.getD id .dead with
  | .fro _ l => castL t (cut l lo n)
  | _ => none
 | s, v => s.get v
def backM (os : List TObj) (t : Ty) (tid : Nat) (nt : List Nat) : TV → Option (Option Nat × List t.den)
 | .own id => match os.getD id .dead with
  | .mat true t' l tid' nt' _ none => if tid' = tid ∧ nt' = nt then match castL t l with
    | some l' => some (some id, l')
    | none => none
   else none
  | _ => none
 | .nilS => some (none, [])
 | _ => none
def backS (id : Nat) : TV → Option Bool
 | .nilOr i b => if i = id then some b else none
 | .ptr i 0 => if i = id then some false else none
 | _ => none
def backB (os : List TObj) (tid : Nat) : TV → Option (Nat × List Int)
 | .buf id => match os.getD id .dead with
  | .row true (.int .u8) l tid' => if tid' = tid then some (id, l) else none
  | _ => none
 | _ => none
def back1 (env : List TV) (os : List TObj) : (x : RSh) → Option (Option Nat × x.den)
 | .val i s => match s.getO os (env.getD i .junk) with
  | some v => some (none, v)
  | none => none
 | .cell id j s => match s.getO os (cellOf os id j) with
  | some v => some (none, v)
  | none => none
 | .own i t tid => backO os t tid (env.getD i .junk)
 | .ownC b j t tid => backO os t tid (cellOf os b j)
 | .selfp id j => match backS id (cellOf os id j) with
  | some b => some (none, b)
  | none => none
 | .bufC id j tid => match backB os tid (cellOf os id j) with
  | some (i, l) => some (some i, l)
  | none => none
 | .iter id s => match os.getD id .dead with
  | .iter true _ n => some (none, n)
  | _ => none
 | .ownM i t tid nt => backM os t tid nt (env.getD i .junk)
 | .ownMC b j t tid nt => backM os t tid nt (cellOf os b j)
 | .mat id t tid nt ver => match os.getD id .dead with
  | .mat true t' l tid' nt' ver' none => if tid' = tid ∧ nt' = nt ∧ ver' = ver then match castL t l with
    | some l' => some (none, l')
    | none => none
   else none
  | _ => none
def backL (env : List TV) (os : List TObj) : (l : List RSh) → Option (List Nat × St l)
 | [] => some ([], ())
 | x :: r => match back1 env os x with
  | some (i, v) => match backL env os r with
   | some (ids, vs) => some (i.toList ++ ids, (v, vs))
   | none => none
  | none => none
def matsOf : List RSh → List Nat
 | [] => []
 | .mat id _ _ _ _ :: r => id :: matsOf r
 | _ :: r => matsOf r
def restOk : List TObj → List TObj → Bool
 | .frame _ _ _ _ st pend _ :: r, o :: s => (match o with
  | .frame _ _ _ _ st' pend' _ => st == st' && pend.isNone && pend'.isNone
  | _ => false) && restOk r s
 | _ :: r, _ :: s => restOk r s
 | _, _ => true
def back (l : List RSh) (env : List TV) (os : List TObj) : Option (List Nat × St l) :=
 match backL env os l with
 | some (ids, st) => if nodupN (matsOf l ++ ids) then some (ids, st) else none
 | none => none

def slotsOf : List RSh → List Nat
 | [] => []
 | .val i _ :: r | .own i _ _ :: r | .ownM i _ _ _ :: r => i :: slotsOf r
 | _ :: r => slotsOf r
def cellsOf (id : Nat) : List RSh → List Nat
 | [] => []
 | .cell b j _ :: r | .ownC b j _ _ :: r | .selfp b j :: r | .bufC b j _ :: r | .ownMC b j _ _ _ :: r => if b = id then j :: cellsOf id r else cellsOf id r
 | _ :: r => cellsOf id r
def itersOf : List RSh → List Nat
 | [] => []
 | .iter id _ :: r => id :: itersOf r
 | _ :: r => itersOf r
def mapI {α β : Type} (f : Nat → α → β) : Nat → List α → List β
 | _, [] => []
 | i, x :: r => f i x :: mapI f (i + 1) r
def tmplEnv (l : List RSh) (wr : List Nat) (env : List TV) : List TV :=
 mapI (fun i v => if wr.contains i || (slotsOf l).contains i then .junk else v) 0 env
def tmplObj (l : List RSh) (kill : List Nat) (id : Nat) : TObj → TObj
 | .row w t r tid => if kill.contains id then .dead else .row false t r tid
 | .mat w t r tid nt ver hole => if kill.contains id then .dead else if (matsOf l).contains id then .hid t tid nt ver else .mat false t r tid nt ver hole
 | .box w cs tid => .box (mapI (fun j b => b && (cellsOf id l).contains j) 0 w) (mapI (fun j v => if (cellsOf id l).contains j then .junk else v) 0 cs) tid
 | .iter w s n => if (itersOf l).contains id then .lost else .iter false s n
 | o => o
def varyOk (os : List TObj) : RSh → Bool
 | .cell id j _ | .ownC id j _ _ | .selfp id j | .bufC id j _ | .ownMC id j _ _ _ => match os.getD id .dead with
  | .box w _ _ => w.getD j false
  | _ => false
 | .mat id t tid nt ver => match os.getD id .dead with
  | .mat true t' _ tid' nt' ver' none => decide (t' = t ∧ tid' = tid ∧ nt' = nt ∧ ver' = ver)
  | _ => false
 | .iter id _ => match os.getD id .dead with
  | .iter true _ _ => true
  | _ => false
 | _ => true
def relock : TObj → TObj → TObj
 | .row w _ _ _, .row _ t l tid => .row w t l tid
 | .mat w _ _ _ _ _ _, .mat _ t l tid nt ver hole => .mat w t l tid nt ver hole
 | .box w _ _, .box _ cs tid => .box w cs tid
 | .iter w _ _, .iter _ s n => .iter w s n
 | _, o => o
def relockL : List TObj → List TObj → List TObj
 | a :: r, b :: s => relock a b :: relockL r s
 | _, s => s

def wrOps : List Oper → List Nat
 | [] => []
 | o :: r => match o.dst with
  | some d => d :: wrOps r
  | none => wrOps r
def wrC : Code → List Nat
 | .region _ ops _ => wrOps ops.toList
 | .seq a b | .cond _ a b => wrC a ++ wrC b
 | .block _ b | .loop b | .scope b => wrC b
 | _ => []
def joinKey : Operand → Nat
 | .tmp t => 1000000 + t
 | _ => 999999
def tell {X : Type} (l : List RSh) (os0 : List TObj) (env : List TV) (h : THp) (f : St l → X) : Option X :=
 match back l env h.os with
 | some (_, st) => if restOk os0 h.os then some (f st) else none
 | none => none
def headS (l : List RSh) (kill wr : List Nat) (env : List TV) (os : List TObj) (st : St l) : TS := fill l st ⟨tmplEnv l wr env, mapI (tmplObj l kill) 0 os⟩
def outH (h : THp) (os : List TObj) : THp := ⟨relockL h.os os, gmark :: (List.range os.length ++ h.dirty)⟩
abbrev It := (σ R : Type) → (σ → Option (σ ⊕ R)) → σ → Option R
def itS : It := fun _ _ f s => iterS f s
def itF : Nat → It
 | 0, _, _, _, _ => none
 | n + 1, σ, R, f, s => match f s with
  | some (.inl s') => itF n σ R f s'
  | some (.inr r) => some r
  | none => none
noncomputable section
variable (P : Program) (gl : Nat → Option (List TV)) (ann : List Nat → Nat → Option (List Sh)) (cf : Oc) (it : It)
def tmCode (ctx : List Nat) : (c : Code) → (R : Type) → Nat → List TV → THp → (AEx → List TV → THp → Option R) → Option R
 | .skip, R, _, env, h, k | .label _, R, _, env, h, k => k .normal env h
 | .region _ ops draw, R, _, env, h, k => if draw then (if drawOkF P ops then tmOps P gl cf ctx ops true h.os.length ops.toList 0 env h [] (k .normal) else none) else tmOps P gl cf ctx ops false 0 ops.toList 0 env h [] (k .normal)
 | .seq x y, R, b, env, h, k => tmCode ctx x R b env h fun e env' h' => match e with
  | .normal => tmCode ctx y R b env' h' k
  | e => k e env' h'
 | .cond c t e, R, b, env, h, k => match ev1 gl env c with
  | .bool v => match ann ctx (joinKey c) with
   | none => brB v (tmCode ctx t R b env h k) (tmCode ctx e R b env h k)
   | some sh => match resL env h.os sh with
    | some l => match back l env h.os with
     | some (kill, st0) => if l.all (varyOk h.os) && nodupN (itersOf l) then
       oj (brB v
        (tmCode ctx t (St l ⊕ R) b (headS l kill (wrC t ++ wrC e) env h.os st0).env ⟨(headS l kill (wrC t ++ wrC e) env h.os st0).os, []⟩ fun x env' h' => match x with
         | .normal => tell l h.os env' h' .inl
         | x => inR (k x env' (outH h h'.os)))
        (tmCode ctx e (St l ⊕ R) b (headS l kill (wrC t ++ wrC e) env h.os st0).env ⟨(headS l kill (wrC t ++ wrC e) env h.os st0).os, []⟩ fun x env' h' => match x with
         | .normal => tell l h.os env' h' .inl
         | x => inR (k x env' (outH h h'.os))))
        fun st => k .normal (headS l kill (wrC t ++ wrC e) env h.os st).env (outH h (headS l kill (wrC t ++ wrC e) env h.os st).os)
      else none
     | none => none
    | none => none
  | _ => none
 | .block id body, R, _, env, h, k => tmCode ctx body R id env h fun e env' h' => match e with
  | .exit id' => if id' = id then k .normal env' h' else k (.exit id') env' h'
  | e => k e env' h'
 | .loop body, R, b, env, h, k => match ann ctx b with
  | some sh => match resL env h.os sh with
   | some l => match back l env h.os with
    | some (kill, st0) => if l.all (varyOk h.os) && nodupN (itersOf l) then
      oj (it (St l) (St l ⊕ R) (fun st : St l =>
       tmCode ctx body (St l ⊕ (St l ⊕ R)) b (headS l kill (wrC body) env h.os st).env ⟨(headS l kill (wrC body) env h.os st).os, []⟩
        fun e env' h' => match e with
         | .normal => tell l h.os env' h' .inl
         | .exit id => if id = b then tell l h.os env' h' (.inr ∘ .inl) else inR (inR (k (.exit id) env' (outH h h'.os)))
         | .ret => inR (inR (k .ret env' (outH h h'.os)))) st0)
       fun st => k (.exit b) (headS l kill (wrC body) env h.os st).env (outH h (headS l kill (wrC body) env h.os st).os)
     else none
    | none => none
   | none => none
  | none => none
 | .rangeFunc f ps asg body, R, b, env, h, k => match ev1 gl env f with
  | .func g first cap => if (P.funcs[g]?).any (·.body.isSome) = false then none else
   cf R (ctx) (.fn g) (first ++ [.yld h.os.length] ++ cap) (h.push (.frame env ps.toList asg body 0 none ctx)) fun _ h2 =>
    match h2.at_ h.os.length with
    | .frame _ _ _ _ st pend _ => if st = 1 then none else match jumpOf pend with
     | some e => k e env (h2.set h.os.length .dead)
     | none => none
    | _ => none
  | _ => none
 | .exit id, R, _, env, h, k => k (.exit id) env h
 | .ret, R, _, env, h, k => k .ret env h
 | .scope c, R, b, env, h, k => tmCode ctx c R b env h k
 | .goto _, _, _, _, _, _ | .refuse _, _, _, _, _, _ => none
end

inductive Ow where
 | no | cp | ag | row (tid : Nat) | mat (tid : Nat) (nt : List Nat)
 deriving DecidableEq
def Ty.flat2 : Ty → Bool
 | .slice t => t.flat
 | .pair a b => a.flat2 && b.flat2
 | .st a => a.flat2
 | _ => true
structure FSpec where
 args : List Ty
 res : List Ty
 own : List Ow
 fn : Tys args → Option (Tys res)
def putRes1 (h : THp) (ow : Ow) : (t : Ty) → t.den → TV × THp
 | .slice e, l => match ow with
  | .row tid => (.own h.os.length, h.push (.row true e l tid))
  | .mat tid nt => (.own h.os.length, h.push (.mat true e l tid nt 0 none))
  | .no => (.deep e l, h)
  | .cp => (.deep e l, h)
  | .ag => (.deep e l, h)
 | t, x => (valT t x, h)
def putRes (h : THp) : (ts : List Ty) → List Ow → Tys ts → List TV × THp
 | [], _, _ => ([], h)
 | [t], ow, x => ([(putRes1 h (ow.headD .no) t x).1], (putRes1 h (ow.headD .no) t x).2)
 | t :: u :: r, ow, x => ((putRes1 h (ow.headD .no) t x.1).1 :: (putRes (putRes1 h (ow.headD .no) t x.1).2 (u :: r) ow.tail x.2).1, (putRes (putRes1 h (ow.headD .no) t x.1).2 (u :: r) ow.tail x.2).2)
def quiet1 (ow : Ow) (t : Ty) : Bool := match ow, t with
 | .row _, .slice e => e.flat
 | .mat _ _, .slice e => e.flat2
 | .cp, .slice _ => true
 | _, t => t.flat
def quietL : List Ty → List Ow → Bool
 | [], _ => true
 | t :: r, ow => quiet1 (ow.headD .no) t && quietL r ow.tail
def isAg (res : List Ty) (own : List Ow) : Bool := match own.getD res.length .no with
 | .ag => true
 | _ => false
def packT (b : Bool) (vs : List TV) : TV := match b with
 | true => .agg vs
 | false => match vs with
  | [v] => v
  | vs => .tup vs
def unpT (b : Bool) (vs : List TV) : Option (List TV) := match b with
 | false => some vs
 | true => match vs with
  | [.agg cs] => some cs
  | _ => none
def tspec {R : Type} (sp : FSpec) (args : List TV) (h : THp) (k : TV → THp → Option R) : Option R :=
 match freezeA h (ownIds (args.flatMap (·.cells))), freeze h (ownIds (args.flatMap (·.cells))) with
 | some hA, hF => match decVs hA sp.args (args.map (unN h)) with
  | some x => match (if quietL sp.res sp.own then some h else match hF with
    | some h1 => some h1.mark
    | none => none) with
   | some h' => ob (sp.fn x) fun y => k (packT (isAg sp.res sp.own) (putRes h' sp.res sp.own y).1) (putRes h' sp.res sp.own y).2
   | none => none
  | none => none
 | none, _ => none
def resOk (h : THp) : List Ow → List TV → List Nat → Bool
 | _, [], _ => true
 | ow, v :: r, seen => match ow.headD .no with
  | .no => resOk h ow.tail r seen
  | .cp => false
  | .ag => false
  | o => match v with
   | .own id => !seen.contains id && resOk h ow.tail r (id :: seen) && match o, h.at_ id with
    | .row tid, .row true _ _ tid' => tid == tid'
    | .mat tid nt, .mat true _ _ tid' nt' _ none => decide (tid = tid' ∧ nt = nt')
    | _, _ => false
   | .nilS => resOk h ow.tail r seen
   | _ => false
def loose : List Ow → List TV → List Nat
 | _, [] => []
 | ow, v :: r => match ow.headD .no with
  | .no => ownIds v.cells ++ loose ow.tail r
  | _ => loose ow.tail r
def resT1 (env : List TV) (P : Program) (h : THp) : ResultVar → Option TV
 | .tmp t => some (env.getD t .junk)
 | .cell x t => match tload P t (env.getD x .junk) h with
  | some ([], v, _) => some v
  | _ => none
def resT (env : List TV) (P : Program) (h : THp) : List ResultVar → Option (List TV)
 | [] => some []
 | r :: rs => match resT1 env P h r with
  | some v => match resT env P h rs with
   | some vs => some (v :: vs)
   | none => none
  | none => none
def tupT : List TV → TV
 | [v] => v
 | vs => .tup vs
def putAllT (env : List TV) : List (Nat × TV) → List TV
 | [] => env
 | (t, v) :: r => putAllT (env.set t v) r

noncomputable section
variable (P : Program) (gl : Nat → Option (List TV)) (ann : List Nat → Nat → Option (List Sh)) (it : It) (specs : Nat → Option FSpec) (effs : Nat → Option (List TV → THp → Res))
def tmBody (cf : Oc) (R : Type) (ctx : List Nat) (fn : Func) (c : Code) (args : List TV) (h : THp) (k : List TV → THp → Option R) : Option R :=
 tmCode P gl ann cf it ctx c R 0 (args ++ List.replicate (fn.ntmps - args.length) .junk) h fun e env' h' => match e with
  | .exit _ => none
  | _ => match resT env' P h' fn.results.toList with
   | some vs => k vs h'
   | none => none
def tev : Nat → Oc
 | 0, _, _, _, _, _, _ => none
 | n + 1, R, ctx, .fn f, args, h, k => match specs f with
  | some sp => tspec sp args h k
  | none => match effs f with
   | some ef => match ef args h with
    | some (c, v, h') => brs c (k v h')
    | none => none
   | none => match P.funcs[f]? with
    | some fn => match fn.body with
     | some c => tmBody P gl ann it (tev n) R (f :: ctx) fn c args h fun vs h' => k (tupT vs) h'
     | none => none
    | none => none
 | n + 1, R, ctx, .yld id, args, h, k => match h.at_ id with
  | .frame tmps ps asg body 0 none ctx' =>
   if args.length = ps.length then
    tmCode P gl ann (tev n) it ctx' asg R 0 (putAllT tmps (ps.zip args)) h fun e env1 h1 => match e with
     | .normal => match h1.at_ id with
      | .frame tmps ps asg body 0 none ctx' =>
       tmCode P gl ann (tev n) it ctx' body R 0 env1 (h1.set id (.frame tmps ps asg body 1 none ctx')) fun e2 _ h2 => match h2.at_ id with
        | .frame tmps ps asg body _ _ ctx' => match e2 with
         | .normal => k (.bool .t) (h2.set id (.frame tmps ps asg body 0 none ctx'))
         | .ret => k (.bool .f) (h2.set id (.frame tmps ps asg body 2 (some .ret) ctx'))
         | .exit id' => k (.bool .f) (h2.set id (.frame tmps ps asg body 2 (some (.exit id')) ctx'))
        | _ => none
      | _ => none
     | _ => none
   else none
  | _ => none
def argsT : (ts : List Ty) → Tys ts → List TV
 | [], _ => []
 | [t], x => [valT t x]
 | t :: u :: r, x => valT t x.1 :: argsT (u :: r) x.2
def soft1 (h : THp) (id : Nat) : THp := match h.at_ id with
 | .mat true t l tid _ _ none => ⟨h.os.set id (.row true t l tid), gmark :: h.dirty⟩
 | _ => h
def softL (h : THp) : List Ow → List TV → THp
 | _, [] => h
 | ow, v :: r => match ow.headD .no, v with
  | .row _, .own id => softL (soft1 h id) ow.tail r
  | _, _ => softL h ow.tail r
def unR1 (h1 h2 : THp) (o : Ow) (v : TV) : TV := match o with
 | .no => unN h1 v
 | .cp => v
 | .ag => v
 | .row _ => v
 | .mat _ _ => match v with
  | .own id => match h2.at_ id with
   | .mat _ t l _ _ _ none => .deep t l
   | _ => .junk
  | v => v
def unR (h1 h2 : THp) : List Ow → List TV → List TV
 | _, [] => []
 | ow, v :: r => unR1 h1 h2 (ow.headD .no) v :: unR h1 h2 ow.tail r
def tmFun (n f : Nat) (mo : Bool) (args res : List Ty) (own : List Ow) (x : Tys args) : Option (Tys res) :=
 match P.funcs[f]? with
 | some fn => match fn.body with
  | some c => tmBody P gl ann it (tev P gl ann it specs effs n) (Tys res) [f] fn c (argsT args x) ⟨mat0 mo, []⟩ fun ws h =>
    match unpT (isAg res own) ws with
     | some vs => match freezeA (softL h own vs) (loose own vs) with
      | some h' => if resOk h' own vs [] then decVs h' res (unR (softL h own vs) h' own vs) else none
      | none => none
     | none => none
  | none => none
 | none => none
end
def idEff : List TV → THp → Res := fun args h => match args with
 | [x] => rv x h
 | _ => none
end Go.TM
