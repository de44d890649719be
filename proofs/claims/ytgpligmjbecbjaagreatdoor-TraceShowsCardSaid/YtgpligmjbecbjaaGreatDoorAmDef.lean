/- The abstract machine 'AM': an evaluator over the model's own Code, without tape, capacities or order: what a call comes to, in an abstract heap. Definitions alone. -/

import Derived.RangeFuncLeaves
import Derived.OrdersIn
import Derived.Laws.Sem
set_option linter.unusedVariables false
set_option linter.unusedSimpArgs false
set_option linter.unusedSectionVars false
namespace Go.AM
open Go

abbrev Env := List Value

abbrev DPTR (cs : Array Value) : Value := .func (.method "p") cs #[]
abbrev LST (n : Nat) (cs : Array Value) : Value := .func (.methodOf n "s") cs #[]

inductive AObj where
 | dead
 | cells (c : List Value) (own : Bool) (sz : Nat) (ty : TypeId)
 | loop (tmps : List Value) (params : List Tmp) (assign body : Code) (st : Nat) (pend : Option Code)
 | iter (s : ByteArray) (pos : Nat)
 | map (es : List (Value × Value))
 deriving Inhabited

class EqV where
 eq : Value → Value → Bool
 sound : ∀ a b, eq a b = true → a = b
 glob : Nat → Option (Array Value)

structure AH where
 get : Nat → AObj
 next : Nat

def AH.set (H : AH) (b : Nat) (o : AObj) : AH := ⟨fun k => if b = k then o else H.get k, H.next⟩
def AH.push (H : AH) (o : AObj) : AH := ⟨fun k => if H.next = k then o else H.get k, H.next + 1⟩

theorem AH.get_set (H : AH) (b : Nat) (o : AObj) (k : Nat) : (H.set b o).get k = if b = k then o else H.get k := rfl
theorem AH.get_push (H : AH) (o : AObj) (k : Nat) : (H.push o).get k = if H.next = k then o else H.get k := rfl
@[simp] theorem AH.next_set (H : AH) (b : Nat) (o : AObj) : (H.set b o).next = H.next := rfl
@[simp] theorem AH.next_push (H : AH) (o : AObj) : (H.push o).next = H.next + 1 := rfl

def pureRun {α : Type} (P : Program) : Sem α → Option α
 | .pure a => some a
 | .program k => pureRun P (k P)
 | .mark _ k => pureRun P k
 | _ => none

def flat1 : Value → Bool
 | .bool _ | .int _ _ | .float _ _ | .complex _ _ _ | .string _ | .nilFunc | .nilIface => true
 | .pointer none | .map none | .chan none => true
 | .slice none _ _ => true
 | _ => false
def pureV (P : Program) (s : Sem Value) : Option Value := (pureRun P s).bind fun r => if flat1 r then some r else none
def flat : Value → Bool
 | .agg cs => cs.toList.all flat1
 | .tuple cs => cs.toList.all flat1
 | .iface _ v => flat1 v
 | v => flat1 v

def one : Value → Bool
 | .agg _ | .tuple _ => false
 | _ => true

def isAgg? (P : Program) (t : TypeId) : Option Bool :=
 match P.underlying t with
 | some (.struct _) | some (.array _ _) => some true
 | some _ => some false
 | none => none
def sizeOf? (P : Program) (t : TypeId) : Option Nat := (P.info? t).map (·.size)
def bytesOf? (P : Program) (t : TypeId) : Option Nat := (P.info? t).map (·.bytes)
def zeroI? (P : Program) (t : TypeId) : Option Value := (P.info? t).bind (·.zero)
def zero? (P : Program) (t : TypeId) : Option Value := match zeroI? P t with
 | some z => if z.cells.toList.all flat1 then some z else none
 | none => none
theorem zero_zeroI {P : Program} {t : TypeId} {z : Value} (h : zero? P t = some z) : z.cells.toList.all flat1 = true ∧ (P.info? t).bind (·.zero) = some z := by
 unfold zero? at h
 split at h
 ·rename_i y hy
  split at h
  ·cases h; exact ⟨‹_›, hy⟩
  ·cases h
 ·cases h

def splice (c : List Value) (off : Nat) (vs : List Value) : List Value := c.take off ++ vs ++ c.drop (off + vs.length)
def part? (P : Program) (t : TypeId) (cs : List Value) (off : Nat) : Option Value :=
 match isAgg? P t, sizeOf? P t with
 | some true, some n => if off + n ≤ cs.length then some (.agg ((cs.drop off).take n).toArray) else none
 | some false, _ => cs[off]?
 | _, _ => none

def aload (P : Program) (t : TypeId) (x : Value) (H : AH) : Option Value :=
 match x with
 | .pointer (some ⟨b, off, none⟩) => match H.get b with
  | .cells c _ _ _ => part? P t c off
  | _ => none
 | .func (.method _) cs _ => part? P t cs.toList 0
 | _ => none

def astore (P : Program) (t : TypeId) (x v : Value) (H : AH) : Option AH :=
 match x with
 | .pointer (some ⟨b, off, none⟩) => match H.get b with
  | .cells c true sz ty => match sizeOf? P t with
   | some n => if v.cells.size = n ∧ off + n ≤ c.length ∧ v.cells.toList.all one = true then some (H.set b (.cells (splice c off v.cells.toList) true sz ty)) else none
   | none => none
  | _ => none
 | _ => none

def newVar (t : TypeId) (v : Value) (H : AH) : Value × AH := (.pointer (some ⟨H.next, 0, none⟩), H.push (.cells v.cells.toList true 0 t))

def asInt? : Value → Option Int
 | .int _ n => some n
 | _ => none
def boundOf (d : Nat) : Option Value → Option Int
 | none => some d
 | some v => asInt? v

def fillL (place : Nat → Option (Nat × Nat)) : List Value → List (Nat × Value) → Option (List Value)
 | cells, [] => some cells
 | cells, (i, v) :: rest =>
  match place i with
  | none => none
  | some (off, size) => if v.cells.size ≠ size ∨ cells.length < off + v.cells.size then none else fillL place (splice cells off v.cells.toList) rest

def fieldPlaces (P : Program) (fs : List Field) : Option (List (Nat × Nat)) := fs.mapM fun f => (sizeOf? P f.type).map fun n => (f.offset, n)

def abuild (P : Program) (t : TypeId) (parts : List (Nat × Value)) : Option Value :=
 match zero? P t, P.underlying t with
 | some z, some (.struct fs) => (fieldPlaces P fs.toList).bind fun pl => (fillL (pl[·]?) z.cells.toList parts).map fun c => .agg c.toArray
 | some z, some (.array _ e) => (sizeOf? P e).bind fun n => (fillL (fun i => some (i * n, n)) z.cells.toList parts).map fun c => .agg c.toArray
 | _, _ => none

def repeatCells (z : List Value) : Nat → List Value
 | 0 => []
 | n + 1 => z ++ repeatCells z n

def abuildSlice (P : Program) (t : TypeId) (len : Nat) (parts : List (Nat × Value)) (H : AH) : Option (Value × AH) :=
 match P.underlying t with
 | some (.slice e) => match sizeOf? P e, zero? P e with
  | some n, some z =>
   if len * n ≤ 2 ^ 24 ∧ n ≠ 0 ∧ z.cells.size = n then
    (fillL (fun i => some (i * n, n)) (repeatCells z.cells.toList len) parts).map fun c => (.slice (some ⟨H.next, 0, none⟩) len n, H.push (.cells c true n e))
   else none
  | _, _ => none
 | _ => none

def amakeSlice (P : Program) (t : TypeId) (len cap : Value) (H : AH) : Option (Value × AH) :=
 match P.underlying t, len, cap with
 | some (.slice e), .int _ l, .int _ c => match sizeOf? P e, bytesOf? P e, zero? P e with
  | some n, some by_, some z =>
   if 0 ≤ l ∧ l ≤ c ∧ c ≤ 2 ^ 48 ∧ by_ * c ≤ 2 ^ 48 ∧ n ≠ 0 ∧ z.cells.size = n then
    some (.slice (some ⟨H.next, 0, none⟩) l.toNat n, H.push (.cells (repeatCells z.cells.toList l.toNat) true n e))
   else none
  | _, _, _ => none
 | _, _, _ => none

def aslice (P : Program) (t : TypeId) (x : Value) (lo hi mx : Option Value) : Option Value :=
 match P.underlying t, x, mx with
 | some .string, .string s, none => (boundOf 0 lo).bind fun l => (boundOf s.size hi).bind fun h =>
  if 0 ≤ l ∧ l ≤ h ∧ h ≤ s.size then some (.string (s.extract l.toNat h.toNat)) else none
 | some (.slice e), .slice none 0 0, none => (boundOf 0 lo).bind fun l => (boundOf 0 hi).bind fun h =>
  match sizeOf? P e with
  | some _ => if l = 0 ∧ h = 0 then some (.slice none 0 0) else none
  | none => none
 | some (.slice e), .slice (some ⟨b, off, none⟩) len sz, none => (boundOf 0 lo).bind fun l => (boundOf len hi).bind fun h =>
  match sizeOf? P e with
  | some n => if 0 ≤ l ∧ l ≤ h ∧ h ≤ len ∧ (sz = n ∨ sz = 0) then some (.slice (some ⟨b, off + l.toNat * n, none⟩) (h.toNat - l.toNat) sz) else none
  | _ => none
 | some (.array k e), .pointer (some ⟨b, off, none⟩), none => (boundOf 0 lo).bind fun l => (boundOf k hi).bind fun h =>
  match sizeOf? P e with
  | some n => if 0 ≤ l ∧ l ≤ h ∧ h ≤ k then some (.slice (some ⟨b, off + l.toNat * n, none⟩) (h.toNat - l.toNat) 0) else none
  | _ => none
 | some (.slice e), .func (.methodOf len _) cs _, none => (boundOf 0 lo).bind fun l => (boundOf len hi).bind fun h =>
  match sizeOf? P e with
  | some n => if 0 ≤ l ∧ l ≤ h ∧ h ≤ len then some (LST (h.toNat - l.toNat) ((cs.toList.drop (l.toNat * n)).take ((h.toNat - l.toNat) * n)).toArray) else none
  | _ => none
 | some (.array k e), .func (.method _) cs _, none => (boundOf 0 lo).bind fun l => (boundOf k hi).bind fun h =>
  match sizeOf? P e with
  | some n => if 0 ≤ l ∧ l ≤ h ∧ h ≤ k then some (LST (h.toNat - l.toNat) ((cs.toList.drop (l.toNat * n)).take ((h.toNat - l.toNat) * n)).toArray) else none
  | _ => none
 | _, _, _ => none

def afieldAddr (P : Program) (s : TypeId) (x : Value) (field : Nat) : Option Value :=
 match P.underlying s, x with
 | some (.struct fs), .pointer (some ⟨b, off, none⟩) => match fs[field]? with
  | some f => match sizeOf? P f.type with
   | some (_ + 1) => some (.pointer (some ⟨b, off + f.offset, none⟩))
   | _ => none
  | none => none
 | some (.struct fs), .func (.method _) cs _ => match fs[field]? with
  | some f => match sizeOf? P f.type with
   | some (_ + 1) => if f.offset ≤ cs.size then some (DPTR (cs.toList.drop f.offset).toArray) else none
   | _ => none
  | none => none
 | _, _ => none

def afield (P : Program) (t : TypeId) (x : Value) (field : Nat) : Option Value :=
 match P.underlying t, x with
 | some (.struct fs), .agg cs => match fs[field]? with
  | some f => part? P f.type cs.toList f.offset
  | none => none
 | _, _ => none

def aindexAddr (P : Program) (t : TypeId) (x i : Value) : Option Value :=
 match P.underlying t, x, i with
 | some (.slice e), .slice (some ⟨b, off, none⟩) len _, .int _ n => match sizeOf? P e with
  | some k => if 0 ≤ n ∧ n < len then some (.pointer (some ⟨b, off + n.toNat * k, none⟩)) else none
  | none => none
 | some (.array len e), .pointer (some ⟨b, off, none⟩), .int _ n => match sizeOf? P e with
  | some k => if 0 ≤ n ∧ n < len then some (.pointer (some ⟨b, off + n.toNat * k, none⟩)) else none
  | none => none
 | some (.slice e), .func (.methodOf len _) cs _, .int _ n => match sizeOf? P e with
  | some k => if 0 ≤ n ∧ n < len ∧ n.toNat * k < cs.size then some (DPTR (cs.toList.drop (n.toNat * k)).toArray) else none
  | none => none
 | some (.array len e), .func (.method _) cs _, .int _ n => match sizeOf? P e with
  | some k => if 0 ≤ n ∧ n < len ∧ n.toNat * k ≤ cs.size then some (DPTR (cs.toList.drop (n.toNat * k)).toArray) else none
  | none => none
 | _, _, _ => none

def aindex (P : Program) (t : TypeId) (x i : Value) : Option Value :=
 match P.underlying t, x, i with
 | some (.array len e), .agg cs, .int _ n => match sizeOf? P e with
  | some k => if 0 ≤ n ∧ n < len then part? P e cs.toList (n.toNat * k) else none
  | none => none
 | some .string, .string s, .int _ n => if 0 ≤ n then (s[n.toNat]?).map fun b => .int .u8 b.toNat else none
 | _, _, _ => none

def alenOf : Value → Option Nat
 | .slice _ n _ => some n
 | .func (.methodOf n _) _ _ => some n
 | .string s => some s.size
 | _ => none
def afirst (size n : Nat) (x : Value) (H : AH) : Option (List Value) :=
 match x with
 | .slice none 0 0 => some []
 | .slice (some ⟨b, off, none⟩) _ _ => match H.get b with
  | .cells c _ _ _ => if off + n * size ≤ c.length then some ((c.drop off).take (n * size)) else none
  | _ => none
 | .string s => if size = 1 then some ((s.extract 0 n).data.toList.map fun b => .int .u8 b.toNat) else none
 | .func (.methodOf _ _) cs _ => if n * size ≤ cs.size then some (cs.toList.take (n * size)) else none
 | _ => none

def aappend (P : Program) (ts : List TypeId) (args : List Value) (H : AH) : Option (Value × AH) :=
 match ts, args with
 | t :: u :: _, s :: x :: _ => match P.underlying t, P.underlying u with
  | some (.slice e), some ud => match sizeOf? P e, bytesOf? P e, zero? P e, alenOf x, (ud matches .int _) with
   | some size, some by_, some z, some n, false => match afirst size n x H with
    | none => none
    | some new =>
     if new.all one = true ∧ size ≠ 0 ∧ z.cells.size = size then
      match s with
      | .slice none 0 0 =>
       if n = 0 then some (s, H)
       else if n * by_ ≤ 2 ^ 47 ∧ n ≤ 2 ^ 62 then some (.slice (some ⟨H.next, 0, none⟩) n size, H.push (.cells new true size e)) else none
      | .slice (some ⟨b, 0, none⟩) len cs => match H.get b with
       | .cells c true sz ty =>
        if sz = size ∧ cs = size ∧ ty = e ∧ c.length = len * size then
         if n = 0 then some (s, H)
         else if (len + n) * by_ ≤ 2 ^ 47 ∧ len + n ≤ 2 ^ 62 then some (.slice (some ⟨H.next, 0, none⟩) (len + n) size, (H.set b .dead).push (.cells (c ++ new) true size ty)) else none
        else none
       | _ => none
      | _ => none
     else none
   | _, _, _, _, _ => none
  | _, _ => none
 | _, _ => none

def aappendZ (P : Program) (ts : List TypeId) (args : List Value) (H : AH) : Option (Value × AH) :=
 match ts, args with
 | t :: u :: _, .slice none 0 0 :: .int .i64 n :: _ => match P.underlying t, P.underlying u with
  | some (.slice e), some (.int _) => match sizeOf? P e, bytesOf? P e, zero? P e with
   | some size, some by_, some z =>
    if 0 < n ∧ n.toNat * by_ ≤ 2 ^ 47 ∧ n.toNat ≤ 2 ^ 62 ∧ size ≠ 0 ∧ z.cells.size = size then some (.slice (some ⟨H.next, 0, none⟩) n.toNat size, H.push (.cells (repeatCells z.cells.toList n.toNat) true size e)) else none
   | _, _, _ => none
  | _, _ => none
 | _, _ => none
def atrunc (args : List Value) (H : AH) : AH :=
 match args with
 | .slice (some ⟨b, 0, none⟩) len (n + 1) :: _ => match H.get b with
  | .cells c true sz ty => if len * (n + 1) < c.length then H.set b (.cells (c.take (len * (n + 1))) true sz ty) else H
  | _ => H
 | _ => H

def acopy (P : Program) (ts : List TypeId) (args : List Value) (H : AH) : Option (Value × AH) :=
 match ts, args with
 | t :: _, d :: x :: _ => match P.underlying t with
  | some (.slice e) => match sizeOf? P e, alenOf x with
   | some size, some n => match d with
    | .slice none 0 0 => match afirst size (min n 0) x H with
     | some _ => some (.int .i64 0, H)
     | none => none
    | .slice (some ⟨b, off, none⟩) dl _ => match afirst size (min n dl) x H, H.get b with
     | some new, .cells c true sz ty => if new.all one = true ∧ off + new.length ≤ c.length then some (.int .i64 (min n dl : Nat), H.set b (.cells (splice c off new) true sz ty)) else none
     | _, _ => none
    | _ => none
   | _, _ => none
  | _ => none
 | _, _ => none

def fnLen : Fn → Option Nat
 | .methodOf n _ => some n
 | _ => none
def fnKind : Fn → Nat
 | .func _ | .yield _ => 0
 | .method _ => 1
 | .methodOf _ _ => 2
 | .via _ _ _ _ => 3
def alen (P : Program) (ts : List TypeId) (args : List Value) (H : AH) : Option Value :=
 match ts, args with
 | t :: _, x :: _ => match P.underlying t, x with
  | some .string, .string s => some (.int .i64 s.size)
  | some (.slice _), .slice _ n _ => some (.int .i64 n)
  | some (.slice _), .func fn _ _ => match fnLen fn with
   | some n => some (.int .i64 n)
   | none => none
  | some (.array n _), _ => some (.int .i64 n)
  | some (.pointer arr), _ => match P.underlying arr with
   | some (.array n _) => some (.int .i64 n)
   | _ => none
  | some (.map _ _), .map none => some (.int .i64 0)
  | some (.map _ _), .map (some r) => match H.get r with
   | .map es => some (.int .i64 es.length)
   | _ => none
  | _, _ => none
 | _, _ => none

def aeqNil (P : Program) (t : TypeId) (x y : Value) : Option Bool :=
 match P.underlying t, x, y with
 | some (.slice _), .slice (some _) _ _, .slice none _ _ => some false
 | some (.slice _), .slice none _ _, .slice (some _) _ _ => some false
 | some (.pointer _), .pointer (some _), .pointer none => some false
 | some (.pointer _), .pointer none, .pointer (some _) => some false
 | some (.pointer e), .pointer (some a), .pointer (some b) => match sizeOf? P e with
  | some (_ + 1) => if a = b then some true else none
  | _ => none
 | some (.map _ _), .map (some _), .map none => some false
 | some (.map _ _), .map none, .map (some _) => some false
 | some (.func _ _ _), .func fn _ _, .nilFunc => if fnKind fn = 0 then some false else none
 | some (.func _ _ _), .nilFunc, .func fn _ _ => if fnKind fn = 0 then some false else none
 | some (.slice _), .func fn _ _, .slice none _ _ => if fnKind fn = 2 then some false else none
 | some (.slice _), .slice none _ _, .func fn _ _ => if fnKind fn = 2 then some false else none
 | some (.pointer _), .func fn _ _, .pointer none => if fnKind fn = 1 then some false else none
 | some (.pointer _), .pointer none, .func fn _ _ => if fnKind fn = 1 then some false else none
 | _, _, _ => none

def abinOp (P : Program) (op : BinOp) (t : TypeId) (x y : Operand) (a b : Value) : Option Value :=
 if flat a && flat b then pureV P (do eqGuard op t x y a b; binOp op t a b)
 else match op with
  | .eql => (aeqNil P t a b).map fun r => .bool r
  | .neq => (aeqNil P t a b).map fun r => .bool (!r)
  | _ => none

def byteOf? : Value → Option UInt8
 | .int .u8 n => if 0 ≤ n ∧ n < 256 then some (UInt8.ofNat n.toNat) else none
 | _ => none

def aunsafe (P : Program) (src dst : TypeId) (x : Value) (H : AH) : Option (Value × AH) :=
 match P.underlying src, P.underlying dst, x with
 | some (.pointer t), some .unsafePointer, .pointer (some ⟨b, 0, none⟩) => match H.get b, sizeOf? P t with
  | .cells (_ :: _) true _ _, some (_ + 1) => some (x, H)
  | _, _ => none
 | some .unsafePointer, some (.pointer u), .pointer (some ⟨b, 0, none⟩) => match H.get b, sizeOf? P u with
  | .cells c true _ ty, some (n + 1) => if ty = u ∧ n + 1 ≤ c.length then some (x, H) else none
  | _, _ => none
 | _, _, _ => none

def aconvert (P : Program) (src dst : TypeId) (x : Value) (H : AH) : Option (Value × AH) :=
 match P.underlying src, P.underlying dst, x with
 | some .string, some (.slice e), .string s => match P.underlying e, sizeOf? P e with
  | some (.int .u8), some 1 => if s.size ≤ 2 ^ 47 then some (.slice (some ⟨H.next, 0, none⟩) s.size 1, H.push (.cells (s.data.toList.map fun b => Value.int .u8 b.toNat) true 1 e)) else none
  | _, _ => none
 | some (.slice e), some .string, .slice (some ⟨b, off, none⟩) len _ => match P.underlying e, H.get b with
  | some (.int .u8), .cells c _ _ _ =>
   if off + len ≤ c.length then
    (((c.drop off).take len).mapM byteOf?).map fun l => (.string ⟨l.toArray⟩, H)
   else none
  | _, _ => none
 | some (.slice e), some .string, .func (.methodOf len _) cs _ => match P.underlying e with
  | some (.int .u8) => if len ≤ cs.size then ((cs.toList.take len).mapM byteOf?).map fun l => (.string ⟨l.toArray⟩, H) else none
  | _ => none
 | _, _, x => if flat x then (pureV P (convert src dst x)).map fun v => (v, H) else aunsafe P src dst x H

inductive ANx where
 | val (v : Value) (H : AH)
 | skip (H : AH)
 | call (f : FuncId) (args : List Value)
 | yld (l : Nat) (args : List Value)

variable [EqV]
def evA (a : Env) : Operand → Value
 | .tmp t => a.getD t undef
 | .const v => v
 | .global g => match EqV.glob g with
  | some cs => DPTR cs
  | none => .pointer (some ⟨g, 0, none⟩)
 | .func f => .func (.func f) #[] #[]

def aval (v : Option Value) (H : AH) : Option ANx := v.map fun v => .val v H
def avalH (r : Option (Value × AH)) : Option ANx := r.map fun r => .val r.1 r.2

def acallV (f : Value) (args : List Value) : Option ANx :=
 match f with
 | .func (.func k) first captured => some (.call k (first.toList ++ args ++ captured.toList))
 | .func (.yield l) first _ => some (.yld l (first.toList ++ args))
 | _ => none

def arange (P : Program) (t : TypeId) (x : Value) (H : AH) : Option (Value × AH) :=
 match P.underlying t, x with
 | some .string, .string s => some (.pointer (some ⟨H.next, 0, none⟩), H.push (.iter s 0))
 | _, _ => none
def anext (x : Value) (isString : Bool) (H : AH) : Option (Value × AH) :=
 match x, isString with
 | .pointer (some ⟨b, 0, none⟩), true => match H.get b with
  | .iter s pos => if pos < s.size then some (.tuple #[.bool true, goInt pos, .int .i32 (Utf8.decode s pos).1], H.set b (.iter s (pos + (Utf8.decode s pos).2))) else some (.tuple #[.bool false], H)
  | _ => none
 | _, _ => none
def aunsafeString (P : Program) (ts : List TypeId) (args : List Value) (H : AH) : Option (Value × AH) :=
 match ts, args with
 | [_, _], [.pointer none, .int .i64 0] => some (.string .empty, H)
 | [pt, _], [.pointer (some ⟨b, 0, none⟩), .int .i64 n] => match H.get b, P.underlying pt with
  | .cells c true 1 ty, some (.pointer e) =>
   if 0 < n ∧ n.toNat ≤ c.length ∧ n ≤ 2 ^ 62 ∧ ty = e ∧ sizeOf? P e = some 1 then ((c.take n.toNat).mapM byteOf?).map fun l => (.string ⟨l.toArray⟩, H.set b .dead) else none
  | _, _ => none
 | _, _ => none
def abuiltinX (P : Program) (b : Builtin) (ts : List TypeId) (args : List Value) (H : AH) : Option (Value × AH) :=
 match b with
 | .cap => match ts, args with
  | t :: _, .slice none 0 0 :: _ => match P.underlying t with
   | some (.slice _) => some (.int .i64 0, H)
   | _ => none
  | _, _ => none
 | .unsafeSliceData => match args with
  | [.slice none 0 0] => some (.pointer none, H)
  | [.slice (some ⟨b, 0, none⟩) (_ + 1) 1] => some (.pointer (some ⟨b, 0, none⟩), H)
  | _ => none
 | .unsafeString => aunsafeString P ts args H
 | _ => none
def entriesOf (es : List (Value × Value)) : List MapEntry := es.map fun e => { key := e.1, val := e.2, born := 0 }
def amapOf (x : Value) (H : AH) : Option (List (Value × Value)) :=
 match x with
 | .map none => some []
 | .map (some r) => match H.get r with
  | .map es => some es
  | _ => none
 | _ => none
def amakeMap (P : Program) (t : TypeId) (r : Option Value) (H : AH) : Option (Value × AH) :=
 match r with
 | none => some (.map (some H.next), H.push (.map []))
 | some v => match P.underlying t, v with
  | some (.map _ _), .int _ _ => some (.map (some H.next), H.push (.map []))
  | _, _ => none
def alookup (P : Program) (t : TypeId) (x k : Value) (ok : Bool) (H : AH) : Option Value :=
 match P.underlying t with
 | some (.map kt vt) => match amapOf x H with
  | some es =>
   if flat k = true ∧ (es.all fun e => flat e.1) = true then
    match pureRun P (Instr.checkKey es.isEmpty 10000 kt k), pureRun P (Instr.findKey kt k (entriesOf es)) with
    | some _, some (some (i, _)) => (es[i]?).map fun e => if ok then .tuple #[e.2, .bool true] else e.2
    | some _, some none => (zero? P vt).map fun z => if ok then .tuple #[z, .bool false] else z
    | _, _ => none
   else none
  | none => none
 | _ => none
def amapUpdate (P : Program) (t : TypeId) (x k v : Value) (H : AH) : Option AH :=
 match P.underlying t, x with
 | some (.map kt _), .map (some r) => match H.get r with
  | .map es =>
   if flat k = true ∧ (es.all fun e => flat e.1) = true then
    match pureRun P (Instr.checkKey false 10000 kt k), pureRun P (Instr.findKey kt k (entriesOf es)) with
    | some _, some (some (i, _)) => match es[i]? with
     | some e => if Instr.sameBits 10000 e.1 k = true then some (H.set r (.map (es.set i (k, v)))) else none
     | none => none
    | some _, some none => some (H.set r (.map (es ++ [(k, v)])))
    | _, _ => none
   else none
  | _ => none
 | _, _ => none
def amapEntry (P : Program) (t : TypeId) (x k : Value) (H : AH) : Option (Value × AH) :=
 match P.underlying t, x with
 | some (.map kt vt), .map (some r) => match H.get r with
  | .map es =>
   if flat k = true ∧ (es.all fun e => flat e.1) = true then
    match pureRun P (Instr.checkKey false 10000 kt k), pureRun P (Instr.findKey kt k (entriesOf es)) with
    | some _, some (some (i, _)) => match es[i]? with
     | some e => if Instr.sameBits 10000 e.1 k = true then some (.tuple #[e.2, .int .i64 (i : Nat)], H.set r (.map (es.set i (k, e.2)))) else none
     | none => none
    | some _, some none => (zero? P vt).map fun z => (.tuple #[z, .int .i64 es.length], H.set r (.map (es ++ [(k, z)])))
    | _, _ => none
   else none
  | _ => none
 | _, _ => none
def aentryStore (x st v : Value) (H : AH) : Option AH :=
 match x, st with
 | .map (some r), .int _ n => match H.get r with
  | .map es => if 0 ≤ n then match es[n.toNat]? with
    | some e => some (H.set r (.map (es.set n.toNat (e.1, v))))
    | none => none
   else none
  | _ => none
 | _, _ => none
def abuiltin (P : Program) (b : Builtin) (ts : List TypeId) (ty : TypeId) (args : List Value) (H : AH) : Option ANx :=
 match b with
 | .len => aval (alen P ts args H) H
 | .append => avalH (match aappendZ P ts args H with | some r => some r | none => aappend P ts args (atrunc args H))
 | .copy => avalH (acopy P ts args H)
 | .min => if args.all flat1 then aval (pureV P (Builtin.min_ ts.toArray ty args.toArray)) H else none
 | .max => if args.all flat1 then aval (pureV P (Builtin.max_ ts.toArray ty args.toArray)) H else none
 | b => avalH (abuiltinX P b ts args H)

def aop (P : Program) (o : Op) (ty : TypeId) (ρ : Operand → Value) (H : AH) : Option ANx :=
 match o with
 | .move x | .assign x => some (.val (ρ x) H)
 | .pick c a b => match ρ c with
  | .bool true => some (.val (ρ a) H)
  | .bool false => some (.val (ρ b) H)
  | _ => none
 | .alloc e => match zero? P e with
  | some z => some (.val (newVar e z H).1 (newVar e z H).2)
  | none => none
 | .box e x => some (.val (newVar e (ρ x) H).1 (newVar e (ρ x) H).2)
 | .build t parts => aval (abuild P t (parts.toList.map fun p => (p.1, ρ p.2))) H
 | .buildSlice t len parts => avalH (abuildSlice P t len (parts.toList.map fun p => (p.1, ρ p.2)) H)
 | .load t a => aval (aload P t (ρ a) H) H
 | .store t a v => (astore P t (ρ a) (ρ v) H).map .skip
 | .nilCheck x => match ρ x with
  | .pointer (some a) => some (.val (.pointer (some a)) H)
  | .func (.func f) first cap => some (.val (.func (.func f) first cap) H)
  | .func (.method s) cs x => some (.val (.func (.method s) cs x) H)
  | _ => none
 | .binOp op t x y _ => aval (abinOp P op t x y (ρ x) (ρ y)) H
 | .unOp op _ x => if flat1 (ρ x) then aval (pureV P (Op.unary op (ρ x))) H else none
 | .convert s d x => avalH (aconvert P s d (ρ x) H)
 | .makeInterface t x => match P.underlying t with
  | some (.interface _) | none => none
  | some _ => some (.val (.iface t (ρ x)) H)
 | .makeFunc (.func f) first cap => some (.val (.func (.func f) (first.map ρ) (cap.map ρ)) H)
 | .makeSlice t l c => avalH (amakeSlice P t (ρ l) (ρ c) H)
 | .slice t x lo hi mx => aval (aslice P t (ρ x) (lo.map ρ) (hi.map ρ) (mx.map ρ)) H
 | .fieldAddr s x f => aval (afieldAddr P s (ρ x) f) H
 | .field t x f => aval (afield P t (ρ x) f) H
 | .indexAddr t x i => aval (aindexAddr P t (ρ x) (ρ i)) H
 | .index t x i => aval (aindex P t (ρ x) (ρ i)) H
 | .extract x i => match ρ x with
  | .tuple vs => aval vs[i]? H
  | _ => none
 | .call c => match c.callee with
  | .builtin b => abuiltin P b c.argTypes.toList ty (c.args.toList.map ρ) H
  | .value f => acallV (ρ f) (c.args.toList.map ρ)
  | .invoke _ _ => none
 | .range t x => avalH (arange P t (ρ x) H)
 | .next x isString => avalH (anext (ρ x) isString H)
 | .makeMap t r => avalH (amakeMap P t (r.map ρ) H)
 | .lookup t x k ok => aval (alookup P t (ρ x) (ρ k) ok H) H
 | .mapEntry t x k => avalH (amapEntry P t (ρ x) (ρ k) H)
 | .entryStore _ x st v => (aentryStore (ρ x) (ρ st) (ρ v) H).map .skip
 | .mapUpdate t x k v | .insert t x k v => (amapUpdate P t (ρ x) (ρ k) (ρ v) H).map .skip
 | _ => none

def putA (a : Env) (d : Option Tmp) (v : Value) : Env := match d with | some d => a.set d v | none => a
def yieldedA (ops : Array Oper) (a : Env) (j : Nat) : Option Bool :=
 match ((ops[j]?).bind (·.dst)).bind (a[·]?) with
 | some (.bool b) => some b
 | _ => none
def wantedA (ops : Array Oper) (o : Oper) (a : Env) : Bool := Region.wanted o (yieldedA ops a)

inductive Task where
 | fn (f : FuncId)
 | yld (l : Nat)
abbrev Oracle := Task → List Value → AH → Option (Value × AH)

def doOp (P : Program) (cf : Oracle) (o : Oper) (a : Env) (H : AH) : Option (Value × AH) :=
 match aop P o.op o.type (evA a) H with
 | some (.val v H') => some (v, H')
 | some (.skip H') => some (undef, H')
 | some (.call f args) => cf (.fn f) args H
 | some (.yld l args) => cf (.yld l) args H
 | none => none

def evalOps (P : Program) (cf : Oracle) (ops : Array Oper) : List Oper → Env → AH → Option (Env × AH)
 | [], a, H => some (a, H)
 | o :: r, a, H =>
  if wantedA ops o a then (doOp P cf o a H).bind fun x => evalOps P cf ops r (putA a o.dst x.1) x.2
  else evalOps P cf ops r (putA a o.dst undef) H

inductive OKind where
 | quiet
 | load
 | alloc
 | effect
 deriving DecidableEq

def okind (P : Program) : Op → OKind
 | .move _ | .assign _ | .pick _ _ _ | .build _ _ | .nilCheck _ | .binOp _ _ _ _ _ | .unOp _ _ _ | .makeInterface _ _ | .makeFunc _ _ _ | .fieldAddr _ _ _ | .field _ _ _ | .indexAddr _ _ _ | .index _ _ _ | .extract _ _ | .slice _ _ _ _ _ => .quiet
 | .load _ _ => .load
 | .alloc _ | .box _ _ | .buildSlice _ _ _ | .makeSlice _ _ _ => .alloc
 | .convert s d _ => match P.underlying s, P.underlying d with
  | some (.slice _), _ | _, some (.slice _) => .effect
  | some .unsafePointer, _ | _, some .unsafePointer => .effect
  | _, _ => .quiet
 | .call { callee := .builtin .min, .. } | .call { callee := .builtin .max, .. } => .quiet
 | .call { callee := .builtin .len, argTypes := ts, .. } => match (ts[0]?).bind P.underlying with
  | some (.map _ _) => .effect
  | _ => .quiet
 | _ => .effect

def anc (ops : Array Oper) : Nat → Nat → Nat → Bool
 | 0, _, _ => false
 | fuel + 1, i, j => match ops[j]? with
  | some o => o.after.any fun e => Region.binds .any e && (e.on == i || anc ops fuel i e.on)
  | none => false

def reads (ops : Array Oper) (o : Oper) : List Tmp :=
 (o.op.operands.toList.filterMap fun | .tmp t => some t | _ => none) ++ (match o.guard with | some (j, _) => ((ops[j]?).bind (·.dst)).toList | none => [])

def drawOk (P : Program) (ops : Array Oper) : Bool :=
 (List.range ops.size).all fun j => (match ops[j]? with | some o => o.after.toList.all fun e => !Region.binds .any e || decide (e.on < j) | none => true) && (List.range j).all fun i => match ops[i]?, ops[j]? with
  | some x, some y => anc ops ops.size i j ||
   (!(okind P x.op == .effect && okind P y.op == .effect) &&
    (match x.dst with | some d => !(reads ops y).contains d && y.dst != some d | none => true) &&
    (match y.dst with | some d => !(reads ops x).contains d | none => true))
  | _, _ => true

def veq : Nat → Value → Value → Bool
 | 0, _, _ => false
 | n + 1, a, b => match a, b with
  | .bool a, .bool b => a == b
  | .int j a, .int k b => j == k && a == b
  | .string a, .string b => a.data == b.data
  | .pointer a, .pointer b => a == b
  | .slice a n c, .slice b m d => a == b && n == m && c == d
  | .map a, .map b => a == b
  | .nilFunc, .nilFunc => true
  | .nilIface, .nilIface => true
  | .func f x y, .func g z w => f == g && x.size == z.size && y.size == w.size && ((x.toList.zip z.toList).all fun p => veq n p.1 p.2) && ((y.toList.zip w.toList).all fun p => veq n p.1 p.2)
  | _, _ => false
def cellsEq : List Value → List Value → Bool
 | [], [] => true
 | a :: r, b :: s => EqV.eq a b && cellsEq r s
 | _, _ => false

inductive Rec where
 | load (i b off : Nat) (vs : List Value)
 | alloc (i b : Nat) (vs : List Value) (sz : Nat) (ty : TypeId)
 | effect (i : Nat) (before behind : AH)
 | bad

def cellsAt (H : AH) (b off n : Nat) : Option (List Value) :=
 match H.get b with
 | .cells c _ _ _ => if b < H.next ∧ off + n ≤ c.length then some ((c.drop off).take n) else none
 | _ => none
def sameAt (H : AH) (b off : Nat) (vs : List Value) : Bool :=
 match cellsAt H b off vs.length with
 | some us => cellsEq us vs
 | none => false
def wholeAt (H : AH) (b : Nat) (vs : List Value) (sz : Nat) (ty : TypeId) : Bool :=
 match H.get b with
 | .cells c own sz' ty' => cellsEq c vs && own && sz == sz' && ty == ty'
 | _ => false

def isAggV : Value → Bool
 | .agg _ => true
 | _ => false
def recsOk (ops : Array Oper) (rs : List Rec) : Bool :=
 rs.all fun x => match x with
  | .effect k Hb Ha => rs.all fun y => match y with
   | .load i b off vs => anc ops ops.size i k || anc ops ops.size k i || (sameAt Hb b off vs && sameAt Ha b off vs)
   | .alloc i b vs sz ty => k < i || anc ops ops.size i k || wholeAt Ha b vs sz ty
   | _ => true
  | .bad => false
  | _ => true

def recOf (P : Program) (o : Oper) (i : Nat) (a : Env) (H : AH) (v : Value) (H' : AH) : List Rec :=
 match okind P o.op with
 | .quiet => []
 | .load => match o.op with
  | .load t x => match evA a x with
   | .pointer (some p) => if p.block < H.next ∧ isAgg? P t = some (isAggV v) then [.load i p.block p.off v.cells.toList] else [.bad]
   | .func (.method _) _ _ => []
   | _ => [.bad]
  | _ => []
 | .alloc => match H'.get H.next with
  | .cells c _ sz ty => [.alloc i H.next c sz ty]
  | _ => [.bad]
 | .effect => [.effect i H H']

def evalDraw (P : Program) (cf : Oracle) (ops : Array Oper) : List Oper → Nat → Env → AH → List Rec → Option (Env × AH × List Rec)
 | [], _, a, H, rs => some (a, H, rs)
 | o :: r, i, a, H, rs =>
  if wantedA ops o a then (doOp P cf o a H).bind fun x => evalDraw P cf ops r (i + 1) (putA a o.dst x.1) x.2 (recOf P o i a H x.1 x.2 ++ rs)
  else evalDraw P cf ops r (i + 1) (putA a o.dst undef) H rs

def evalRegion (P : Program) (cf : Oracle) (ops : Array Oper) (draw : Bool) (a : Env) (H : AH) : Option (Env × AH) :=
 if draw then
  if drawOk P ops then match evalDraw P cf ops ops.toList 0 a H [] with
   | some (a', H', rs) => if recsOk ops rs then some (a', H') else none
   | none => none
  else none
 else evalOps P cf ops ops.toList a H

inductive AEx where
 | normal
 | exit (id : Nat)
 | ret
 deriving DecidableEq

def iter {α : Type} (f : Env → AH → Option (AEx × Env × AH)) : Nat → Env → AH → Option (AEx × Env × AH)
 | 0, _, _ => none
 | n + 1, a, H => match f a H with
  | some (.normal, a', H') => iter (α := α) f n a' H'
  | r => r

def jumpOf : Option Code → Option AEx
 | none => some .normal
 | some .ret => some .ret
 | some (.exit id) => some (.exit id)
 | _ => none

def evalCode (P : Program) (cf : Oracle) (n : Nat) : Code → Env → AH → Option (AEx × Env × AH)
 | .skip, a, H | .label _, a, H => some (.normal, a, H)
 | .region _ ops draw, a, H => (evalRegion P cf ops draw a H).map fun x => (.normal, x.1, x.2)
 | .seq x y, a, H => match evalCode P cf n x a H with
  | some (.normal, a', H') => evalCode P cf n y a' H'
  | r => r
 | .cond c t e, a, H => match evA a c with
  | .bool true => evalCode P cf n t a H
  | .bool false => evalCode P cf n e a H
  | _ => none
 | .block id b, a, H => match evalCode P cf n b a H with
  | some (.exit id', a', H') => if id' = id then some (.normal, a', H') else some (.exit id', a', H')
  | r => r
 | .loop b, a, H => iter (α := Unit) (fun a H => evalCode P cf n b a H) n a H
 | .exit id, a, H => some (.exit id, a, H)
 | .ret, a, H => some (.ret, a, H)
 | .rangeFunc f ps asg body, a, H => match evA a f with
  | .func (.func g) first captured =>
   if (P.funcs[g]?).any (·.body.isSome) = false then none else
   match cf (.fn g) (first.toList ++ [.func (.yield H.next) #[] #[]] ++ captured.toList) (H.push (.loop a ps.toList asg body 0 none)) with
   | some (_, H2) => match H2.get H.next with
    | .loop _ _ _ _ st pend => if st = 1 then none else (jumpOf pend).map fun e => (e, a, H2.set H.next .dead)
    | _ => none
   | none => none
  | _ => none
 | .scope b, a, H => evalCode P cf n b a H
 | .goto _, _, _ | .refuse _, _, _ => none

def aresult1 (P : Program) (a : Env) (H : AH) : ResultVar → Option Value
 | .tmp t => some (a.getD t undef)
 | .cell x t => aload P t (a.getD x undef) H
def tupleOf : List Value → Value
 | [v] => v
 | vs => .tuple vs.toArray
def aresults (P : Program) (fn : Func) (a : Env) (H : AH) : Option Value := (fn.results.toList.mapM (aresult1 P a H)).map tupleOf

def putAll (a : Env) : List (Tmp × Value) → Env
 | [] => a
 | (t, v) :: r => putAll (a.set t v) r

abbrev Summ := FuncId → Option (List Value → AH → Option (Value × AH))

def aextern (P : Program) (f : FuncId) (args : List Value) (H : AH) : Option (Value × AH) :=
 if args.all flat1 then match pureRun P (callFunc f args.toArray) with
  | some (.value v) => if flat v then some (v, H) else none
  | _ => none
 else none

def Summ.ap (S : Summ) (f : FuncId) (args : List Value) (H : AH) : Option (Value × AH) := match S f with
 | some s => s args H
 | none => none
theorem Summ.ap_some {S : Summ} {f : FuncId} {args : List Value} {H : AH} {r : Value × AH} (h : S.ap f args H = some r) : ∃ s, S f = some s ∧ s args H = some r := by
 unfold Summ.ap at h
 split at h
 ·exact ⟨_, ‹_›, h⟩
 ·cases h

def ev (P : Program) (S : Summ) : Nat → Oracle
 | 0, _, _, _ => none
 | n + 1, .fn f, args, H => match S.ap f args H with
  | some r => some r
  | none => match P.funcs[f]? with
   | some fn => match fn.body with
    | some c => match evalCode P (ev P S n) n c (args ++ List.replicate (fn.ntmps - args.length) undef) H with
     | some (.exit _, _, _) | none => none
     | some (_, a', H') => (aresults P fn a' H').map fun v => (v, H')
    | none => aextern P f args H
   | none => none
 | n + 1, .yld l, args, H => match H.get l with
  | .loop tmps ps asg body 0 none =>
   if args.length = ps.length then
    match evalCode P (ev P S n) n asg (putAll tmps (ps.zip args)) H with
    | some (.normal, a1, H1) => match H1.get l with
     | .loop tmps' ps' asg' body' 0 pend' => match evalCode P (ev P S n) n body a1 (H1.set l (.loop tmps' ps' asg' body' 1 pend')) with
      | some (e, _, H2) => match H2.get l with
       | .loop tmps' ps' asg' body' _ _ => some (match e with
        | .normal => (.bool true, H2.set l (.loop tmps' ps' asg' body' 0 none))
        | .ret => (.bool false, H2.set l (.loop tmps' ps' asg' body' 2 (some .ret)))
        | .exit id => (.bool false, H2.set l (.loop tmps' ps' asg' body' 2 (some (.exit id)))))
       | _ => none
      | none => none
     | _ => none
    | _ => none
   else none
  | _ => none

end Go.AM
