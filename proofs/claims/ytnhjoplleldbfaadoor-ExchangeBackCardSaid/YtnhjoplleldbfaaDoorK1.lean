/-
  Values, stores and what they stand for in a world: the parts of a simulation of the code by plain states. No condition.
-/
import Derived.WalkKit
import Derived.Orders
import Derived.Deep.LoopGhost
import Derived.ChangeKeysEq
import Derived.Laws.IdiomStrings
import Derived.Lib.Strings
import Derived.ShutString
import Derived.Maps.AppendAt
/-
  NU, text 1: plain values, the plain code into which a function's body is compiled, and its evaluator. It speaks of no statement of its own; nothing here is trusted.
-/
namespace Go.Nu
open Go Go.RowKit

/-- A plain value. 'sl tag e es': a slice with elements es of element type e ('tag': whose row it may be appended to); 'agg t fs': a struct or an array of type t; 'rp v': a pointer to memory that holds v and is not written any more; 'rf d p': a pointer into the box that slot d made; 'it d': an iterator over a string; 'itc': what such an iterator's block holds; 'bld tg t e bs': what a strings.Builder's block holds (its bytes lie in row tg). -/
inductive V where
  | junk
  | bool (b : Bool)
  | int (k : IntKind) (n : Int)
  | str (s : List UInt8)
  | sl (tag : Option Nat) (e : TypeId) (es : List V)
  | agg (t : TypeId) (fs : List V)
  | tup (vs : List V)
  | rp (v : V)
  | rf (d : Nat) (path : List Nat)
  | it (d : Nat)
  | itc (s : List UInt8) (pos : Nat)
  | bld (tg : Nat) (t e : TypeId) (bs : List UInt8)
  | nilp
  | iface (t : TypeId) (v : V)
  | nili
  | fn (f : FuncId) (caps : List V)
  deriving Inhabited

def V.mem : V → Bool
  | .junk | .tup _ | .rf _ _ | .it _ | .itc _ _ | .bld _ _ _ _ => false
  | _ => true

def V.isAgg : V → Bool
  | .agg _ _ => true
  | _ => false

mutual
def V.untag : V → V
  | .junk => .junk
  | .bool b => .bool b
  | .int k n => .int k n
  | .str s => .str s
  | .sl _ e es => .sl none e es
  | .agg t fs => .agg t (V.untags fs)
  | .tup vs => .tup (V.untags vs)
  | .rp v => .rp v
  | .rf d p => .rf d p
  | .it d => .it d
  | .itc s p => .itc s p
  | .bld g t e bs => .bld g t e bs
  | .nilp => .nilp
  | .iface t v => .iface t (V.untag v)
  | .nili => .nili
  | .fn f caps => .fn f caps
def V.untags : List V → List V
  | [] => []
  | v :: vs => V.untag v :: V.untags vs
end

/-- Rows of builders have numbers from bldT on. 'nilT': the tag of a slice that is surely nil. -/
def bldT : Nat := 3000000
def nilT : Nat := 5900000
/-- The tag of a slice that surely has no room. -/
def zerT : Nat := 5800000
/-- Hints that turn a surely nil field into a row: their numbers. -/
def nlB : Nat := 6000000
def isBld (d : Nat) : Bool := Nat.ble bldT d && Nat.ble d (bldT + 2000000)
/-- A row that may be appended to in the open. -/
def okRow (d : Nat) : Bool := !isBld d && (!Nat.beq d nilT && !Nat.beq d zerT)

mutual
/-- Its nil slices are surely nil. -/
def V.flagN : V → V
  | .sl tg e es => match tg, es with
    | none, [] => .sl (some nilT) e []
    | tg, es => .sl tg e es
  | .agg t fs => .agg t (V.flagNs fs)
  | v => v
def V.flagNs : List V → List V
  | [] => []
  | v :: vs => V.flagN v :: V.flagNs vs
end

/-- 'agg (rowT + e) es': a row of elements that may be written ('make'). -/
def rowT : Nat := 1000000

/-- The cells that a value takes. -/
def width (P : Program) : V → Nat
  | .agg t fs => if rowT ≤ t then fs.length * P.cellsOf (t - rowT) else P.cellsOf t
  | _ => 1

/-- The sizes of the parts of a struct's or an array's type. -/
def sizes (P : Program) (t : TypeId) : Option (List Nat) :=
  match P.underlying t with
  | some (.struct fs) => some (fs.toList.map fun f => P.cellsOf f.type)
  | some (.array n e) => some (List.replicate n (P.cellsOf e))
  | _ => none

mutual
/-- One value may stand where the other stood. -/
def V.alike : V → V → Bool
  | .agg t fs, y => match y with
    | .agg u gs => t == u && V.alikes fs gs
    | _ => false
  | _, y => !y.isAgg
def V.alikes : List V → List V → Bool
  | [], gs => match gs with
    | [] => true
    | _ :: _ => false
  | f :: fs, gs => match gs with
    | [] => false
    | g :: gs => V.alike f g && V.alikes fs gs
end

/-- The part of a value at a path. -/
def V.at_ : V → List Nat → Option V
  | v, [] => some v
  | .agg _ fs, i :: p => match fs[i]? with
    | some f => V.at_ f p
    | none => none
  | _, _ :: _ => none

def V.setAt : V → List Nat → V → V
  | _, [], x => x
  | .agg t fs, i :: p, x => .agg t (fs.set i (V.setAt (fs.getD i .junk) p x))
  | v, _ :: _, _ => v

/-- Where the part at a path begins. -/
def pathOff (P : Program) : V → List Nat → Option Nat
  | _, [] => some 0
  | .agg _ fs, i :: p => match fs[i]? with
    | some f => (pathOff P f p).map (((fs.take i).map (width P)).sum + ·)
    | none => none
  | _, _ :: _ => none

inductive X where
  | t (n : Nat)
  | v (x : V)

structure St where
  s : Nat → V
  bx : Nat → Option V
  fr : Nat → Option (TypeId × Nat)

def upd {α : Type} (f : Nat → α) (d : Nat) (v : α) : Nat → α := fun i => if i = d then v else f i

def St.put (st : St) (d : Nat) (v : V) : St := { st with s := upd st.s d v }
def St.putO (st : St) (d : Option Nat) (v : V) : St :=
  match d with
  | some d => st.put d v
  | none => st

def X.ev (st : St) : X → V
  | .t n => st.s n
  | .v x => x

def V.notRow : V → Bool
  | .agg t _ => decide (¬ rowT ≤ t)
  | _ => true

/-- What an operation does, by the tables that it looks into. -/
inductive Kd where
  | P (f : List V → Option V)
  | L (f : List V → (Nat → Option V) → Option V)
  | S (f : List V → (Nat → Option V) → Option (Nat × V × V))
  | A (f : List V → Option V)
  | N (f : List V → Option (TypeId × List V))
  | F (f : List V → (Nat → Option (TypeId × Nat)) → Option (Nat × TypeId × List V))
  | C (f : List V → (Nat → Option V) → (Nat → Option (TypeId × Nat)) → Option (Nat × V × Nat × (TypeId × Nat) × V))

def refTo (d : Nat) : V → V
  | .itc _ _ => .it d
  | .agg t _ => if rowT ≤ t then .it d else .rf d []
  | _ => .rf d []

def stepK (dst : Option Nat) (args : List V) (kd : Kd) (st : St) : Option St :=
  match kd with
  | .P f => match f args with
    | some v => some (st.putO dst v)
    | none => none
  | .L f => match f args st.bx with
    | some v => some (st.putO dst v)
    | none => none
  | .S f => match f args st.bx with
    | some (id, c, r) => match st.bx id with
      | some _ => some ({ st with bx := upd st.bx id (some c) }.putO dst r)
      | none => none
    | none => none
  | .A f => match dst with
    | some d => match st.bx d with
      | some _ => none
      | none => match f args with
        | some c => some ({ st with bx := upd st.bx d (some c) }.put d (refTo d c))
        | none => none
    | none => none
  | .N f => match dst with
    | some d => match st.fr d with
      | some _ => none
      | none => match f args with
        | some (e, es) => some ({ st with fr := upd st.fr d (some (e, es.length)) }.put d (.sl (some d) e es))
        | none => none
    | none => none
  | .F f => match f args st.fr with
    | some (id, e, es) => match st.fr id with
      | some _ => some ({ st with fr := upd st.fr id (some (e, es.length)) }.putO dst (.sl (some id) e es))
      | none => none
    | none => none
  | .C f => match f args st.bx st.fr with
    | some (id, c, r, x, v) => some ({ st with bx := upd st.bx id (some c), fr := upd st.fr r (some x) }.putO dst v)
    | none => none

/-- What is known of functions that are called: of one that turns no box ('p'); of one that turns the box that it has on loan ('l': the arguments, what the box holds: what it holds then, and the result); of one that returns a new box ('n': what it holds); of a builder's method ('b': the types of builders and of bytes). -/
structure Ext where
  p : FuncId → List V → Option V
  l : FuncId → List V → V → Option (V × V)
  n : FuncId → List V → Option V
  b : FuncId → Option (TypeId × TypeId)
  /-- The functions that panic at these arguments, with an empty struct of this type. -/
  x : FuncId → List V → Option TypeId

/-- The box that a call has on loan from its caller. -/
def lentT : Nat := 2000000
def lendV : V → Option (Nat × V)
  | .rf b [] => some (b, .rf lentT [])
  | .it b => some (b, .it lentT)
  | _ => none
/-- The arguments of a call, one of them on loan. -/
def lendL : List V → Option (Option Nat × List V)
  | [] => some (none, [])
  | v :: vs => match lendL vs with
    | some (o, ws) => if v.mem then some (o, v.untag :: ws) else match o with
      | none => match lendV v with
        | some (b, w) => some (some b, w :: ws)
        | none => none
      | some _ => none
    | none => none
def cbV (l : List V → V → Option (V × V)) (args : List V) (bx : Nat → Option V) : Option (Nat × V × V) :=
  match lendL args with
  | some (some b, as) => match bx b with
    | some ct => if ct.mem then match l as ct.untag with
        | some (ct', r) => if ct.alike ct' && ct'.mem then some (b, ct', r) else none
        | none => none
      else none
    | none => none
  | _ => none

def big : Nat := 68719476736

def binV (op : BinOp) : V → V → Option V
  | .int k a, .int k' b =>
    match op with
    | .shl => if b < 0 then none else some (.int k (k.wrap (a * 2 ^ (min b.toNat k.bits))))
    | .shr => if b < 0 then none else some (.int k (a.fdiv (2 ^ (min b.toNat k.bits))))
    | op => if k = k' then
        match op with
        | .add => some (.int k (k.wrap (a + b)))
        | .sub => some (.int k (k.wrap (a - b)))
        | .mul => some (.int k (k.wrap (a * b)))
        | .quo => if b = 0 then none else some (.int k (k.wrap (a.tdiv b)))
        | .rem => if b = 0 then none else some (.int k (a.tmod b))
        | .and => some (.int k (k.wrap (BitVec.ofInt k.bits a &&& BitVec.ofInt k.bits b).toNat))
        | .or => some (.int k (k.wrap (BitVec.ofInt k.bits a ||| BitVec.ofInt k.bits b).toNat))
        | .xor => some (.int k (k.wrap (BitVec.ofInt k.bits a ^^^ BitVec.ofInt k.bits b).toNat))
        | .andNot => some (.int k (k.wrap (BitVec.ofInt k.bits a &&& ~~~ BitVec.ofInt k.bits b).toNat))
        | .eql => some (.bool (a == b))
        | .neq => some (.bool (a != b))
        | .lss => some (.bool (decide (a < b)))
        | .leq => some (.bool (decide (a ≤ b)))
        | .gtr => some (.bool (decide (a > b)))
        | .geq => some (.bool (decide (a ≥ b)))
        | _ => none
      else none
  | .str a, .str b =>
    match op with
    | .add => if a.length + b.length ≤ big then some (.str (a ++ b)) else none
    | .eql => some (.bool (a == b))
    | .neq => some (.bool (!(a == b)))
    | .lss => some (.bool (Op.bytesLess a b))
    | .leq => some (.bool (Op.bytesLess a b || a == b))
    | .gtr => some (.bool (!(Op.bytesLess a b || a == b)))
    | .geq => some (.bool (!(Op.bytesLess a b)))
    | _ => none
  | _, _ => none

def unV (op : UnOp) : V → Option V
  | .bool b => match op with
    | .not => some (.bool (!b))
    | _ => none
  | .int k n => match op with
    | .neg => some (.int k (k.wrap (0 - n)))
    | _ => none
  | _ => none

def lenV (e : Option TypeId) : V → Option V
  | .str l => if e.isSome then none else some (.int .i64 l.length)
  | .sl _ _ es => if e.isSome then some (.int .i64 es.length) else none
  | _ => none

/-- As lenV; of a row that may be written, too. -/
def lenB (e : Option TypeId) (x : V) (bx : Nat → Option V) : Option V :=
  match x with
  | .it d => match e, bx d with
    | some e, some (.agg t es) => if t = rowT + e then some (.int .i64 es.length) else none
    | _, _ => none
  | x => lenV e x

def idxV : V → V → Option V
  | .str l, .int _ i => if 0 ≤ i ∧ i < l.length then some (.int .u8 (l.getD i.toNat 0).toNat) else none
  | _, _ => none

def eaV (e : TypeId) : V → V → Option V
  | .sl _ e' es, .int _ i => if e' = e then if 0 ≤ i ∧ i < es.length then some (.rp (es.getD i.toNat .junk)) else none else none
  | _, _ => none

/-- As eaV; of a row that may be written, too. -/
def eaB (e : TypeId) (x i : V) (bx : Nat → Option V) : Option V :=
  match x with
  | .it d => match i, bx d with
    | .int _ i, some (.agg t es) => if t = rowT + e then if 0 ≤ i ∧ i < es.length then some (.rf d [i.toNat]) else none else none
    | _, _ => none
  | x => eaV e x i

/-- A cut of an array that is not written any more. -/
def saV (t e : TypeId) : V → Option V → Option V → Option V
  | .rp (.agg t' l), lo, hi =>
    if t' ≠ t then none else
    match (match lo with | none => some 0 | some (.int _ i) => some i | _ => none), (match hi with | none => some (l.length : Int) | some (.int _ i) => some i | _ => none) with
    | some a, some b => if 0 ≤ a ∧ a ≤ b ∧ b ≤ l.length then some (.sl none e ((l.take b.toNat).drop a.toNat)) else none
    | _, _ => none
  | _, _, _ => none

def faV (t : TypeId) (f : Nat) (x : V) (bx : Nat → Option V) : Option V :=
  match x with
  | .rp (.agg t' fs) => if t' = t then match fs[f]? with
      | some v => some (.rp v)
      | none => none
    else none
  | .rf d p => match bx d with
    | some c => match c.at_ p with
      | some (.agg t' fs) => if t' = t then if f < fs.length then some (.rf d (p ++ [f])) else none else none
      | _ => none
    | none => none
  | _ => none

def aaV (t : TypeId) (x i : V) (bx : Nat → Option V) : Option V :=
  match x, i with
  | .rp (.agg t' fs), .int _ i => if t' = t then if 0 ≤ i ∧ i < fs.length then some (.rp (fs.getD i.toNat .junk)) else none else none
  | .rf d p, .int _ i => match bx d with
    | some c => match c.at_ p with
      | some (.agg t' fs) => if t' = t then if 0 ≤ i ∧ i < fs.length then some (.rf d (p ++ [i.toNat])) else none else none
      | _ => none
    | none => none
  | _, _ => none

/-- Is v a value of the shape that a load at this type gives? -/
def fitsT (t : Option TypeId) : V → Bool
  | .agg t' _ => t == some t'
  | v => t == none && v.mem

def fdV (t : TypeId) (f : Nat) (tt : Option TypeId) : V → Option V
  | .agg t' fs => if t' = t then match fs[f]? with
      | some v => if fitsT tt v then some v else none
      | none => none
    else none
  | _ => none

def ldV (t : Option TypeId) (x : V) (bx : Nat → Option V) : Option V :=
  match x with
  | .rp v => if fitsT t v then some v else none
  | .rf d p => match bx d with
    | some c => match c.at_ p with
      | some v => if fitsT t v then some v else none
      | none => none
    | none => none
  | _ => none

def stV (t : Option TypeId) (x y : V) (bx : Nat → Option V) : Option (Nat × V × V) :=
  match x with
  | .rf d p => match bx d with
    | some c => match c.at_ p with
      | some v => if fitsT t y && v.alike y && y.mem && c.mem then some (d, c.setAt p y, .tup []) else none
      | none => none
    | none => none
  | _ => none

def setL (fs : List V) : List Nat → List V → Option (List V)
  | [], [] => some fs
  | i :: is, x :: xs => match fs[i]? with
    | some f => if f.alike x && x.mem then setL (fs.set i x) is xs else none
    | none => none
  | _, _ => none

def scV (e : Option TypeId) : V → Option V → Option V → Option V
  | .str l, lo, hi =>
    if e.isSome then none else
    match (match lo with | none => some 0 | some (.int _ i) => some i | _ => none), (match hi with | none => some (l.length : Int) | some (.int _ i) => some i | _ => none) with
    | some a, some b => if 0 ≤ a ∧ a ≤ b ∧ b ≤ l.length then some (.str ((l.take b.toNat).drop a.toNat)) else none
    | _, _ => none
  | .sl _ e' l, lo, hi =>
    if e ≠ some e' then none else
    match (match lo with | none => some 0 | some (.int _ i) => some i | _ => none), (match hi with | none => some (l.length : Int) | some (.int _ i) => some i | _ => none) with
    | some a, some b => if 0 ≤ a ∧ a ≤ b ∧ b ≤ l.length then some (.sl none e' ((l.take b.toNat).drop a.toNat)) else none
    | _, _ => none
  | _, _, _ => none

def byteOf : V → Option UInt8
  | .int .u8 n => if 0 ≤ n ∧ n < 256 then some (UInt8.ofNat n.toNat) else none
  | _ => none
def bytesOfV : List V → Option (List UInt8)
  | [] => some []
  | v :: vs => match byteOf v, bytesOfV vs with
    | some b, some bs => some (b :: bs)
    | _, _ => none
def byteV (b : UInt8) : V := .int .u8 b.toNat

def elemsOf (e : TypeId) : V → Option (List V)
  | .sl _ e' es => if e' = e then some es else match es with
    | [] => some []
    | _ => none
  | _ => none

def apV (e : TypeId) (x y : V) (fr : Nat → Option (TypeId × Nat)) : Option (Nat × TypeId × List V) :=
  match x with
  | .sl (some id) e' es => if okRow id = true ∧ e' = e then match fr id with
    | some (e'', n) => if e'' = e then match elemsOf e y with
      | some es2 => if n = es.length then if es.length + es2.length ≤ big then some (id, e, es ++ es2) else none else none
      | none => none
      else none
    | none => none
    else none
  | _ => none

/-- What is appended to a slice that has no room: a new row, written from now on. -/
def cxV (e : TypeId) (x y : V) : Option V :=
  match x with
  | .sl (some t) e' [] => if (t = nilT ∨ t = zerT) ∧ e' = e then match elemsOf e y with
    | some (z :: es) => if (z :: es).length ≤ big then some (.agg (rowT + e) (z :: es)) else none
    | _ => none
    else none
  | _ => none

def nextV (x : V) (bx : Nat → Option V) : Option (Nat × V × V) :=
  match x with
  | .it d => match bx d with
    | some (.itc l pos) => if pos < l.length then
        some (d, .itc l (pos + (Utf8.decode ⟨l.toArray⟩ pos).2), .tup [.bool true, .int .i64 pos, .int .i32 (Utf8.decode ⟨l.toArray⟩ pos).1])
      else some (d, .itc l pos, .tup [.bool false])
    | _ => none
  | _ => none

/-- What a builder's methods do. -/
inductive BK where
  | wstr | wbyte | str | len
  deriving DecidableEq
def bldR (k : BK) (bs : List UInt8) (as : List V) : Option (List UInt8 × V) :=
  match k, as with
  | .wstr, [.str s] => if bs.length + s.length ≤ big then some (bs ++ s, .tup [.int .i64 s.length, .nili]) else none
  | .wbyte, [v] => match byteOf v with
    | some c => if bs.length + 1 ≤ big then some (bs ++ [c], .nili) else none
    | none => none
  | .str, [] => some (bs, .str bs)
  | .len, [] => some (bs, .int .i64 bs.length)
  | _, _ => none
def bldV (te : Option (TypeId × TypeId)) (k : BK) (args : List V) (bx : Nat → Option V) (fr : Nat → Option (TypeId × Nat)) : Option (Nat × V × Nat × (TypeId × Nat) × V) :=
  match te, args with
  | some (t, e), .rf b [] :: as => match bx b with
    | some (.bld tg t' e' bs) => match fr tg with
      | some (e2, n) => if (t' = t ∧ e' = e) ∧ (e2 = e ∧ n = bs.length) ∧ b ≠ lentT ∧ isBld tg = true then
          match bldR k bs as with
          | some (bs', r) => some (b, .bld tg t e bs', tg, (e, bs'.length), r)
          | none => none
        else none
      | none => none
    | _ => none
  | _, _ => none

def isPtr : V → Bool
  | .rp _ | .rf _ _ | .fn _ _ => true
  | _ => false

/-- What is compared. -/
inductive EqK where
  | ifc
  | ptr
  | st (ks : List Nat)
  /-- Slices beside nil: not told here. -/
  | no
def eq1 : Nat → V → V → Option Bool
  | 0, .bool a, .bool b => some (a == b)
  | 1, .int k a, .int k' b => if k = k' then some (a == b) else none
  | 2, .str a, .str b => some (a == b)
  | _, _, _ => none
def eqsV : List Nat → List V → List V → Option Bool
  | [], [], [] => some true
  | k :: ks, x :: xs, y :: ys => match eq1 k x y, eqsV ks xs ys with
    | some a, some b => some (a && b)
    | _, _ => none
  | _, _, _ => none
def eqV : EqK → V → V → Option Bool
  | .ifc, .nili, .nili => some true
  | .ifc, .nili, .iface _ _ => some false
  | .ifc, .iface _ _, .nili => some false
  | .ptr, .nilp, .nilp => some true
  | .ptr, .nilp, .rp _ => some false
  | .ptr, .nilp, .rf _ _ => some false
  | .ptr, .rp _, .nilp => some false
  | .ptr, .rf _ _, .nilp => some false
  | .st ks, .agg _ xs, .agg _ ys => eqsV ks xs ys
  | _, _, _ => none

/-- The plain operations. -/
inductive PO where
  | mv (d : Option Nat) (x : X)
  | nl (d : Nat) (e : TypeId)
  | pick (d : Nat) (c a b : X)
  | ar (d : Nat) (op : BinOp) (x y : X)
  | eb (d : Nat) (neg : Bool) (x y : X)
  | se (d : Nat) (k : EqK) (neg : Bool) (x y : X)
  | mn (d : Nat) (mx : Bool) (x y : X)
  | mf (d : Nat) (f : FuncId) (xs : List X)
  | un (d : Nat) (op : UnOp) (x : X)
  | ln (d : Nat) (e : Option TypeId) (x : X)
  | ix (d : Nat) (x i : X)
  | ea (d : Nat) (e : TypeId) (x i : X)
  | fa (d : Nat) (t : TypeId) (f : Nat) (x : X)
  | aa (d : Nat) (t : TypeId) (x i : X)
  | fd (d : Nat) (t : TypeId) (f : Nat) (tt : Option TypeId) (x : X)
  | ld (d : Nat) (t : Option TypeId) (x : X)
  | st (t : Option TypeId) (x y : X)
  | bx (d : Nat) (t : Option TypeId) (x : X)
  | al (d : Nat) (z : V)
  | bs (d : Nat) (e : TypeId) (t : Option TypeId) (xs : List X)
  | bd (d : Nat) (t : TypeId) (z : List V) (is : List Nat) (xs : List X)
  | mk (d : Nat) (e : TypeId) (z : V) (n c : X)
  | ap (d : Nat) (e : TypeId) (x y : X)
  | sc (d : Nat) (e : Option TypeId) (x : X) (lo hi : Option X)
  | cvi (d : Nat) (k : IntKind) (x : X)
  | cvs (d : Nat) (e : TypeId) (x : X)
  | cvb (d : Nat) (x : X)
  | cvS (d : Nat) (x : X)
  | mi (d : Nat) (t : TypeId) (x : X)
  | ex (d : Nat) (i : Nat) (x : X)
  | ca (d : Option Nat) (f : FuncId) (xs : List X)
  | cd (d : Option Nat) (f : X) (xs : List X)
  | cb (d : Option Nat) (f : FuncId) (xs : List X)
  | cn (d : Nat) (f : FuncId) (xs : List X)
  | ab (d : Nat) (t e : TypeId)
  | cw (d : Option Nat) (f : FuncId) (k : BK) (xs : List X)
  | nc (d : Option Nat) (x : X)
  | rg (d : Nat) (x : X)
  | nx (d : Nat) (x : X)
  | no (d : Option Nat)
  /-- A panic. -/
  | pn (x : X)
  | mm (d : Nat) (e : TypeId) (z : V) (n c : X)
  | sa (d : Nat) (t e : TypeId) (x : X) (lo hi : Option X)
  | lx (bs : List Nat) (d : Nat) (t : Option TypeId) (x : X)
  | fx (bs : List Nat) (d : Nat) (t : TypeId) (f : Nat) (x : X)
  | sx (b : Nat) (t : Option TypeId) (x y : X)
  /-- An element's address in a list that is not written: no box is looked at. -/
  | gx (d : Nat) (e : TypeId) (x i : X)
  | zs (d : Nat) (e : TypeId)
  | cx (d : Nat) (e : TypeId) (x y : X)

def PO.dst : PO → Option Nat
  | .mv d _ | .ca d _ _ | .cd d _ _ | .cb d _ _ | .cw d _ _ _ | .nc d _ | .no d => d
  | .nl d _ | .pick d _ _ _ | .ar d _ _ _ | .eb d _ _ _ | .un d _ _ | .ln d _ _ | .ix d _ _ | .ea d _ _ _ | .fa d _ _ _ | .aa d _ _ _ | .fd d _ _ _ _ | .ld d _ _
  | .bx d _ _ | .al d _ | .bs d _ _ _ | .bd d _ _ _ _ | .mk d _ _ _ _ | .ap d _ _ _ | .sc d _ _ _ _ | .cvi d _ _ | .cvs d _ _ | .cvb d _ | .cvS d _ | .mi d _ _
  | .ex d _ _ | .rg d _ | .nx d _ | .mm d _ _ _ _ | .sa d _ _ _ _ _ | .cn d _ _ | .ab d _ _ | .se d _ _ _ _ | .mn d _ _ _ | .mf d _ _ | .lx _ d _ _ | .fx _ d _ _ _ | .gx d _ _ _ | .zs d _ | .cx d _ _ _ => some d
  | .st _ _ _ | .sx _ _ _ _ | .pn _ => none

def PO.args : PO → List X
  | .mv _ x | .un _ _ x | .ln _ _ x | .fa _ _ _ x | .fd _ _ _ _ x | .ld _ _ x | .bx _ _ x | .cvi _ _ x | .cvs _ _ x | .cvb _ x | .cvS _ x | .mi _ _ x | .ex _ _ x | .nc _ x
  | .rg _ x | .nx _ x | .pn x | .lx _ _ _ x | .fx _ _ _ _ x => [x]
  | .nl _ _ | .al _ _ | .ab _ _ _ | .no _ | .zs _ _ => []
  | .pick _ c a b => [c, a, b]
  | .ar _ _ x y | .eb _ _ x y | .se _ _ _ x y | .mn _ _ x y | .st _ x y | .ix _ x y | .ea _ _ x y | .aa _ _ x y | .mk _ _ _ x y | .mm _ _ _ x y | .ap _ _ x y | .sx _ _ x y | .gx _ _ x y | .cx _ _ x y => [x, y]
  | .bs _ _ _ xs | .bd _ _ _ _ xs | .ca _ _ xs | .cb _ _ xs | .cn _ _ xs | .cw _ _ _ xs | .mf _ _ xs => xs
  | .sc _ _ x lo hi | .sa _ _ _ x lo hi => x :: (lo.toList ++ hi.toList)
  | .cd _ f xs => f :: xs

/-- A reference to none of these boxes; to this box. -/
def offV (bs : List Nat) : V → Bool
  | .rf id _ => !bs.contains id
  | _ => true
def onV (b : Nat) : V → Bool
  | .rf id _ => Nat.beq id b
  | _ => false

def PO.kd (E : Ext) : PO → Kd
  | .mv _ _ => .P fun | [x] => some x | _ => none
  | .nl _ e => .N fun | [] => some (e, []) | _ => none
  | .pick _ _ _ _ => .P fun | [.bool c, a, b] => some (if c then a else b) | _ => none
  | .ar _ op _ _ => .P fun | [x, y] => binV op x y | _ => none
  | .eb _ neg _ _ => .P fun | [.bool x, .bool y] => some (.bool (if neg then !(x == y) else x == y)) | _ => none
  | .se _ k neg _ _ => .P fun | [x, y] => (match eqV k x y with | some b => some (.bool (if neg then !b else b)) | none => none) | _ => none
  | .mf _ f _ => .P fun xs => if xs.all (fun x => x.mem && !x.isAgg) then some (.fn f (V.untags xs)) else none
  | .mn _ mx _ _ => .P fun | [.int k a, .int _ b] => some (.int k (if mx then max a b else min a b)) | _ => none
  | .un _ op _ => .P fun | [x] => unV op x | _ => none
  | .ln _ e _ => .L fun | [x], b0 => lenB e x b0 | _, _ => none
  | .ix _ _ _ => .P fun | [x, i] => idxV x i | _ => none
  | .ea _ e _ _ => .L fun | [x, i], b0 => eaB e x i b0 | _, _ => none
  | .fa _ t f _ => .L fun | [x], b0 => faV t f x b0 | _, _ => none
  | .aa _ t _ _ => .L fun | [x, i], b0 => aaV t x i b0 | _, _ => none
  | .fd _ t f tt _ => .P fun | [x] => fdV t f tt x | _ => none
  | .ld _ t _ => .L fun | [x], b0 => ldV t x b0 | _, _ => none
  | .st t _ _ => .S fun | [x, y], b0 => stV t x y b0 | _, _ => none
  | .bx _ t _ => .A fun | [x] => if fitsT t x && x.mem && x.notRow then some x else none | _ => none
  | .al _ z => .A fun | [] => if z.notRow then some z else none | _ => none
  | .bs _ e t _ => .N fun xs => if xs.all (fun x => fitsT t x && x.mem) then some (e, V.untags xs) else none
  | .bd _ t z is _ => .P fun xs => match setL z is xs with
    | some fs => some (.agg t fs)
    | none => none
  | .mk _ e z _ _ => .N fun | [.int _ n, .int _ c] => if 0 ≤ n ∧ n ≤ c ∧ c ≤ big then some (e, List.replicate n.toNat z) else none | _ => none
  | .ap _ e _ _ => .F fun | [x, y], fr => apV e x y fr | _, _ => none
  | .sc _ e _ lo hi => .P fun xs => match xs, lo.isSome, hi.isSome with
    | [x], false, false => scV e x none none
    | [x, a], true, false => scV e x (some a) none
    | [x, b], false, true => scV e x none (some b)
    | [x, a, b], true, true => scV e x (some a) (some b)
    | _, _, _ => none
  | .cvi _ k _ => .P fun | [.int _ n] => some (.int k (k.wrap n)) | _ => none
  | .cvs _ e _ => .P fun | [.str l] => if l.length ≤ big then some (.sl none e (l.map byteV)) else none | _ => none
  | .cvb _ _ => .P fun | [.sl _ _ es] => (match bytesOfV es with | some l => some (.str l) | none => none) | _ => none
  | .cvS _ _ => .P fun | [.str l] => some (.str l) | _ => none
  | .mi _ t _ => .P fun | [x] => if x.mem then some (.iface t x.untag) else none | _ => none
  | .ex _ i _ => .P fun | [.tup vs] => vs[i]? | _ => none
  | .ca _ f _ => .P fun xs => if xs.all V.mem then E.p f (V.untags xs) else none
  | .cd _ _ _ => .P fun | .fn f caps :: xs => if xs.all V.mem then E.p f (V.untags xs ++ caps) else none | _ => none
  | .cb _ f _ => .S fun xs b0 => cbV (E.l f) xs b0
  | .cn _ f _ => .A fun xs => if xs.all V.mem then (match E.n f (V.untags xs) with | some ct => if ct.mem then some ct else none | none => none) else none
  | .ab d t e => .C fun args bx fr => match args, bx d, fr (bldT + d) with
    | [], none, none => if d < lentT then some (d, .bld (bldT + d) t e [], bldT + d, (e, 0), .rf d []) else none
    | _, _, _ => none
  | .cw _ f k _ => .C fun args bx fr => bldV (E.b f) k args bx fr
  | .nc _ _ => .P fun | [x] => if isPtr x then some x else none | _ => none
  | .rg _ _ => .A fun | [.str l] => some (.itc l 0) | _ => none
  | .nx _ _ => .S fun | [x], b0 => nextV x b0 | _, _ => none
  | .no _ => .P fun _ => none
  | .pn _ => .P fun _ => none
  | .mm _ e z _ _ => .A fun | [.int _ n, .int _ c] => if 0 ≤ n ∧ n = c ∧ c ≤ big then some (.agg (rowT + e) (List.replicate n.toNat z)) else none | _ => none
  | .sa _ t e _ lo hi => .P fun xs => match xs, lo.isSome, hi.isSome with
    | [x], false, false => saV t e x none none
    | [x, a], true, false => saV t e x (some a) none
    | [x, b], false, true => saV t e x none (some b)
    | [x, a, b], true, true => saV t e x (some a) (some b)
    | _, _, _ => none
  | .lx av _ t _ => .L fun | [x], b0 => if offV av x then ldV t x b0 else none | _, _ => none
  | .fx av _ t f _ => .L fun | [x], b0 => if offV av x then faV t f x b0 else none | _, _ => none
  | .gx _ e _ _ => .P fun | [x, i] => eaV e x i | _ => none
  | .sx b t _ _ => .S fun | [x, y], b0 => if onV b x then stV t x y b0 else none | _, _ => none
  | .zs _ e => .P fun | [] => some (.sl (some zerT) e []) | _ => none
  | .cx _ e _ _ => .A fun | [x, y] => cxV e x y | _ => none

structure PG where
  g : Option (Nat × Bool)
  po : PO

def step1 (E : Ext) (po : PO) (st : St) : Option St := stepK po.dst (po.args.map (X.ev st)) (po.kd E) st

/-- Does a guard want its operation? Unknown: nothing is said. -/
def guardV (v : V) (want : Bool) : Option Bool :=
  match v with
  | .bool b => some (b == want)
  | .tup [] => some false
  | _ => none

def stepG (E : Ext) (pg : PG) (st : St) : Option St :=
  match pg.g with
  | none => step1 E pg.po st
  | some (j, want) => match guardV (st.s j) want with
    | some true => step1 E pg.po st
    | some false => some (st.putO pg.po.dst (.tup []))
    | none => none

def stepL (E : Ext) : List PG → St → Option St
  | [], st => some st
  | pg :: l, st => match stepG E pg st with
    | some st' => stepL E l st'
    | none => none

/-- What a slot holds when box b is written no more (ct: what it holds). -/
def still (b : Nat) (ct : V) : V → V
  | .rf d p => if d = b then (match ct.at_ p with | some v => .rp v.untag | none => .junk) else .rf d p
  | .it d => if d = b then (match ct with | .agg t es => if rowT ≤ t then .sl none (t - rowT) (V.untags es) else .junk | _ => .junk) else .it d
  | v => v

def V.isItc : V → Bool
  | .itc _ _ => true
  | .bld _ _ _ _ => true
  | _ => false
def freeze (b : Nat) (st : St) : Option St :=
  match st.bx b with
  | some ct => if b = lentT ∨ ct.isItc = true then none else some ⟨fun i => still b ct (st.s i), upd st.bx b none, st.fr⟩
  | none => none

/-- A field of a struct in a box that is surely nil is a row of no elements from now on. -/
def nilRow (x : Nat) (st : St) : Option St :=
  match st.bx ((x - nlB) / 100), st.fr x with
  | some (.agg t fs), none => match fs[(x - nlB) % 100]? with
    | some (.sl (some d) e []) => if d = nilT ∧ ¬ rowT ≤ t ∧ okRow x = true then
        some { st with bx := upd st.bx ((x - nlB) / 100) (some (.agg t (fs.set ((x - nlB) % 100) (.sl (some x) e [])))), fr := upd st.fr x (some (e, 0)) } else none
    | _ => none
  | some (.sl (some d) e []), none => if d = nilT ∧ okRow x = true then some { st with bx := upd st.bx ((x - nlB) / 100) (some (.sl (some x) e [])), fr := upd st.fr x (some (e, 0)) } else none
  | _, _ => none

inductive PC where
  | skip
  | reg (l : List PG)
  | seq (a b : PC)
  | cond (x : X) (a b : PC)
  | block (id : Nat) (b : PC)
  | loop (b : PC)
  | exit (id : Nat)
  | ret
  | gh (b : Nat)

inductive Ex where
  | normal
  | exit (id : Nat)
  | ret
  /-- A panic with an empty struct of this type. -/
  | pan (T : TypeId)

mutual
/-- Every row that the value may still be appended to is one that is known. -/
def okT (fr : Nat → Option (TypeId × Nat)) : V → Prop
  | .sl (some d) _ _ => (d = nilT ∨ d = zerT) ∨ (fr d).isSome = true
  | .bld d _ _ _ => (fr d).isSome = true
  | .agg _ fs => okTs fr fs
  | .tup vs => okTs fr vs
  | .iface _ v => okT fr v
  | _ => True
def okTs (fr : Nat → Option (TypeId × Nat)) : List V → Prop
  | [] => True
  | v :: vs => okT fr v ∧ okTs fr vs
end

/-- st' knows no more than st. -/
structure Less (st st' : St) : Prop where
  s : ∀ i, st'.s i = .junk ∨ (st'.s i = st.s i ∧ okT st'.fr (st.s i)) ∨ ((st.s i).mem = true ∧ st'.s i = (st.s i).untag)
  bx : ∀ d v, st'.bx d = some v → st.bx d = some v ∧ okT st'.fr v
  fr : ∀ d v, st'.fr d = some v → st.fr d = some v
  ref : ∀ i d p, st'.s i = .rf d p ∨ st'.s i = .it d → (st'.bx d).isSome = true

end Go.Nu
/-
  NU, text 2: how plain values stand in memory ('RepC', 'RepS'), and when a plain state stands for a frame and a world ('Sim').
-/
namespace Go.Nu
open Go Go.RowKit

/-- The cells from o on in block b hold cs, and are not written any more. -/
def Mem (S : Nat → Nat → Prop) (w : World) (b o : Nat) (cs : List Value) : Prop :=
  ∀ j u, cs[j]? = some u → S b (o + j) ∧ w.cell? ⟨b, o + j, none⟩ = some u

abbrev Ow := Nat → Option (Nat × Option Addr × Nat)
def noOw : Ow := fun _ => none
def TagOk (ow : Ow) (tag : Option Nat) (len : Nat) (a : Option Addr) (c : Nat) : Prop :=
  ∀ d, tag = some d → (d = nilT ∧ a = none ∧ len = 0 ∧ c = 0) ∨ (d = zerT ∧ len = 0 ∧ c = 0) ∨ ((d ≠ nilT ∧ d ≠ zerT) ∧ ∃ n0 a0 c0, ow d = some (n0, a0, c0) ∧ len ≤ n0 ∧ (len = n0 → a0 = a ∧ c0 = c))
theorem TagOk.at_ {ow : Ow} {d len c : Nat} {a : Option Addr} (h : TagOk ow (some d) len a c) (hd : d ≠ nilT ∧ d ≠ zerT) : ∃ n0 a0 c0, ow d = some (n0, a0, c0) ∧ len ≤ n0 ∧ (len = n0 → a0 = a ∧ c0 = c) := by
  rcases h d rfl with ⟨h1, _⟩ | ⟨h1, _⟩ | ⟨_, h2⟩
  · exact absurd h1 hd.1
  · exact absurd h1 hd.2
  · exact h2
theorem TagOk.mk_ {ow : Ow} {d len c : Nat} {a : Option Addr} (hd : d ≠ nilT ∧ d ≠ zerT) (h : ∃ n0 a0 c0, ow d = some (n0, a0, c0) ∧ len ≤ n0 ∧ (len = n0 → a0 = a ∧ c0 = c)) : TagOk ow (some d) len a c := by
  rintro _ ⟨⟩
  exact .inr (.inr ⟨hd, h⟩)
theorem TagOk.nil_ (ow : Ow) : TagOk ow (some nilT) 0 none 0 := by
  rintro _ ⟨⟩
  exact .inl ⟨rfl, rfl, rfl, rfl⟩
theorem TagOk.zer_ (ow : Ow) (a : Option Addr) : TagOk ow (some zerT) 0 a 0 := by
  rintro _ ⟨⟩
  exact .inr (.inl ⟨rfl, rfl, rfl⟩)

mutual
inductive RepC (P : Program) (S : Nat → Nat → Prop) (w : World) : Ow → V → List Value → Prop
  | bool (ow : Ow) (b : Bool) : RepC P S w ow (.bool b) [.bool b]
  | int (ow : Ow) (k : IntKind) (n : Int) : RepC P S w ow (.int k n) [.int k n]
  | str (ow : Ow) (s : List UInt8) : RepC P S w ow (.str s) [.string ⟨s.toArray⟩]
  | nilp (ow : Ow) : RepC P S w ow .nilp [.pointer none]
  | nili (ow : Ow) : RepC P S w ow .nili [.nilIface]
  | rp (ow : Ow) {v : V} {cs : List Value} {b o : Nat} : RepC P S w noOw v cs → Mem S w b o cs → RepC P S w ow (.rp v) [.pointer (some ⟨b, o, none⟩)]
  | nilsl (ow : Ow) {tag : Option Nat} {e : TypeId} : TagOk ow tag 0 none 0 → RepC P S w ow (.sl tag e []) [.slice none 0 0]
  | sl (ow : Ow) {tag : Option Nat} {e : TypeId} {es : List V} {cs : List Value} {b o cap : Nat} : RepCs P S w noOw es cs → (∀ x ∈ es, width P x = P.cellsOf e) → Mem S w b o cs →
      es.length ≤ cap → cap ≤ maxLen → TagOk ow tag es.length (some ⟨b, o, none⟩) cap → RepC P S w ow (.sl tag e es) [.slice (some ⟨b, o, none⟩) es.length cap]
  | emp (ow : Ow) {tag : Option Nat} {e : TypeId} {a : Addr} {cap : Nat} : TagOk ow tag 0 (some a) cap → RepC P S w ow (.sl tag e []) [.slice (some a) 0 cap]
  | agg (ow : Ow) {t : TypeId} {fs : List V} {cs : List Value} : sizes P t = some (fs.map (width P)) → (fs.map (width P)).sum = P.cellsOf t → RepCs P S w ow fs cs → ¬ rowT ≤ t → RepC P S w ow (.agg t fs) cs
  | row (ow : Ow) {e : TypeId} {es : List V} {cs : List Value} : RepCs P S w ow es cs → (∀ x ∈ es, width P x = P.cellsOf e) → es.length ≤ maxLen → RepC P S w ow (.agg (rowT + e) es) cs
  | iface1 (ow : Ow) {t : TypeId} {v : V} {c : Value} : v.isAgg = false → RepC P S w ow v [c] → RepC P S w ow (.iface t v) [.iface t c]
  | iface2 (ow : Ow) {t u : TypeId} {fs : List V} {cs : List Value} : RepC P S w ow (.agg u fs) cs → RepC P S w ow (.iface t (.agg u fs)) [.iface t (.agg cs.toArray)]
  | fn (ow : Ow) {f : FuncId} {caps : List V} {cs : List Value} : (∀ x ∈ caps, x.isAgg = false) → RepCs P S w noOw caps cs → RepC P S w ow (.fn f caps) [.func (.func f) #[] cs.toArray]
inductive RepCs (P : Program) (S : Nat → Nat → Prop) (w : World) : Ow → List V → List Value → Prop
  | nil (ow : Ow) : RepCs P S w ow [] []
  | cons (ow : Ow) {v : V} {vs : List V} {c cs : List Value} : RepC P S w ow v c → RepCs P S w ow vs cs → RepCs P S w ow (v :: vs) (c ++ cs)
end

/-- A later world and a larger stable set. -/
structure Le (S S' : Nat → Nat → Prop) (ow ow' : Ow) (w w' : World) : Prop where
  sS : ∀ b o, S b o → S' b o
  cell : ∀ b o, S b o → w'.cell? ⟨b, o, none⟩ = w.cell? ⟨b, o, none⟩
  oW : ∀ d n a c, ow d = some (n, a, c) → ∃ n' a' c', ow' d = some (n', a', c') ∧ n ≤ n' ∧ (n' = n → a' = a ∧ c' = c)

theorem Le.refl (S : Nat → Nat → Prop) (ow : Ow) (w : World) : Le S S ow ow w w :=
  ⟨fun _ _ h => h, fun _ _ _ => rfl, fun _ _ _ _ h => ⟨_, _, _, h, Nat.le_refl _, fun _ => ⟨rfl, rfl⟩⟩⟩

theorem Le.bare {S S' : Nat → Nat → Prop} {ow ow' : Ow} {w w' : World} (h : Le S S' ow ow' w w') : Le S S' noOw noOw w w' :=
  ⟨h.sS, h.cell, fun _ _ _ _ h => by cases h⟩

theorem Mem.mono {S S' : Nat → Nat → Prop} {w w' : World} {b o : Nat} {cs : List Value} (h : Mem S w b o cs) (hS : ∀ b o, S b o → S' b o)
    (hc : ∀ b o, S b o → w'.cell? ⟨b, o, none⟩ = w.cell? ⟨b, o, none⟩) : Mem S' w' b o cs :=
  fun j u hu => ⟨hS _ _ (h j u hu).1, (hc _ _ (h j u hu).1).trans (h j u hu).2⟩

theorem TagOk.mono {ow ow' : Ow} {tag : Option Nat} {len c : Nat} {a : Option Addr} (h : TagOk ow tag len a c)
    (hw : ∀ d n a c, ow d = some (n, a, c) → ∃ n' a' c', ow' d = some (n', a', c') ∧ n ≤ n' ∧ (n' = n → a' = a ∧ c' = c)) : TagOk ow' tag len a c := by
  intro d hd
  rcases h d hd with h0 | h0 | ⟨hn, n0, a0, c0, h1, h2, h3⟩
  · exact .inl h0
  · exact .inr (.inl h0)
  obtain ⟨n', a', c', g1, g2, g3⟩ := hw _ _ _ _ h1
  refine .inr (.inr ⟨hn, n', a', c', g1, by omega, fun e => ?_⟩)
  have e1 : n' = n0 := by omega
  obtain ⟨r1, r2⟩ := g3 e1
  obtain ⟨s1, s2⟩ := h3 (by omega)
  exact ⟨r1.trans s1, r2.trans s2⟩

theorem TagOk.none_ (ow : Ow) (len c : Nat) (a : Option Addr) : TagOk ow none len a c := fun d h => by cases h

theorem width_agg {P : Program} {t : TypeId} {fs : List V} (h : ¬ rowT ≤ t) : width P (.agg t fs) = P.cellsOf t := by
  show (if rowT ≤ t then _ else _) = _
  rw [if_neg h]
theorem untags_len0 : ∀ vs : List V, (V.untags vs).length = vs.length
  | [] => rfl
  | v :: vs => by simp [V.untags, untags_len0 vs]
theorem untag_width (P : Program) (v : V) : width P v.untag = width P v := by cases v <;> simp [V.untag, width, untags_len0]
theorem untag_isAgg (v : V) : v.untag.isAgg = v.isAgg := by cases v <;> simp [V.untag, V.isAgg]
theorem untag_mem (v : V) : v.untag.mem = v.mem := by cases v <;> simp [V.untag, V.mem]
theorem untags_width (P : Program) : ∀ vs : List V, (V.untags vs).map (width P) = vs.map (width P)
  | [] => rfl
  | v :: vs => by simp [V.untags, untag_width, untags_width P vs]

theorem untags_len : ∀ vs : List V, (V.untags vs).length = vs.length
  | [] => rfl
  | v :: vs => by simp [V.untags, untags_len vs]
theorem untags_all {P : Program} {k : Nat} : ∀ {vs : List V}, (∀ x ∈ vs, width P x = k) → ∀ x ∈ V.untags vs, width P x = k
  | [], _, x, hx => by simp [V.untags] at hx
  | v :: vs, h, x, hx => by
    simp only [V.untags, List.mem_cons] at hx
    rcases hx with rfl | hx
    · rw [untag_width]; exact h v (by simp)
    · exact untags_all (vs := vs) (fun y hy => h y (by simp [hy])) x hx

section
variable {P : Program} {S S' : Nat → Nat → Prop} {ow ow' : Ow} {w w' : World}

mutual
theorem RepC.mono : ∀ {ow ow' : Ow} {v : V} {cs : List Value}, RepC P S w ow v cs → Le S S' ow ow' w w' → RepC P S' w' ow' v cs
  | _, _, _, _, .bool _ _, _ => .bool _ _
  | _, _, _, _, .int _ _ _, _ => .int _ _ _
  | _, _, _, _, .str _ _, _ => .str _ _
  | _, _, _, _, .nilp _, _ => .nilp _
  | _, _, _, _, .nili _, _ => .nili _
  | _, _, _, _, .rp _ h1 h2, hle => .rp _ (RepC.mono h1 hle.bare) (h2.mono hle.sS hle.cell)
  | _, _, _, _, .nilsl _ h, hle => .nilsl _ (h.mono hle.oW)
  | _, _, _, _, .emp _ h, hle => .emp _ (h.mono hle.oW)
  | _, _, _, _, .sl _ h1 h2 h3 h4 h5 h6, hle => .sl _ (RepCs.mono h1 hle.bare) h2 (h3.mono hle.sS hle.cell) h4 h5 (h6.mono hle.oW)
  | _, _, _, _, .agg _ h1 h2 h3 h4, hle => .agg _ h1 h2 (RepCs.mono h3 hle) h4
  | _, _, _, _, .row _ h1 h2 h3, hle => .row _ (RepCs.mono h1 hle) h2 h3
  | _, _, _, _, .iface1 _ h1 h2, hle => .iface1 _ h1 (RepC.mono h2 hle)
  | _, _, _, _, .iface2 _ h, hle => .iface2 _ (RepC.mono h hle)
  | _, _, _, _, .fn _ h1 h2, hle => .fn _ h1 (RepCs.mono h2 hle.bare)
theorem RepCs.mono : ∀ {ow ow' : Ow} {vs : List V} {cs : List Value}, RepCs P S w ow vs cs → Le S S' ow ow' w w' → RepCs P S' w' ow' vs cs
  | _, _, _, _, .nil _, _ => .nil _
  | _, _, _, _, .cons _ h1 h2, hle => .cons _ (RepC.mono h1 hle) (RepCs.mono h2 hle)
end

mutual
/-- What is handed on is read under no row of the call's own. -/
theorem RepC.untag : ∀ {ow : Ow} {v : V} {cs : List Value}, RepC P S w ow v cs → RepC P S w noOw v.untag cs
  | _, _, _, .bool _ _ => .bool _ _
  | _, _, _, .int _ _ _ => .int _ _ _
  | _, _, _, .str _ _ => .str _ _
  | _, _, _, .nilp _ => .nilp _
  | _, _, _, .nili _ => .nili _
  | _, _, _, .rp _ h1 h2 => .rp _ h1 h2
  | _, _, _, .nilsl _ _ => .nilsl _ (TagOk.none_ _ _ _ _)
  | _, _, _, .emp _ _ => .emp _ (TagOk.none_ _ _ _ _)
  | _, _, _, .sl _ h1 h2 h3 h4 h5 _ => .sl _ h1 h2 h3 h4 h5 (TagOk.none_ _ _ _ _)
  | _, _, _, .agg _ h1 h2 h3 h4 => .agg _ (by rw [h1, untags_width]) (by rw [← h2, untags_width]) (RepCs.untag h3) h4
  | _, _, _, .row _ h1 h2 h3 => .row _ (RepCs.untag h1) (untags_all h2) (by rw [untags_len]; exact h3)
  | _, _, _, .iface1 _ h1 h2 => .iface1 _ (by rw [untag_isAgg]; exact h1) (RepC.untag h2)
  | _, _, _, .iface2 _ h => .iface2 _ (RepC.untag h)
  | _, _, _, .fn _ h1 h2 => .fn _ h1 h2
theorem RepCs.untag : ∀ {ow : Ow} {vs : List V} {cs : List Value}, RepCs P S w ow vs cs → RepCs P S w noOw (V.untags vs) cs
  | _, _, _, .nil _ => .nil _
  | _, _, _, .cons _ h1 h2 => .cons _ (RepC.untag h1) (RepCs.untag h2)
end

mutual
/-- What is read under no row of the call's own is read under any rows. -/
theorem RepC.any : ∀ {ow : Ow} {v : V} {cs : List Value}, RepC P S w noOw v cs → RepC P S w ow v cs
  | _, _, _, h => h.mono ⟨fun _ _ h => h, fun _ _ _ => rfl, fun _ _ _ _ h => by cases h⟩
end

theorem RepC.len : ∀ {ow : Ow} {v : V} {cs : List Value}, RepC P S w ow v cs → cs.length = width P v
  | _, _, _, .bool _ _ => rfl
  | _, _, _, .int _ _ _ => rfl
  | _, _, _, .str _ _ => rfl
  | _, _, _, .nilp _ => rfl
  | _, _, _, .nili _ => rfl
  | _, _, _, .rp _ h1 h2 => rfl
  | _, _, _, .nilsl _ _ => rfl
  | _, _, _, .emp _ _ => rfl
  | _, _, _, .sl _ h1 h2 h3 h4 h5 _ => rfl
  | _, _, _, .agg (t := t) (fs := fs) _ h1 h2 h3 h4 => by
    rw [width_agg h4, ← h2]
    exact lens h3
  | _, _, _, .row (e := e) (es := es) _ h1 h2 h3 => by
    rw [show width P (.agg (rowT + e) es) = es.length * P.cellsOf (rowT + e - rowT) from if_pos (by omega), Nat.add_sub_cancel_left, lens h1]
    clear h1 h3
    induction es with
    | nil => simp
    | cons x es ih =>
      rw [List.map_cons, List.sum_cons, ih (fun y hy => h2 y (by simp [hy])), h2 x (by simp), List.length_cons, Nat.add_mul]
      omega
  | _, _, _, .iface1 _ h1 h2 => rfl
  | _, _, _, .iface2 _ h => rfl
  | _, _, _, .fn _ h1 h2 => rfl
where
  lens : ∀ {ow : Ow} {vs : List V} {cs : List Value}, RepCs P S w ow vs cs → cs.length = (vs.map (width P)).sum
    | _, _, _, .nil _ => rfl
    | _, _, _, .cons _ h1 h2 => by rw [List.length_append, List.map_cons, List.sum_cons, RepC.len h1, lens h2]
end
end Go.Nu
/-
  NU, text 3: the compiler from a function's body into plain code, with its checks; and when a plain state stands for a frame and a world ('Sim').
-/
namespace Go.Nu
open Go Go.RowKit

def cV : Value → Option V
  | .bool b => some (.bool b)
  | .int k n => some (.int k n)
  | .string s => some (.str s.data.toList)
  | .pointer none => some .nilp
  | .nilIface => some .nili
  | .slice none 0 0 => some (.sl none 0 [])
  | _ => none

def cX : Operand → Option X
  | .tmp t => some (.t t)
  | .const v => match cV v with
    | some v => some (.v v)
    | none => none
  | .func f => some (.v (.fn f []))
  | .global _ => none

def cXs : List Operand → Option (List X)
  | [] => some []
  | o :: os => match cX o, cXs os with
    | some x, some xs => some (x :: xs)
    | _, _ => none

def okAgg (P : Program) (t : TypeId) : Bool :=
  (match sizes P t with
  | some szs => szs.sum == P.cellsOf t
  | none => false) && (P.info? t).isSome && decide (¬ rowT ≤ t)

/-- How a value of the type stands: a struct or an array (its type), or one cell. -/
def cT (P : Program) (t : TypeId) : Option (Option TypeId) :=
  match P.underlying t with
  | some (.struct _) => if okAgg P t then some (some t) else none
  | some (.array _ _) => if okAgg P t then some (some t) else none
  | some _ => if P.cellsOf t == 1 && (P.info? t).isSome then some none else none
  | none => none

mutual
def zV (P : Program) : Nat → TypeId → Option V
  | 0, _ => none
  | fuel + 1, t => match P.underlying t with
    | some .bool => some (.bool false)
    | some (.int k) => some (.int k 0)
    | some .string => some (.str [])
    | some (.slice e) => some (.sl none e [])
    | some (.pointer _) => some .nilp
    | some (.interface _) => some .nili
    | some (.struct fs) => match zVs P fuel (fs.toList.map (·.type)) with
      | some vs => some (.agg t vs)
      | none => none
    | some (.array n e) => match zV P fuel e with
      | some z => some (.agg t (List.replicate n z))
      | none => none
    | _ => none
def zVs (P : Program) : Nat → List TypeId → Option (List V)
  | _, [] => some []
  | 0, _ => none
  | fuel + 1, t :: ts => match zV P fuel t, zVs P fuel ts with
    | some v, some vs => some (v :: vs)
    | _, _ => none
end

/-- Is the cell that memory-free value? -/
def one : V → Value → Bool
  | .bool b, c => match c with
    | .bool b' => b == b'
    | _ => false
  | .int k n, c => match c with
    | .int k' n' => decide (k = k') && n == n'
    | _ => false
  | .str s, c => match c with
    | .string s' => s == s'.data.toList
    | _ => false
  | .sl tg _ es, c => match c with
    | .slice a l m => tg.isNone && es.isEmpty && a.isNone && l == 0 && m == 0
    | _ => false
  | .nilp, c => match c with
    | .pointer a => a.isNone
    | _ => false
  | .nili, c => match c with
    | .nilIface => true
    | _ => false
  | _, _ => false

mutual
/-- Takes a memory-free value's cells off a list of cells. -/
def eat (P : Program) : V → List Value → Option (List Value)
  | .agg t fs, r => if (sizes P t = some (fs.map (width P)) ∧ (fs.map (width P)).sum = P.cellsOf t) ∧ ¬ rowT ≤ t then eats P fs r else none
  | v, cs => match cs with
    | c :: r => if one v c then some r else none
    | [] => none
def eats (P : Program) : List V → List Value → Option (List Value)
  | [], r => some r
  | v :: vs, r => match eat P v r with
    | some r' => eats P vs r'
    | none => none
end

def isAggC : Value → Bool
  | .agg _ => true
  | _ => false

/-- The zero value of a type, checked against the program's own. -/
def zero? (P : Program) (t : TypeId) : Option V :=
  match zV P 40 t, (P.info? t).bind (·.zero) with
  | some v, some z => match eat P v z.cells.toList with
    | some [] => if v.isAgg = isAggC z then some v else none
    | _ => none
  | _, _ => none

/-- .. where nil slices of the types nz are marked as surely nil. -/
def zeroN (P : Program) (nz : List TypeId) (t : TypeId) : Option V :=
  match zero? P t with
  | some v => if nz.contains t then some v.flagN else some v
  | none => none

/-- A strings.Builder's type, and its bytes'. -/
def bldTy (P : Program) (t : TypeId) : Option TypeId :=
  match P.underlying t, zero? P t with
  | some (.struct fs), some (.agg t' [.nilp, .sl none e []]) => match fs.toList with
    | [f0, f1] => match P.underlying f0.type, P.underlying f1.type, P.underlying e, P.info? e with
      | some (.pointer t2), some (.slice e2), some (.int .u8), some i => if (t2 = t ∧ e2 = e) ∧ (t' = t ∧ P.cellsOf e = 1) ∧ i.size = 1 then some e else none
      | _, _, _, _ => none
    | _ => none
  | _, _ => none
/-- A builder's method. -/
def bkOf (P : Program) (f : FuncId) : Option BK :=
  match P.funcs[f]? with
  | some fn => if fn.name == "(*strings.Builder).WriteString" then some .wstr else if fn.name == "(*strings.Builder).WriteByte" then some .wbyte
    else if fn.name == "(*strings.Builder).String" then some .str else if fn.name == "(*strings.Builder).Len" then some .len else none
  | none => none

/-- An element type that slices of the call's own may hold. -/
def okElem (P : Program) (e : TypeId) : Bool :=
  match P.info? e with
  | some i => (match i.zero with | some z => z.cells.size == i.size | none => false) && decide (0 < i.size) && decide (i.bytes ≤ 2048) && decide (0 < i.bytes) && decide (i.size ≤ 4096)
  | none => false

def partsOf (n : Nat) : List (Nat × Operand) → Option (List Operand)
  | [] => some []
  | (i, x) :: r => if i = n then (match partsOf (n + 1) r with | some xs => some (x :: xs) | none => none) else none

def seqParts (n : Nat) (ps : Array (Nat × Operand)) : Option (List Operand) := if ps.size = n then partsOf 0 ps.toList else none

def fieldOk (P : Program) (s : TypeId) (f : Nat) : Bool :=
  match P.underlying s, sizes P s with
  | some (.struct fs), some szs => match fs[f]? with
    | some fd => fd.offset == (szs.take f).sum && decide (P.cellsOf fd.type ≠ 0) && (P.info? fd.type).isSome && (cT P fd.type).isSome && szs.sum == P.cellsOf s && decide (¬ rowT ≤ s)
    | none => false
  | _, _ => false

def cOpt : Option Operand → Option (Option X)
  | none => some none
  | some o => match cX o with
    | some x => some (some x)
    | none => none

/-- A struct that is compared field by field: what the fields are. -/
def eqKinds (P : Program) : Nat → List Field → Option (List Nat)
  | _, [] => some []
  | n, f :: fs => if f.offset = n ∧ f.name ≠ "_" then match P.underlying f.type, eqKinds P (n + 1) fs with
      | some .bool, some l => some (0 :: l)
      | some (.int _), some l => some (1 :: l)
      | some .string, some l => some (2 :: l)
      | _, _ => none
    else none
def eqTy (P : Program) (t : TypeId) : Option (List Nat) := match P.underlying t with
  | some (.struct fs) => if P.eqGuardType P.depth t = false ∧ P.stoodInHeld t = false then eqKinds P 0 fs.toList else none
  | _ => none
def isNilC : Operand → Bool
  | .const .nilIface => true
  | .const (.pointer none) => true
  | _ => false
def negOf : BinOp → Option Bool
  | .eql => some false
  | .neq => some true
  | _ => none
/-- What is stored: a bare nil becomes a nil slice of its type. -/
def cXt (P : Program) (t : TypeId) (y : Operand) : Option X :=
  match y with
  | .const (.slice none 0 0) => match P.underlying t with
    | some (.slice e) => some (.v (.sl none e []))
    | _ => cX y
  | y => cX y
def isPtrT (P : Program) (t : TypeId) : Bool := match P.underlying t with
  | some (.pointer _) => true
  | _ => false
def isSlT (P : Program) (t : TypeId) : Bool := match P.underlying t with
  | some (.slice _) => true
  | _ => false
/-- How is a function called: 1: a variable is on loan; 2: it returns a new variable; else plainly. -/
def callKind (P : Program) (f : FuncId) : Nat :=
  match P.funcs[f]? with
  | some fn => if fn.params.toList.any (isPtrT P) || (fn.resultTypes.toList.isEmpty && fn.params.toList.any (isSlT P)) then 1 else match fn.resultTypes.toList with
    | [t] => if isPtrT P t then 2 else 0
    | _ => 0
  | none => 0

/-- A hint: the slice that this slot is given has no room; what is appended to it is a row that may be written. -/
def boxH : Nat := 40000000

def compileOp (P : Program) (nz : List TypeId) (o : Oper) : Option PO :=
  match o.op, o.dst with
  | .move x, d => match cX x with
    | some x => some (.mv d x)
    | none => none
  | .assign x, d =>
    match d, P.underlying o.type, (match x with | .const (.slice none 0 0) => true | _ => false) with
    | some d, some (.slice e), true => some (.nl d e)
    | d, _, _ => match cX x with
      | some x => some (.mv d x)
      | none => none
  | .pick c a b, some d => match cX c, cX a, cX b with
    | some c, some a, some b => some (.pick d c a b)
    | _, _, _ => none
  | .binOp op t x y _, some d => match P.underlying t, cX x, cX y with
    | some (.int _), some x, some y => some (.ar d op x y)
    | some .string, some x, some y => some (.ar d op x y)
    | some .bool, some x, some y => match op with
      | .eql => some (.eb d false x y)
      | .neq => some (.eb d true x y)
      | _ => none
    | some (.interface _), some x', some y' => match negOf op, isNilC x || isNilC y with
      | some g, true => some (.se d .ifc g x' y')
      | _, _ => none
    | some (.pointer _), some x', some y' => match negOf op, isNilC x || isNilC y with
      | some g, true => some (.se d .ptr g x' y')
      | _, _ => none
    | some (.slice _), some x', _ => match negOf op with
      | some g => some (.se d .no g x' x')
      | none => none
    | some (.struct _), some x', some y' => match negOf op, eqTy P t with
      | some g, some ks => some (.se d (.st ks) g x' y')
      | _, _ => none
    | _, _, _ => none
  | .unOp op _ x, some d => match cX x with
    | some x => some (.un d op x)
    | none => none
  | .call { callee := .builtin .len, args := args, argTypes := ts }, some d =>
    match args.toList, ts.toList with
    | [x], [t] => match P.underlying t, cX x with
      | some .string, some x => some (.ln d none x)
      | some (.slice e), some x => some (.ln d (some e) x)
      | _, _ => none
    | _, _ => none
  | .makeFunc (.func f) first captured, some d =>
    match first.toList, cXs captured.toList with
    | [], some xs => some (.mf d f xs)
    | _, _ => none
  | .call { callee := .builtin .min, args := args, argTypes := _ }, some d =>
    match args.toList with
    | [x, y] => match cX x, cX y with
      | some x, some y => some (.mn d false x y)
      | _, _ => none
    | _ => none
  | .call { callee := .builtin .max, args := args, argTypes := _ }, some d =>
    match args.toList with
    | [x, y] => match cX x, cX y with
      | some x, some y => some (.mn d true x y)
      | _, _ => none
    | _ => none
  | .call { callee := .builtin .append, args := args, argTypes := ts }, some d =>
    match args.toList, ts.toList with
    | [x, y], [t, u] => match P.underlying t, P.underlying u, cX x, cX y with
      | some (.slice e), some (.slice e'), some x, some y => if e = e' ∧ t = u ∧ okElem P e then (if nz.contains (boxH + d) then some (.cx d e x y) else some (.ap d e x y)) else none
      | _, _, _, _ => none
    | _, _ => none
  | .call { callee := .value (.func f), args := args, argTypes := _ }, d => match cXs args.toList with
    | some xs => match bkOf P f with
      | some k => some (.cw d f k xs)
      | none => match callKind P f, d with
        | 1, d => some (.cb d f xs)
        | 2, some d => some (.cn d f xs)
        | _, d => some (.ca d f xs)
    | none => none
  | .call { callee := .value f, args := args, argTypes := _ }, d => match cX f, cXs args.toList with
    | some f, some xs => some (.cd d f xs)
    | _, _ => none
  | .index t x i, some d => match P.underlying t, cX x, cX i with
    | some .string, some x, some i => some (.ix d x i)
    | _, _, _ => none
  | .indexAddr t x i, some d => match P.underlying t, cX x, cX i with
    | some (.slice e), some x, some i => if (P.info? e).isSome then some (.ea d e x i) else none
    | some (.array _ e), some x, some i => if okAgg P t && (P.info? e).isSome then some (.aa d t x i) else none
    | _, _, _ => none
  | .fieldAddr s x f, some d => if fieldOk P s f then (match cX x with
    | some x => some (.fa d s f x)
    | none => none) else none
  | .field s x f, some d => if fieldOk P s f then (match cX x, P.underlying s with
    | some x, some (.struct fs) => match (fs[f]?).bind (fun fd => cT P fd.type) with
      | some tt => some (.fd d s f tt x)
      | none => none
    | _, _ => none) else none
  | .load t x, some d => match cT P t, cX x with
    | some tt, some x => some (.ld d tt x)
    | _, _ => none
  | .store t x y, none => match cT P t, cX x, cXt P t y with
    | some tt, some x, some y => some (.st tt x y)
    | _, _, _ => none
  | .box t x, some d => match cT P t, cX x with
    | some tt, some x => some (.bx d tt x)
    | _, _ => none
  | .alloc t, some d => match bldTy P t with
    | some e => some (.ab d t e)
    | none => match zeroN P nz t with
      | some z => some (.al d z)
      | none => none
  | .buildSlice t n ps, some d => match P.underlying t, seqParts n ps with
    | some (.slice e), some os => match cT P e, cXs os with
      | some tt, some xs => if nz.contains (boxH + d) && (n == 0 && ps.size == 0) then (if okElem P e then some (.zs d e) else none) else if okElem P e && decide (n ≤ 4096) then some (.bs d e tt xs) else none
      | _, _ => none
    | _, _ => none
  | .build t ps, some d => match P.underlying t, zeroN P nz t, cXs (ps.toList.map (·.2)) with
    | some (.struct fs), some (.agg t' z), some xs =>
      if (List.range fs.size).all (fieldOk P t) && ps.toList.all (fun p => decide (p.1 < fs.size)) && t' == t && decide (¬ rowT ≤ t) then some (.bd d t z (ps.toList.map (·.1)) xs) else none
    | _, _, _ => none
  | .makeSlice t n c, some d => match P.underlying t with
    | some (.slice e) => match zero? P e, cX n, cX c with
      | some z, some (.t n), some (.t c) => if okElem P e then (if n = c then some (.mm d e z (.t n) (.t c)) else some (.mk d e z (.t n) (.t c))) else none
      | some z, some n, some c => if okElem P e then some (.mk d e z n c) else none
      | _, _, _ => none
    | _ => none
  | .slice t x lo hi none, some d => match P.underlying t, cX x, cOpt lo, cOpt hi with
    | some .string, some x, some lo, some hi => some (.sc d none x lo hi)
    | some (.slice e), some x, some lo, some hi => if (P.info? e).isSome then some (.sc d (some e) x lo hi) else none
    | some (.array m e), some x, some lo, some hi => if okAgg P t && (P.info? e).isSome && decide (m ≤ 4096) then some (.sa d t e x lo hi) else none
    | _, _, _, _ => none
  | .convert s t x, some d => match P.underlying s, P.underlying t, cX x with
    | some (.int _), some (.int k), some x => some (.cvi d k x)
    | some .string, some .string, some x => some (.cvS d x)
    | some .string, some (.slice e), some x => match P.underlying e with
      | some (.int .u8) => if okElem P e && P.cellsOf e == 1 then some (.cvs d e x) else none
      | _ => none
    | some (.slice e), some .string, some x => match P.underlying e with
      | some (.int .u8) => some (.cvb d x)
      | _ => none
    | _, _, _ => none
  | .makeInterface t x, some d => match P.underlying t, cX x with
    | some (.interface _), _ => none
    | some _, some x => some (.mi d t x)
    | _, _ => none
  | .extract x i, some d => match cX x with
    | some x => some (.ex d i x)
    | none => none
  | .nilCheck x, d => match cX x with
    | some x => some (.nc d x)
    | none => none
  | .range t x, some d => match P.underlying t, cX x with
    | some .string, some x => some (.rg d x)
    | _, _ => none
  | .next x true, some d => match cX x with
    | some x => some (.nx d x)
    | none => none
  | .panic x, none => match cX x with
    | some x => some (.pn x)
    | none => none
  | _, _ => none

end Go.Nu
/-
  NU, text 4: 'Sim': a plain state stands for a frame and a world; the operations that change no memory.
-/
namespace Go.Nu
open Go Go.RowKit

def All2 {α β : Type} (R : α → β → Prop) : List α → List β → Prop
  | [], [] => True
  | a :: as, b :: bs => R a b ∧ All2 R as bs
  | _, _ => False

def Rep1 (P : Program) (S : Nat → Nat → Prop) (w : World) (ow : Ow) (v : V) (c : Value) : Prop :=
  match v with
  | .agg t fs => ∃ cs : List Value, c = .agg cs.toArray ∧ RepC P S w ow (.agg t fs) cs
  | v => RepC P S w ow v [c]

abbrev Bm := Nat → Option Nat

def RepS (P : Program) (S : Nat → Nat → Prop) (w : World) (ow : Ow) (bm : Bm) (bx : Nat → Option V) (v : V) (c : Value) : Prop :=
  match v with
  | .junk => True
  | .tup vs => ∃ cs : List Value, c = .tuple cs.toArray ∧ All2 (Rep1 P S w ow) vs cs
  | .rf d p => ∃ g ct off, bm d = some g ∧ bx d = some ct ∧ pathOff P ct p = some off ∧ c = .pointer (some ⟨g, off, none⟩)
  | .it d => ∃ g ct, bm d = some g ∧ bx d = some ct ∧ ((∃ s pos, ct = .itc s pos ∧ c = .pointer (some ⟨g, 0, none⟩)) ∨ ∃ e es cap, ct = .agg (rowT + e) es ∧ es.length ≤ cap ∧ cap ≤ maxLen ∧ c = .slice (some ⟨g, 0, none⟩) es.length cap)
  | v => Rep1 P S w ow v c

def BoxAt (P : Program) (S : Nat → Nat → Prop) (w : World) (ow : Ow) (g : Nat) (v : V) : Prop :=
  match v with
  | .itc s pos => w.heap[g]? = some (.stringIter ⟨s.toArray⟩ pos)
  | .bld tg T e bs => ∃ p sl, w.heap[g]? = some (.cells #[p, sl] T (0, 0)) ∧ (p = .pointer none ∨ p = .pointer (some ⟨g, 0, none⟩)) ∧ RepC P S w ow (.sl (some tg) e (bs.map byteV)) [sl] ∧ P.cellsOf e = 1
  | v => ∃ cur T cs rest, w.heap[g]? = some (.cells cur T (0, 0)) ∧ cur.toList = cs ++ rest ∧ RepC P S w ow v cs

/-- A row's block; of a builder's row the head may be frozen. -/
def RowCells (w : World) (g : Nat) (cur : Array Value) (e : TypeId) (fz : Bool) (m : Nat) : Prop := ∃ z : Nat × Nat, w.heap[g]? = some (.cells cur e z) ∧ (fz = false → z = (0, 0)) ∧ z.2 ≤ m
theorem RowCells.of_eq {w w' : World} {g : Nat} {cur : Array Value} {e : TypeId} {fz : Bool} {m : Nat} (h : RowCells w g cur e fz m) (he : w'.heap[g]? = w.heap[g]?) : RowCells w' g cur e fz m := by
  obtain ⟨z, h1, h2⟩ := h
  exact ⟨z, he.trans h1, h2⟩
theorem RowCells.lt {w : World} {g : Nat} {cur : Array Value} {e : TypeId} {fz : Bool} {m : Nat} (h : RowCells w g cur e fz m) : g < w.heap.size := by
  obtain ⟨z, h1, _⟩ := h
  exact (Array.getElem?_eq_some_iff.1 h1).1
theorem RowCells.of_plain {w : World} {g : Nat} {cur : Array Value} {e : TypeId} {fz : Bool} {m : Nat} (h : w.heap[g]? = some (.cells cur e (0, 0))) : RowCells w g cur e fz m := ⟨(0, 0), h, fun _ => rfl, Nat.zero_le _⟩
theorem RowCells.plain {w : World} {g : Nat} {cur : Array Value} {e : TypeId} {m : Nat} (h : RowCells w g cur e false m) : w.heap[g]? = some (.cells cur e (0, 0)) := by
  obtain ⟨z, h1, h2, _⟩ := h
  rw [h2 rfl] at h1
  exact h1

def RowAt (P : Program) (S : Nat → Nat → Prop) (w : World) (B : Nat) (fz : Bool) (e : TypeId) (k : Nat) (a : Option Addr) (c : Nat) : Prop :=
  match a with
  | none => k = 0 ∧ c = 0
  | some ad => ∃ g cur, ad = ⟨g, 0, none⟩ ∧ B ≤ g ∧ RowCells w g cur e fz (k * P.cellsOf e) ∧ cur.size = c * P.cellsOf e ∧ k ≤ c ∧ c ≤ maxLen ∧ (∀ o, S g o ↔ o < k * P.cellsOf e)

/-- But for the blocks of LX, what was there is as it was. -/
structure BelowX (LX : Nat → Prop) (w w' : World) : Prop where
  os : w'.os = w.os
  tape : w'.tape = w.tape
  output : w'.output = w.output
  size : w.heap.size ≤ w'.heap.size
  block : ∀ k, k < w.heap.size → ¬ LX k → w'.heap[k]? = w.heap[k]?

/-- Is block g box d's, and may it be written? -/
def ownB (w0 : World) (LX : Nat → Prop) (d g : Nat) : Prop := if d = lentT then LX g else w0.heap.size ≤ g
theorem ownB_lt {w0 : World} {LX : Nat → Prop} {d g : Nat} (h : ownB w0 LX d g) (hg : g < w0.heap.size) : LX g := by
  unfold ownB at h
  split at h
  · exact h
  · omega
theorem ownB_new {w0 : World} {LX : Nat → Prop} {d g : Nat} (hd : d ≠ lentT) (hg : w0.heap.size ≤ g) : ownB w0 LX d g := by
  unfold ownB
  rw [if_neg hd]
  exact hg
theorem ownB_ge {w0 : World} {LX : Nat → Prop} {d g : Nat} (hd : d ≠ lentT) (h : ownB w0 LX d g) : w0.heap.size ≤ g := by
  unfold ownB at h
  rwa [if_neg hd] at h
theorem ownB_lent {w0 : World} {LX : Nat → Prop} {g : Nat} (h : ownB w0 LX lentT g) : LX g := by
  unfold ownB at h
  rwa [if_pos rfl] at h

/-- What a function's frame keeps: its deferred calls; the slots that are not written any more. -/
structure Df where
  ds : List Deferred
  pin : Nat → Option Value
def Df.nil : Df := ⟨[], fun _ => none⟩
def OkD (df : Df) (n d : Nat) : Prop := d < n ∧ df.pin d = none

structure Sim (P : Program) (n : Nat) (w0 : World) (LX : Nat → Prop) (df : Df) (S0 S : Nat → Nat → Prop) (bm : Bm) (ow : Ow) (st : St) (a : Act) (w : World) : Prop where
  size : a.tmps.size = n
  defers : a.defers = df.ds
  pins : ∀ i v, df.pin i = some v → a.tmps.getD i undef = v
  below : BelowX LX w0 w
  slt : ∀ b o, S b o → b < w.heap.size
  sold : ∀ b o, b < w0.heap.size → (S b o ↔ S0 b o)
  slot : ∀ i, RepS P S w ow bm st.bx (st.s i) (a.tmps.getD i undef)
  junk : n ≤ lentT ∧ ∀ i, n ≤ i → st.s i = .junk
  box : ∀ d v, st.bx d = some v → ∃ g, bm d = some g ∧ ownB w0 LX d g ∧ BoxAt P S w ow g v ∧ ∀ o, ¬ S g o
  boxNone : ∀ d, st.bx d = none → bm d = none
  row : ∀ d e k, st.fr d = some (e, k) → ∃ a c, ow d = some (k, a, c) ∧ RowAt P S w w0.heap.size (isBld d) e k a c
  rowNone : ∀ d, st.fr d = none → ow d = none
  bInj : ∀ d d' g, bm d = some g → bm d' = some g → d = d'
  rInj : ∀ d d' k k' a a' c c', ow d = some (k, some a, c) → ow d' = some (k', some a', c') → a.block = a'.block → d = d'
  brDis : ∀ d d' g k a c, bm d = some g → ow d' = some (k, some a, c) → a.block ≠ g

def SimE (P : Program) (n : Nat) (w0 : World) (LX : Nat → Prop) (df : Df) (S0 : Nat → Nat → Prop) (st : St) (a : Act) (w : World) : Prop :=
  ∃ S bm ow, Sim P n w0 LX df S0 S bm ow st a w

section
variable {P : Program} {n : Nat} {w0 w w' : World} {LX : Nat → Prop} {df : Df} {S0 S S' : Nat → Nat → Prop} {bm : Bm} {ow ow' : Ow} {st : St} {a : Act}

theorem BelowX.refl (LX : Nat → Prop) (w : World) : BelowX LX w w := ⟨rfl, rfl, rfl, Nat.le_refl _, fun _ _ _ => rfl⟩
theorem BelowX.of {LX : Nat → Prop} {w w' : World} (h : Below w.heap.size w w') : BelowX LX w w' := ⟨h.os, h.tape, h.output, h.size, fun k hk _ => h.block k hk⟩
theorem BelowX.bare {LX : Nat → Prop} {w w' : World} (h : BelowX LX w w') (hn : ∀ k, ¬ LX k) : Below w.heap.size w w' := ⟨h.os, h.tape, h.output, h.size, fun k hk => h.block k hk (hn k)⟩
theorem BelowX.trans {LX LY : Nat → Prop} {a b c : World} (h : BelowX LX a b) (k : BelowX LY b c) (hs : ∀ i, i < a.heap.size → LY i → LX i) : BelowX LX a c :=
  ⟨k.os.trans h.os, k.tape.trans h.tape, k.output.trans h.output, Nat.le_trans h.size k.size, fun i hi hx => (k.block i (Nat.lt_of_lt_of_le hi h.size) fun hy => hx (hs i hi hy)).trans (h.block i hi hx)⟩
theorem BelowX.then {LX : Nat → Prop} {a b c : World} (h : BelowX LX a b) (k : Below b.heap.size b c) : BelowX LX a c := h.trans (LY := fun _ => False) (BelowX.of k) fun _ _ h => h.elim
theorem BelowX.alloc {LX : Nat → Prop} {a w : World} (h : BelowX LX a w) (o : Obj) : BelowX LX a (w.alloc o) := h.then ((Below.refl _ w).alloc (Nat.le_refl _) o)

theorem All2.imp {α β : Type} {R R' : α → β → Prop} (h : ∀ a b, R a b → R' a b) : ∀ {as : List α} {bs : List β}, All2 R as bs → All2 R' as bs
  | [], [], _ => trivial
  | _ :: _, _ :: _, hh => ⟨h _ _ hh.1, All2.imp h hh.2⟩
  | [], _ :: _, hh => hh.elim
  | _ :: _, [], hh => hh.elim

theorem All2.get {α β : Type} {R : α → β → Prop} : ∀ {as : List α} {bs : List β}, All2 R as bs → ∀ (i : Nat) (a : α), as[i]? = some a → ∃ b : β, bs[i]? = some b ∧ R a b
  | [], [], _, i, a, h => by simp at h
  | x :: as, y :: bs, hh, 0, a, h => by simp at h; subst h; exact ⟨y, rfl, hh.1⟩
  | x :: as, y :: bs, hh, i + 1, a, h => by simpa using All2.get hh.2 i a (by simpa using h)
  | [], _ :: _, hh, _, _, _ => hh.elim
  | _ :: _, [], hh, _, _, _ => hh.elim

theorem Rep1.mono {v : V} {c : Value} (h : Rep1 P S w ow v c) (hle : Le S S' ow ow' w w') : Rep1 P S' w' ow' v c := by
  cases v <;> simp only [Rep1] at h ⊢ <;> first
    | exact h.mono hle
    | (obtain ⟨cs, h1, h2⟩ := h; exact ⟨cs, h1, h2.mono hle⟩)

theorem RepS.mono {bx : Nat → Option V} {v : V} {c : Value} (h : RepS P S w ow bm bx v c) (hle : Le S S' ow ow' w w') : RepS P S' w' ow' bm bx v c := by
  cases v <;> simp only [RepS] at h ⊢ <;> first
    | exact h
    | exact Rep1.mono h hle
    | (obtain ⟨cs, h1, h2⟩ := h; exact ⟨cs, h1, h2.imp fun _ _ h => Rep1.mono h hle⟩)

theorem Rep1.cells {v : V} {c : Value} (h : Rep1 P S w ow v c) : RepC P S w ow v c.cells.toList := by
  cases v <;> simp only [Rep1] at h
  case agg t fs => obtain ⟨cs, rfl, h2⟩ := h; simpa [Value.cells] using h2
  all_goals (cases h <;> first
    | exact .bool _ _ | exact .int _ _ _ | exact .str _ _ | exact .nilp _ | exact .nili _ | (apply RepC.rp <;> assumption)
    | (apply RepC.nilsl; assumption) | (apply RepC.emp; assumption) | (apply RepC.sl <;> assumption) | (apply RepC.iface1 <;> assumption) | (apply RepC.iface2; assumption) | (apply RepC.fn <;> assumption))

theorem Rep1.oneCell {v : V} {c : Value} (h : Rep1 P S w ow v c) (hv : v.isAgg = false) : c.cells = #[c] := by
  cases v <;> simp only [Rep1] at h
  case agg t fs => simp [V.isAgg] at hv
  all_goals (cases h <;> rfl)

theorem Rep1.aggOf {t : TypeId} {fs : List V} {c : Value} (h : Rep1 P S w ow (.agg t fs) c) : ∃ cs : List Value, c = .agg cs.toArray ∧ RepC P S w ow (.agg t fs) cs := h

theorem Rep1.of {v : V} {c : Value} (hv : v.isAgg = false) (h : RepC P S w ow v [c]) : Rep1 P S w ow v c := by
  cases v <;> first | exact h | simp [V.isAgg] at hv

theorem RepS.one {bx : Nat → Option V} {v : V} {c : Value} (h : RepS P S w ow bm bx v c) (hm : v.mem = true) : Rep1 P S w ow v c := by
  cases v <;> first | exact h | simp [V.mem] at hm

theorem Rep1.toS {bx : Nat → Option V} {v : V} {c : Value} (h : Rep1 P S w ow v c) : RepS P S w ow bm bx v c := by
  cases v <;> first | exact h | (simp only [Rep1] at h; cases h)

theorem Rep1.mem {v : V} {c : Value} (h : Rep1 P S w ow v c) : v.mem = true := by
  cases v <;> simp only [Rep1] at h <;> first | rfl | cases h

theorem Rep1.untag {v : V} {c : Value} (h : Rep1 P S w ow v c) : Rep1 P S w noOw v.untag c := by
  cases v <;> simp only [Rep1] at h
  case agg t fs => obtain ⟨cs, h1, h2⟩ := h; exact ⟨cs, h1, h2.untag⟩
  all_goals exact Rep1.of (by simp [V.untag, V.isAgg]) h.untag

theorem Rep1.any {v : V} {c : Value} (h : Rep1 P S w noOw v c) : Rep1 P S w ow v c :=
  h.mono ⟨fun _ _ h => h, fun _ _ _ => rfl, fun _ _ _ _ h => by cases h⟩

/-- The constants. -/
theorem cV_rep {c : Value} {v : V} (h : cV c = some v) : Rep1 P S w ow v c := by
  unfold cV at h
  split at h <;> first
    | (cases h; first | exact RepC.bool _ _ | exact RepC.int _ _ _ | exact RepC.nilp _ | exact RepC.nili _ | exact RepC.nilsl _ (TagOk.none_ _ _ _ _) | exact RepC.str _ _)
    | cases h

theorem Sim.ev (h : Sim P n w0 LX df S0 S bm ow st a w) {o : Operand} {x : X} (hx : cX o = some x) : RepS P S w ow bm st.bx (x.ev st) (a.eval o) := by
  unfold cX at hx
  split at hx
  · cases hx; exact h.slot _
  · split at hx
    · rename_i h1; cases hx; exact (cV_rep h1).toS
    · cases hx
  · cases hx
    exact RepC.fn _ (fun _ h => by cases h) (.nil _)
  · cases hx

theorem getD_set (t : Array Value) (d i : Nat) (u : Value) (hd : d < t.size) : (t.setIfInBounds d u).getD i undef = if i = d then u else t.getD i undef := by
  simp only [Array.getD_eq_getD_getElem?, Array.getElem?_setIfInBounds]
  by_cases e : d = i
  · subst e; simp [hd]
  · rw [if_neg e, if_neg (fun h => e h.symm)]

/-- A value laid into a slot. -/
theorem Sim.put (h : Sim P n w0 LX df S0 S bm ow st a w) {d : Nat} (hd : OkD df n d) {v : V} {c : Value} (hv : RepS P S w ow bm st.bx v c) :
    Sim P n w0 LX df S0 S bm ow (st.put d v) (a.put (some d) c) w := by
  refine { h with size := ?_, pins := fun i u hu => ?_, slot := fun i => ?_, junk := ⟨h.junk.1, fun i hi => ?_⟩ }
  · simp [Act.put, h.size]
  · show (a.tmps.setIfInBounds d c).getD i undef = u
    rw [getD_set _ _ _ _ (by rw [h.size]; exact hd.1), if_neg]
    · exact h.pins i u hu
    · rintro rfl; rw [hd.2] at hu; cases hu
  · show RepS P S w ow bm st.bx (upd st.s d v i) ((a.tmps.setIfInBounds d c).getD i undef)
    rw [getD_set _ _ _ _ (by rw [h.size]; exact hd.1)]
    unfold upd
    split
    · exact hv
    · exact h.slot i
  · show upd st.s d v i = .junk
    unfold upd
    have := hd.1
    rw [if_neg (by omega)]
    exact h.junk.2 i hi

theorem Sim.putO (h : Sim P n w0 LX df S0 S bm ow st a w) {d : Option Nat} (hd : ∀ k, d = some k → OkD df n k) {v : V} {c : Value} (hv : RepS P S w ow bm st.bx v c) :
    Sim P n w0 LX df S0 S bm ow (st.putO d v) (a.put d c) w := by
  cases d with
  | none => exact h
  | some d => exact h.put (hd d rfl) hv

/-- A draw moves a count of the world. -/
theorem Sim.world (h : Sim P n w0 LX df S0 S bm ow st a w) (hh : w'.heap = w.heap) (hos : w'.os = w.os) (ht : w'.tape = w.tape) (hout : w'.output = w.output) : Sim P n w0 LX df S0 S bm ow st a w' := by
  have hc : ∀ p, w'.cell? p = w.cell? p := fun p => by simp [World.cell?, hh]
  have hle : Le S S ow ow w w' := ⟨fun _ _ h => h, fun _ _ _ => hc _, (Le.refl S ow w).oW⟩
  refine { h with below := ?_, slt := ?_, slot := fun i => (h.slot i).mono hle, box := ?_, row := ?_ }
  · exact ⟨hos.trans h.below.os, ht.trans h.below.tape, hout.trans h.below.output, by rw [hh]; exact h.below.size, fun k hk hx => by rw [hh]; exact h.below.block k hk hx⟩
  · rw [hh]; exact h.slt
  · intro d v hv
    obtain ⟨g, h1, h2, h3, h4⟩ := h.box d v hv
    refine ⟨g, h1, h2, ?_, h4⟩
    unfold BoxAt at h3 ⊢
    cases v <;> simp only [hh] at h3 ⊢ <;> first
      | exact h3
      | (obtain ⟨cur, T, cs, rest, e1, e0, e2⟩ := h3; exact ⟨cur, T, cs, rest, e1, e0, e2.mono hle⟩)
      | (obtain ⟨p, sl, e1, e0, e2, e3⟩ := h3; exact ⟨p, sl, e1, e0, e2.mono hle, e3⟩)
  · intro d e k hd
    obtain ⟨x, c, h1, h2⟩ := h.row d e k hd
    refine ⟨x, c, h1, ?_⟩
    unfold RowAt at h2 ⊢
    cases x with
    | none => exact h2
    | some ad =>
      obtain ⟨g, cur, q0, q1, q2, q3⟩ := h2
      exact ⟨g, cur, q0, q1, q2.of_eq (by rw [hh]), q3⟩

end
end Go.Nu
/-
  NU, text 5: the operations that make no memory: each does in the model what the plain evaluator says.
-/
namespace Go.Nu
open Go Go.RowKit

section
variable {P : Program} {n : Nat} {w0 w w' : World} {LX : Nat → Prop} {df : Df} {S0 S S' : Nat → Nat → Prop} {bm : Bm} {ow ow' : Ow} {st st' : St} {a : Act} {o : Oper} {E : Ext}

theorem wp_value {c : Value} {K : Act → World → Prop} {Q : Exit → Act → World → Prop} (hrun : (execOp a.eval o).run P w = .ok (.value c) w') (h : K (a.put o.dst c) w') : o.wp P a w K Q := by
  unfold Oper.wp
  rw [hrun]
  exact h

theorem stepK_P {dst : Option Nat} {args : List V} {f : List V → Option V} (h : stepK dst args (.P f) st = some st') : ∃ v, f args = some v ∧ st' = st.putO dst v := by
  simp only [stepK] at h
  split at h
  · rename_i v hv; exact ⟨v, hv, (Option.some.inj h).symm⟩
  · cases h

theorem stepK_L {dst : Option Nat} {args : List V} {f : List V → (Nat → Option V) → Option V} (h : stepK dst args (.L f) st = some st') : ∃ v, f args st.bx = some v ∧ st' = st.putO dst v := by
  simp only [stepK] at h
  split at h
  · rename_i v hv; exact ⟨v, hv, (Option.some.inj h).symm⟩
  · cases h

/-- An operation that yields a value and leaves the world as it is. -/
theorem good_value (hs : Sim P n w0 LX df S0 S bm ow st a w) (hd : ∀ k, o.dst = some k → OkD df n k) {v : V} {c : Value} (hrun : (execOp a.eval o).run P w = .ok (.value c) w)
    (hv : RepS P S w ow bm st.bx v c) (Q : Exit → Act → World → Prop) : o.wp P a w (SimE P n w0 LX df S0 (st.putO o.dst v)) Q :=
  wp_value hrun ⟨S, bm, ow, hs.putO hd hv⟩

/-- What a slot's value looks like. -/
theorem rep_bool {c : Value} {b : Bool} {bx : Nat → Option V} (h : RepS P S w ow bm bx (.bool b) c) : c = .bool b := by
  simp only [RepS, Rep1] at h; cases h; rfl
theorem rep_int {c : Value} {k : IntKind} {m : Int} {bx : Nat → Option V} (h : RepS P S w ow bm bx (.int k m) c) : c = .int k m := by
  simp only [RepS, Rep1] at h; cases h; rfl
theorem rep_str {c : Value} {l : List UInt8} {bx : Nat → Option V} (h : RepS P S w ow bm bx (.str l) c) : c = .string ⟨l.toArray⟩ := by
  simp only [RepS, Rep1] at h; cases h; rfl

theorem good_move {x : Operand} {y : X} (hs : Sim P n w0 LX df S0 S bm ow st a w) (hd : ∀ k, o.dst = some k → OkD df n k) (ho : o.op = .move x ∨ o.op = .assign x) (hx : cX x = some y)
    (h : step1 E (.mv o.dst y) st = some st') (Q : Exit → Act → World → Prop) : o.wp P a w (SimE P n w0 LX df S0 st') Q := by
  obtain ⟨v, hv, rfl⟩ := stepK_P h
  simp only [PO.args, List.map_cons, List.map_nil, Option.some.injEq] at hv
  subst hv
  exact good_value hs hd (by rcases ho with ho | ho <;> simp [execOp, ho]) (hs.ev hx) Q

theorem good_pick {x y z : Operand} {x' y' z' : X} {d : Nat} (hs : Sim P n w0 LX df S0 S bm ow st a w) (hd : OkD df n d) (hdst : o.dst = some d) (ho : o.op = .pick x y z) (hx : cX x = some x') (hy : cX y = some y') (hz : cX z = some z')
    (h : step1 E (.pick d x' y' z') st = some st') (Q : Exit → Act → World → Prop) : o.wp P a w (SimE P n w0 LX df S0 st') Q := by
  obtain ⟨v, hv, rfl⟩ := stepK_P h
  simp only [PO.args, List.map_cons, List.map_nil] at hv
  have h1 := hs.ev hx
  cases hc : x'.ev st <;> simp only [hc] at hv <;> try cases hv
  rename_i c
  rw [hc] at h1
  have e := rep_bool h1
  have := good_value (o := o) hs (by rw [hdst]; rintro k ⟨⟩; exact hd) (v := if c = true then y'.ev st else z'.ev st) (c := if c then a.eval y else a.eval z) (by simp [execOp, ho, e, asBool])
    (by cases c <;> simp only [if_true, if_false, Bool.false_eq_true] <;> first | exact hs.ev hy | exact hs.ev hz) Q
  rw [hdst] at this
  exact this

theorem int_ev (hs : Sim P n w0 LX df S0 S bm ow st a w) {x : Operand} {y : X} (hx : cX x = some y) {k : IntKind} {m : Int} (e : y.ev st = .int k m) : a.eval x = .int k m := by
  have := hs.ev hx; rw [e] at this; exact rep_int this
theorem str_ev (hs : Sim P n w0 LX df S0 S bm ow st a w) {x : Operand} {y : X} (hx : cX x = some y) {l : List UInt8} (e : y.ev st = .str l) : a.eval x = .string ⟨l.toArray⟩ := by
  have := hs.ev hx; rw [e] at this; exact rep_str this
theorem bool_ev (hs : Sim P n w0 LX df S0 S bm ow st a w) {x : Operand} {y : X} (hx : cX x = some y) {b : Bool} (e : y.ev st = .bool b) : a.eval x = .bool b := by
  have := hs.ev hx; rw [e] at this; exact rep_bool this

theorem run_equal_bool {t : TypeId} (ht : P.underlying t = some .bool) (x y : Bool) : (Op.equal t (.bool x) (.bool y)).run P w = .ok (x == y) w := by
  have h : ∀ d : Nat, (Op.equalIn (d + 1) t (.bool x) (.bool y)).run P w = .ok (x == y) w := fun d => by simp [Op.equalIn, run_underlying ht]
  exact h 9999

theorem good_eb {t u : TypeId} {x y : Operand} {x' y' : X} {d : Nat} {neg : Bool} {op : BinOp} (hs : Sim P n w0 LX df S0 S bm ow st a w) (hd : OkD df n d) (hdst : o.dst = some d) (ho : o.op = .binOp op t x y u)
    (hop : op = if neg then .neq else .eql) (ht : P.underlying t = some .bool) (hx : cX x = some x') (hy : cX y = some y')
    (h : step1 E (.eb d neg x' y') st = some st') (Q : Exit → Act → World → Prop) : o.wp P a w (SimE P n w0 LX df S0 st') Q := by
  obtain ⟨v, hv, rfl⟩ := stepK_P h
  simp only [PO.args, List.map_cons, List.map_nil] at hv
  cases hc : x'.ev st <;> simp only [hc] at hv <;> try cases hv
  rename_i b1
  cases hc2 : y'.ev st <;> simp only [hc2] at hv <;> try cases hv
  rename_i b2
  have e1 := bool_ev hs hx hc
  have e2 := bool_ev hs hy hc2
  have := good_value (o := o) hs (by rw [hdst]; rintro k ⟨⟩; exact hd) (v := .bool (if neg then !(b1 == b2) else b1 == b2)) (c := .bool (if neg then !(b1 == b2) else b1 == b2))
    (by cases neg <;> simp only [if_true, if_false, Bool.false_eq_true] at hop ⊢ <;> subst hop <;> simp [execOp, ho, e1, e2, eqGuard, binOp, run_equal_bool ht]) (RepC.bool _ _) Q
  rw [hdst] at this
  exact this

/-! ### comparing with nil, comparing structs -/
theorem repC_nil_nili {v : V} {cs : List Value} (h : RepC P S w ow v cs) (hv : v = .nili) : cs = [.nilIface] := by
  cases h <;> first | rfl | cases hv
theorem repC_iface {t : TypeId} {v : V} {c : Value} (h : RepC P S w ow (.iface t v) [c]) : ∃ u, c = .iface t u := by
  generalize hc : [c] = cs at h
  cases h with
  | iface1 _ _ _ => cases hc; exact ⟨_, rfl⟩
  | iface2 _ _ => cases hc; exact ⟨_, rfl⟩
theorem repS_nili {c : Value} {bx : Nat → Option V} (h : RepS P S w ow bm bx .nili c) : c = .nilIface := by
  simp only [RepS, Rep1] at h; cases h; rfl
theorem repS_nilp {c : Value} {bx : Nat → Option V} (h : RepS P S w ow bm bx .nilp c) : c = .pointer none := by
  simp only [RepS, Rep1] at h; cases h; rfl
theorem repS_rp {c : Value} {v : V} {bx : Nat → Option V} (h : RepS P S w ow bm bx (.rp v) c) : ∃ a, c = .pointer (some a) := by
  simp only [RepS, Rep1] at h; cases h; exact ⟨_, rfl⟩
theorem repS_rf {c : Value} {d : Nat} {p : List Nat} {bx : Nat → Option V} (h : RepS P S w ow bm bx (.rf d p) c) : ∃ a, c = .pointer (some a) := by
  obtain ⟨g, ct, off, _, _, _, e⟩ := h
  exact ⟨_, e⟩

theorem run_eqFields {D : Nat} {xs ys : Array Value} : ∀ {fs : List Field} {n : Nat} {ks : List Nat} {us vs : List V} {b : Bool} {cs ds : List Value}, eqKinds P n fs = some ks → eqsV ks us vs = some b → RepCs P S w ow us cs → RepCs P S w ow vs ds →
    (∀ i, xs[n + i]? = cs[i]?) → (∀ i, ys[n + i]? = ds[i]?) → (Op.eqFields (D + 1) xs ys fs).run P w = .ok b w
  | [], n, ks, us, vs, b, cs, ds, hk, he, _, _, _, _ => by
    simp only [eqKinds, Option.some.injEq] at hk
    subst hk
    cases us with
    | nil => cases vs with
      | nil => simp only [eqsV, Option.some.injEq] at he; subst he; rfl
      | cons => simp [eqsV] at he
    | cons => simp [eqsV] at he
  | f :: fs, n, ks, us, vs, b, cs, ds, hk, he, h1, h2, hx, hy => by
    unfold eqKinds at hk
    split at hk
    · rename_i hf
      obtain ⟨hoff, hname⟩ := hf
      -- the field's kind
      have key : ∀ (k : Nat) (l : List Nat), ks = k :: l → eqKinds P (n + 1) fs = some l → P.plainKey f.type = true →
          (∀ (u v : V) (c d : Value) (b1 : Bool), eq1 k u v = some b1 → RepC P S w ow u [c] → RepC P S w ow v [d] → (Op.equalIn (D + 1) f.type c d).run P w = .ok b1 w) →
          (∀ (u v : V) (b1 : Bool) (c1 c2 : List Value), eq1 k u v = some b1 → RepC P S w ow u c1 → RepC P S w ow v c2 → (∃ c, c1 = [c]) ∧ ∃ d, c2 = [d]) →
          (Op.eqFields (D + 1) xs ys (f :: fs)).run P w = .ok b w := by
        intro k l hks hl hpk hrun hone
        subst hks
        cases h1 with
        | nil => simp [eqsV] at he
        | cons _ hu1 hu2 =>
          cases h2 with
          | nil => simp [eqsV] at he
          | cons _ hv1 hv2 =>
            unfold eqsV at he
            split at he
            · rename_i b1 b2 e1 e2
              cases he
              obtain ⟨⟨c, rfl⟩, ⟨d, rfl⟩⟩ := hone _ _ _ _ _ e1 hu1 hv1
              have p1 := run_part_plain w hpk (xs := xs) (off := f.offset) (v := c) (by rw [hoff]; have := hx 0; simpa using this)
              have p2 := run_part_plain w hpk (xs := ys) (off := f.offset) (v := d) (by rw [hoff]; have := hy 0; simpa using this)
              have p3 := hrun _ _ _ _ _ e1 hu1 hv1
              have ih := run_eqFields (D := D) hl e2 hu2 hv2 (fun i => by have := hx (i + 1); rw [show n + 1 + i = n + (i + 1) by omega]; simpa using this) (fun i => by have := hy (i + 1); rw [show n + 1 + i = n + (i + 1) by omega]; simpa using this)
              simp only [Op.eqFields, hname, ne_eq, not_false_eq_true, if_true, Sem.run_bind, p1, p2, p3, Result.andThen_ok]
              cases b1
              · rfl
              · simpa using ih
            · cases he
      split at hk
      · rename_i l hu hl
        cases hk
        refine key 0 l rfl hl (by simp [Program.plainKey, hu]) (fun u v c d b1 e r1 r2 => ?_) (fun u v b1 c1 c2 e r1 r2 => ?_)
        · cases u <;> cases v <;> simp [eq1] at e
          cases r1; cases r2
          subst e
          exact run_equalIn_bool w D _ _ _ hu
        · cases u <;> cases v <;> simp [eq1] at e
          cases r1; cases r2
          exact ⟨⟨_, rfl⟩, ⟨_, rfl⟩⟩
      · rename_i q l hu hl
        cases hk
        refine key 1 l rfl hl (by simp [Program.plainKey, hu]) (fun u v c d b1 e r1 r2 => ?_) (fun u v b1 c1 c2 e r1 r2 => ?_)
        · cases u <;> cases v <;> simp [eq1] at e
          cases r1; cases r2
          obtain ⟨rfl, rfl⟩ := e
          exact run_equalIn_int w D _ _ _ _ _ hu
        · cases u <;> cases v <;> simp [eq1] at e
          cases r1; cases r2
          exact ⟨⟨_, rfl⟩, ⟨_, rfl⟩⟩
      · rename_i l hu hl
        cases hk
        refine key 2 l rfl hl (by simp [Program.plainKey, hu]) (fun u v c d b1 e r1 r2 => ?_) (fun u v b1 c1 c2 e r1 r2 => ?_)
        · cases u <;> cases v <;> simp [eq1] at e
          cases r1; cases r2
          subst e
          rw [run_equalIn_string w D _ _ _ hu]
          congr 1
          rw [ByteArray.toList_eq, ByteArray.toList_eq]
        · cases u <;> cases v <;> simp [eq1] at e
          cases r1; cases r2
          exact ⟨⟨_, rfl⟩, ⟨_, rfl⟩⟩
      · cases hk
    · cases hk

theorem run_equal_ifc {t : TypeId} {ms} (ht : P.underlying t = some (.interface ms)) (x y : Value) (b : Bool) (h : (x = .nilIface ∧ y = .nilIface ∧ b = true) ∨ (x = .nilIface ∧ (∃ u c, y = .iface u c) ∧ b = false) ∨ ((∃ u c, x = .iface u c) ∧ y = .nilIface ∧ b = false)) : (Op.equal t x y).run P w = .ok b w := by
  have h : ∀ d : Nat, (Op.equalIn (d + 1) t x y).run P w = .ok b w := fun d => by
    rcases h with ⟨rfl, rfl, rfl⟩ | ⟨rfl, ⟨u, c, rfl⟩, rfl⟩ | ⟨⟨u, c, rfl⟩, rfl, rfl⟩ <;> simp [Op.equalIn, run_underlying ht]
  exact h 9999
theorem run_equal_ptr {t e : TypeId} (ht : P.underlying t = some (.pointer e)) (x y : Option Addr) (h : x = none ∨ y = none) : (Op.equal t (.pointer x) (.pointer y)).run P w = .ok (x.isNone && y.isNone) w := by
  have h : ∀ d : Nat, (Op.equalIn (d + 1) t (.pointer x) (.pointer y)).run P w = .ok (x.isNone && y.isNone) w := fun d => by
    rcases h with rfl | rfl
    · simp [Op.equalIn, run_underlying ht]
    · cases x <;> simp [Op.equalIn, run_underlying ht]
  exact h 9999

theorem negOf_some {op : BinOp} {g : Bool} (h : negOf op = some g) : op = if g then .neq else .eql := by
  cases op <;> simp [negOf] at h <;> subst h <;> rfl
theorem isNilC_const {x : Operand} (h : isNilC x = true) : ∃ v, x = .const v ∧ (v = .nilIface ∨ v = .pointer none) := by
  unfold isNilC at h
  split at h
  · exact ⟨_, rfl, .inl rfl⟩
  · exact ⟨_, rfl, .inr rfl⟩
  · cases h

/-- What the values of a comparison are. -/
def CmpAt (P : Program) (S : Nat → Nat → Prop) (w : World) (ow : Ow) (k : EqK) (b : Bool) (x y : Value) : Prop :=
  (k = .ifc ∧ ((x = .nilIface ∧ y = .nilIface ∧ b = true) ∨ (x = .nilIface ∧ (∃ u c, y = .iface u c) ∧ b = false) ∨ ((∃ u c, x = .iface u c) ∧ y = .nilIface ∧ b = false))) ∨
  (k = .ptr ∧ ∃ p q, x = .pointer p ∧ y = .pointer q ∧ (p = none ∨ q = none) ∧ b = (p.isNone && q.isNone)) ∨
  ∃ ks us vs cs ds, k = .st ks ∧ x = .agg cs.toArray ∧ y = .agg ds.toArray ∧ RepCs P S w ow us cs ∧ RepCs P S w ow vs ds ∧ eqsV ks us vs = some b
theorem repC_aggs {t : TypeId} {fs : List V} {cs : List Value} (h : RepC P S w ow (.agg t fs) cs) : RepCs P S w ow fs cs := by
  cases h with
  | agg _ _ _ h _ => exact h
  | row _ h _ _ => exact h
theorem cmp_at {bx : Nat → Option V} {k : EqK} {b : Bool} {u v : V} {x y : Value} (h : eqV k u v = some b) (r1 : RepS P S w ow bm bx u x) (r2 : RepS P S w ow bm bx v y) : CmpAt P S w ow k b x y := by
  unfold eqV at h
  split at h
  · cases h; exact .inl ⟨rfl, .inl ⟨repS_nili r1, repS_nili r2, rfl⟩⟩
  · cases h; exact .inl ⟨rfl, .inr (.inl ⟨repS_nili r1, (by obtain ⟨u, h⟩ := repC_iface r2; exact ⟨_, _, h⟩), rfl⟩)⟩
  · cases h; exact .inl ⟨rfl, .inr (.inr ⟨(by obtain ⟨u, h⟩ := repC_iface r1; exact ⟨_, _, h⟩), repS_nili r2, rfl⟩)⟩
  · cases h; exact .inr (.inl ⟨rfl, _, _, repS_nilp r1, repS_nilp r2, .inl rfl, rfl⟩)
  · cases h; obtain ⟨q, hq⟩ := repS_rp r2; exact .inr (.inl ⟨rfl, _, _, repS_nilp r1, hq, .inl rfl, rfl⟩)
  · cases h; obtain ⟨q, hq⟩ := repS_rf r2; exact .inr (.inl ⟨rfl, _, _, repS_nilp r1, hq, .inl rfl, rfl⟩)
  · cases h; obtain ⟨q, hq⟩ := repS_rp r1; exact .inr (.inl ⟨rfl, _, _, hq, repS_nilp r2, .inr rfl, rfl⟩)
  · cases h; obtain ⟨q, hq⟩ := repS_rf r1; exact .inr (.inl ⟨rfl, _, _, hq, repS_nilp r2, .inr rfl, rfl⟩)
  · obtain ⟨cs, e1, h1⟩ := r1
    obtain ⟨ds, e2, h2⟩ := r2
    exact .inr (.inr ⟨_, _, _, cs, ds, rfl, e1, e2, repC_aggs h1, repC_aggs h2, h⟩)
  · cases h

theorem good_se {t u : TypeId} {x y : Operand} {x' y' : X} {d : Nat} {k : EqK} {neg : Bool} {op : BinOp} (hs : Sim P n w0 LX df S0 S bm ow st a w) (hd : OkD df n d) (hdst : o.dst = some d) (ho : o.op = .binOp op t x y u)
    (hop : negOf op = some neg) (ht : (k = .ifc ∧ (∃ ms, P.underlying t = some (.interface ms)) ∧ (isNilC x || isNilC y) = true) ∨ (k = .ptr ∧ ∃ e, P.underlying t = some (.pointer e)) ∨ ∃ ks, k = .st ks ∧ eqTy P t = some ks) (hx : cX x = some x') (hy : cX y = some y')
    (h : step1 E (.se d k neg x' y') st = some st') (Q : Exit → Act → World → Prop) : o.wp P a w (SimE P n w0 LX df S0 st') Q := by
  obtain ⟨v, hv, rfl⟩ := stepK_P h
  simp only [PO.args, List.map_cons, List.map_nil] at hv
  split at hv
  · rename_i b hb
    cases hv
    have hop := negOf_some hop
    have hbin : ((do eqGuard op t x y (a.eval x) (a.eval y); binOp op t (a.eval x) (a.eval y) : Sem Value)).run P w = .ok (.bool (if neg then !b else b)) w := by
      rcases cmp_at hb (hs.ev hx) (hs.ev hy) with ⟨hk, hc⟩ | ⟨hk, p, q, e1, e2, hpq, rfl⟩ | ⟨ks, us, vs, cs, ds, hk, e1, e2, h1, h2, he⟩
      · rcases ht with ⟨_, ⟨ms, hms⟩, hn⟩ | ⟨hk', _⟩ | ⟨ks, hk', _⟩
        · have heq := run_equal_ifc (P := P) (w := w) hms _ _ b hc
          have hcc : (eqGuard op t x y .nilIface .nilIface).run P w = .ok () w := by
            rw [Bool.or_eq_true] at hn
            rcases hn with hc | hc
            · obtain ⟨v, rfl, _⟩ := isNilC_const hc; cases op <;> simp [eqGuard]
            · obtain ⟨v, rfl, _⟩ := isNilC_const hc; cases op <;> simp [eqGuard]
          rcases hc with ⟨e1, e2, rfl⟩ | ⟨e1, ⟨u, c, e2⟩, rfl⟩ | ⟨⟨u, c, e1⟩, e2, rfl⟩ <;> rw [e1, e2] at heq ⊢ <;> cases neg <;> simp only [if_true, if_false, Bool.false_eq_true] at hop <;> subst hop
          · simp [hcc, binOp, heq]
          · simp [hcc, binOp, heq]
          · simp [eqGuard, binOp, heq]
          · simp [eqGuard, binOp, heq]
          · simp [eqGuard, binOp, heq]
          · simp [eqGuard, binOp, heq]
        · rw [hk] at hk'; cases hk'
        · rw [hk] at hk'; cases hk'
      · rcases ht with ⟨hk', _⟩ | ⟨_, e, hte⟩ | ⟨ks, hk', _⟩
        · rw [hk] at hk'; cases hk'
        · have heq := run_equal_ptr (P := P) (w := w) hte p q hpq
          rw [e1, e2]
          cases neg <;> simp only [if_true, if_false, Bool.false_eq_true] at hop <;> subst hop <;> simp [eqGuard, binOp, heq]
        · rw [hk] at hk'; cases hk'
      · rcases ht with ⟨hk', _⟩ | ⟨hk', _⟩ | ⟨ks', hk', hty⟩
        · rw [hk] at hk'; cases hk'
        · rw [hk] at hk'; cases hk'
        · rw [hk] at hk'
          cases hk'
          unfold eqTy at hty
          split at hty
          · rename_i fs hfs
            split at hty
            · rename_i hg
              have hff : P.fieldsOf t = fs := by unfold Program.fieldsOf; rw [hfs]
              have heq : (Op.equal t (.agg cs.toArray) (.agg ds.toArray)).run P w = .ok b w := by
                have h : (Op.equalIn (9998 + 1 + 1) t (.agg cs.toArray) (.agg ds.toArray)).run P w = .ok b w := by
                  rw [run_equalIn_struct w (9998 + 1) t _ _ (by rw [hff]; exact hfs) hg.2, hff]
                  exact run_eqFields hty he h1 h2 (fun i => by simp) (fun i => by simp)
                exact h
              have hgd := run_eqGuard_agg (w := w) op t x y cs.toArray ds.toArray hg.1
              rw [e1, e2]
              cases neg <;> simp only [if_true, if_false, Bool.false_eq_true] at hop <;> subst hop <;> simp [hgd, binOp, heq]
            · cases hty
          · cases hty
    have := good_value (o := o) hs (by rw [hdst]; rintro k ⟨⟩; exact hd) (v := .bool (if neg then !b else b)) (c := .bool (if neg then !b else b))
      (by simp only [execOp, ho]; rw [Sem.run_bind, hbin]; rfl) (RepC.bool _ _) Q
    rw [hdst] at this
    exact this
  · cases hv

theorem good_mn {x y : Operand} {x' y' : X} {d : Nat} {mx : Bool} {ts : Array TypeId} (hs : Sim P n w0 LX df S0 S bm ow st a w) (hd : OkD df n d) (hdst : o.dst = some d)
    (ho : o.op = .call { callee := .builtin (if mx then .max else .min), args := #[x, y], argTypes := ts }) (hx : cX x = some x') (hy : cX y = some y')
    (h : step1 E (.mn d mx x' y') st = some st') (Q : Exit → Act → World → Prop) : o.wp P a w (SimE P n w0 LX df S0 st') Q := by
  obtain ⟨v, hv, rfl⟩ := stepK_P h
  simp only [PO.args, List.map_cons, List.map_nil] at hv
  cases hc : x'.ev st <;> simp only [hc] at hv <;> try cases hv
  rename_i k p
  cases hc2 : y'.ev st <;> simp only [hc2] at hv <;> try cases hv
  rename_i k' q
  have e1 := int_ev hs hx hc
  have e2 := int_ev hs hy hc2
  have := good_value (o := o) hs (by rw [hdst]; rintro k ⟨⟩; exact hd) (v := .int k (if mx then max p q else min p q)) (c := .int k (if mx then max p q else min p q))
    (by
      cases mx
      · have : (if q < p then q else p) = min p q := by omega
        simp [execOp, ho, e1, e2, resolve, invoke, builtin, Builtin.min_, Builtin.min2, this]
      · have : (if p < q then q else p) = max p q := by omega
        simp [execOp, ho, e1, e2, resolve, invoke, builtin, Builtin.max_, Builtin.max2, this]) (RepC.int _ _ _) Q
  rw [hdst] at this
  exact this

theorem run_binV {op : BinOp} {t u : TypeId} {x y : Operand} (ho : o.op = .binOp op t x y u) {v1 v2 v : V} {c1 c2 : Value} (h1 : RepS P S w ow bm st.bx v1 c1) (h2 : RepS P S w ow bm st.bx v2 c2) (e1 : a.eval x = c1) (e2 : a.eval y = c2)
    (hv : binV op v1 v2 = some v) : ∃ c, (execOp a.eval o).run P w = .ok (.value c) w ∧ RepC P S w ow v [c] ∧ v.isAgg = false ∧ v.mem = true := by
  unfold binV at hv
  split at hv
  · rename_i k p k' q
    obtain rfl := rep_int h1
    obtain rfl := rep_int h2
    split at hv
    · split at hv
      · cases hv
      · rename_i hq
        cases hv
        exact ⟨_, by simp [execOp, ho, e1, e2, eqGuard, binOp, Op.shift, hq], .int _ _ _, rfl, rfl⟩
    · split at hv
      · cases hv
      · rename_i hq
        cases hv
        exact ⟨_, by simp [execOp, ho, e1, e2, eqGuard, binOp, Op.shift, hq], .int _ _ _, rfl, rfl⟩
    · rename_i op' hn1 hn2
      split at hv
      · rename_i hk
        subst hk
        split at hv
        all_goals first
          | (obtain rfl := Option.some.inj hv
             first
               | refine ⟨_, ?_, .int _ _ _, rfl, rfl⟩
               | refine ⟨_, ?_, .bool _ _, rfl, rfl⟩
             simp only [execOp, ho, e1, e2, eqGuard, binOp, ne_eq, not_true_eq_false, if_false]
             rfl)
          | (split at hv
             · cases hv
             · rename_i hq
               obtain rfl := Option.some.inj hv
               refine ⟨_, ?_, .int _ _ _, rfl, rfl⟩
               simp [execOp, ho, e1, e2, eqGuard, binOp, Op.intDiv, hq])
          | cases hv
      · cases hv
  · rename_i p q
    obtain rfl := rep_str h1
    obtain rfl := rep_str h2
    split at hv
    · split at hv
      · rename_i hq
        obtain rfl := Option.some.inj hv
        refine ⟨.string ⟨(p ++ q).toArray⟩, ?_, .str _ _, rfl, rfl⟩
        have hsum : (⟨p.toArray⟩ : ByteArray).size + (⟨q.toArray⟩ : ByteArray).size ≤ 9223372036854775807 := by
          simp only [size_of_list]
          unfold big at hq
          omega
        simp [execOp, ho, e1, e2, eqGuard, binOp_string_add, run_string_add_sum _ _ _ hsum, ByteArray.mk_append_mk]
      · cases hv
    all_goals first
      | (cases hv; exact ⟨_, by simp [execOp, ho, e1, e2, eqGuard, binOp, Op.stringOp], .bool _ _, rfl, rfl⟩)
      | cases hv
  · cases hv

theorem good_ar {t u : TypeId} {x y : Operand} {x' y' : X} {d : Nat} {op : BinOp} (hs : Sim P n w0 LX df S0 S bm ow st a w) (hd : OkD df n d) (hdst : o.dst = some d) (ho : o.op = .binOp op t x y u) (hx : cX x = some x') (hy : cX y = some y')
    (h : step1 E (.ar d op x' y') st = some st') (Q : Exit → Act → World → Prop) : o.wp P a w (SimE P n w0 LX df S0 st') Q := by
  obtain ⟨v, hv, rfl⟩ := stepK_P h
  simp only [PO.args, List.map_cons, List.map_nil] at hv
  obtain ⟨c, hrun, hr, hag, _⟩ := run_binV ho (hs.ev hx) (hs.ev hy) rfl rfl hv
  have := good_value (o := o) hs (by rw [hdst]; rintro k ⟨⟩; exact hd) hrun ((Rep1.of hag hr).toS) Q
  rw [hdst] at this
  exact this

end
end Go.Nu
/-
  NU, text 6: reads: elements, fields, parts of boxes, loads, cuts, conversions.
-/
namespace Go.Nu
open Go Go.RowKit

theorem addr_add (b o k : Nat) : (⟨b, o, none⟩ : Addr).add k = ⟨b, o + k, none⟩ := by
  unfold Addr.add
  split <;> simp_all

section
variable {P : Program} {n : Nat} {w0 w w' : World} {LX : Nat → Prop} {df : Df} {S0 S S' : Nat → Nat → Prop} {bm : Bm} {ow ow' : Ow} {st st' : St} {a : Act} {o : Oper} {E : Ext}

theorem RepCs.get : ∀ {vs : List V} {cs : List Value} {i : Nat} {v : V}, RepCs P S w ow vs cs → vs[i]? = some v →
    ∃ pre c post, cs = pre ++ (c ++ post) ∧ pre.length = ((vs.take i).map (width P)).sum ∧ RepC P S w ow v c
  | _, _, _, _, .nil _, h => by simp at h
  | _, _, 0, _, .cons _ (c := c) (cs := cs) h1 h2, h => by
    simp at h
    subst h
    exact ⟨[], c, cs, by simp, by simp, h1⟩
  | _, _, i + 1, v, .cons _ (c := c) h1 h2, h => by
    obtain ⟨pre, c', post, e1, e2, e3⟩ := RepCs.get (i := i) (v := v) h2 (by simpa using h)
    refine ⟨c ++ pre, c', post, by rw [e1]; simp, ?_, e3⟩
    rw [List.length_append, e2, h1.len]
    simp

theorem Mem.sub {b k : Nat} {pre c post : List Value} (h : Mem S w b k (pre ++ (c ++ post))) : Mem S w b (k + pre.length) c := by
  intro j u hu
  have hj : j < c.length := by
    rcases Nat.lt_or_ge j c.length with hh | hh
    · exact hh
    · simp [List.getElem?_eq_none hh] at hu
  have := h (pre.length + j) u (by
    rw [List.getElem?_append_right (by omega), Nat.add_sub_cancel_left, List.getElem?_append_left hj]
    exact hu)
  rw [← Nat.add_assoc] at this
  exact this

theorem uniform {e : TypeId} : ∀ {es : List V} (i : Nat), (∀ x ∈ es, width P x = P.cellsOf e) → i ≤ es.length → ((es.take i).map (width P)).sum = i * P.cellsOf e
  | _, 0, _, _ => by simp
  | x :: es, i + 1, h, hi => by
    simp only [List.take_succ_cons, List.map_cons, List.sum_cons]
    rw [uniform (e := e) i (fun y hy => h y (by simp [hy])) (by simpa using hi), h x (by simp), Nat.add_mul]
    omega
  | [], i + 1, _, hi => by simp at hi

theorem RepC.mem {v : V} {c : List Value} (h : RepC P S w ow v c) : v.mem = true := by
  cases h <;> rfl

theorem RepC.toRep1 {v : V} {c : List Value} (h : RepC P S w ow v c) (hv : v.isAgg = false) : ∃ x, c = [x] ∧ Rep1 P S w ow v x := by
  have hl := h.len
  have : width P v = 1 := by cases v <;> first | rfl | simp [V.isAgg] at hv
  rw [this] at hl
  match c, hl with
  | [x], _ => exact ⟨x, rfl, Rep1.of hv h⟩

theorem row_at {d : Nat} {c : Value} {t : TypeId} {es : List V} (h : RepS P S w ow bm st.bx (.it d) c) (hb : st.bx d = some (.agg t es)) : ∃ g e cap, bm d = some g ∧ t = rowT + e ∧ c = .slice (some ⟨g, 0, none⟩) es.length cap := by
  obtain ⟨g, ct, h1, h2, h3⟩ := h
  obtain rfl : ct = .agg t es := Option.some.inj (h2.symm.trans hb)
  rcases h3 with ⟨s, pos, e1, _⟩ | ⟨e, es', cap, e1, _, _, e2⟩
  · cases e1
  · cases e1; exact ⟨g, e, cap, h1, rfl, e2⟩

/-- What a box holds that is a row. -/
theorem Sim.rowAt (hs : Sim P n w0 LX df S0 S bm ow st a w) {d e : Nat} {es : List V} (hb : st.bx d = some (.agg (rowT + e) es)) : ∃ g cur T cs rest, bm d = some g ∧ w.heap[g]? = some (.cells cur T (0, 0)) ∧ cur.toList = cs ++ rest ∧ RepCs P S w ow es cs ∧ (∀ x ∈ es, width P x = P.cellsOf e) ∧ es.length ≤ maxLen := by
  obtain ⟨g, z1, z2, z3, z4⟩ := hs.box _ _ hb
  obtain ⟨cur, T, cs, rest, y0, yr, y1⟩ := z3
  generalize hq : rowT + e = q at y1
  cases y1 with
  | agg _ _ _ _ h4 => exact absurd (show rowT ≤ q by rw [← hq]; exact Nat.le_add_right _ _) h4
  | row _ h1 h2 h3 =>
    rename_i e'
    obtain rfl : e = e' := Nat.add_left_cancel hq
    exact ⟨g, cur, T, cs, rest, z1, y0, yr, h1, h2, h3⟩

/-- The element of a slice, through its address. -/
theorem eaV_rep {e : TypeId} {x i v : V} {c ci : Value} (h : eaV e x i = some v) (hx : RepS P S w ow bm st.bx x c) (hi : RepS P S w ow bm st.bx i ci) :
    ∃ (b off k cap : Nat) (ik : IntKind) (m : Int) (u : V), c = .slice (some ⟨b, off, none⟩) k cap ∧ ci = .int ik m ∧ 0 ≤ m ∧ m < k ∧ v = .rp u ∧
      RepC P S w ow (.rp u) [.pointer (some ⟨b, off + m.toNat * P.cellsOf e, none⟩)] := by
  unfold eaV at h
  split at h
  · rename_i tg e' es ik m
    split at h
    · rename_i he
      subst he
      split at h
      · rename_i hm
        obtain rfl := rep_int hi
        cases h
        simp only [RepS, Rep1] at hx
        cases hx with
        | nilsl => simp at hm; omega
        | emp => simp at hm; omega
        | sl _ h1 h2 h3 h4 h5 h6 =>
          rename_i cs b off cap
          have hlt : m.toNat < es.length := by omega
          have hget : es[m.toNat]? = some (es.getD m.toNat .junk) := by
            rw [List.getD_eq_getElem?_getD, List.getElem?_eq_getElem hlt]; rfl
          obtain ⟨pre, cc, post, e1, e2, e3⟩ := RepCs.get h1 hget
          rw [uniform _ h2 (by omega)] at e2
          subst e1
          have hmem := Mem.sub h3
          rw [e2] at hmem
          exact ⟨b, off, es.length, cap, ik, m, _, rfl, rfl, hm.1, hm.2, rfl, .rp _ e3 hmem⟩
      · cases h
    · cases h
  · cases h

theorem good_ea {t e : TypeId} {x i : Operand} {x' i' : X} {d : Nat} (hs : Sim P n w0 LX df S0 S bm ow st a w) (hd : OkD df n d) (hdst : o.dst = some d) (ho : o.op = .indexAddr t x i) (ht : P.underlying t = some (.slice e))
    (hi0 : (P.info? e).isSome = true) (hx : cX x = some x') (hi : cX i = some i') (h : step1 E (.ea d e x' i') st = some st') (Q : Exit → Act → World → Prop) : o.wp P a w (SimE P n w0 LX df S0 st') Q := by
  obtain ⟨v, hv, rfl⟩ := stepK_L h
  simp only [PO.args, List.map_cons, List.map_nil] at hv
  obtain ⟨inf, hinf⟩ := Option.isSome_iff_exists.1 hi0
  have hc : P.cellsOf e = inf.size := by simp [Program.cellsOf, hinf]
  unfold eaB at hv
  split at hv
  · rename_i bd hx0
    split at hv
    · rename_i ik m t' es hi1 hb
      split at hv
      · rename_i htt
        subst htt
        split at hv
        · rename_i hm
          cases hv
          have hr := hs.ev hx
          rw [hx0] at hr
          obtain ⟨g, e', cap, r1, r2, r3⟩ := row_at hr hb
          obtain ⟨g', cur, T, cs, rest, z1, z2, zr, z3, z4, z5⟩ := hs.rowAt hb
          obtain rfl : g' = g := Option.some.inj (z1.symm.trans r1)
          have e2 := int_ev hs hi hi1
          have hlt : m < (es.length : Int) := hm.2
          have := good_value (o := o) hs (by rw [hdst]; rintro k ⟨⟩; exact hd) (c := .pointer (some ⟨g', m.toNat * P.cellsOf e, none⟩))
            (by simp [execOp, ho, r3, e2, Instr.indexAt, asIntOf, run_underlying ht, hm.1, hlt, sizeOf, typeInfo, hinf, addr_add, hc]) (v := .rf bd [m.toNat])
            ⟨g', _, _, r1, hb, by
              have hl : m.toNat < es.length := by omega
              simp only [pathOff, List.getElem?_eq_getElem hl, Option.map_some, Nat.add_zero]
              rw [uniform _ z4 (by omega)], rfl⟩ Q
          rw [hdst] at this
          exact this
        · cases hv
      · cases hv
    · cases hv
  rename_i hnot
  obtain ⟨b, off, k, cap, ik, m, u, e1, e2, h0, hlt, rfl, hr⟩ := eaV_rep hv (hs.ev hx) (hs.ev hi)
  have := good_value (o := o) hs (by rw [hdst]; rintro k ⟨⟩; exact hd) (c := .pointer (some ⟨b, off + m.toNat * P.cellsOf e, none⟩))
    (by simp [execOp, ho, e1, e2, Instr.indexAt, asIntOf, run_underlying ht, h0, hlt, sizeOf, typeInfo, hinf, addr_add, hc]) (Rep1.toS (Rep1.of rfl hr)) Q
  rw [hdst] at this
  exact this

theorem good_un {t : TypeId} {x : Operand} {x' : X} {d : Nat} {op : UnOp} (hs : Sim P n w0 LX df S0 S bm ow st a w) (hd : OkD df n d) (hdst : o.dst = some d) (ho : o.op = .unOp op t x) (hx : cX x = some x')
    (h : step1 E (.un d op x') st = some st') (Q : Exit → Act → World → Prop) : o.wp P a w (SimE P n w0 LX df S0 st') Q := by
  obtain ⟨v, hv, rfl⟩ := stepK_P h
  simp only [PO.args, List.map_cons, List.map_nil] at hv
  unfold unV at hv
  split at hv
  · rename_i b hc
    split at hv
    · cases hv
      have e := bool_ev hs hx hc
      have := good_value (o := o) hs (by rw [hdst]; rintro k ⟨⟩; exact hd) (c := .bool (!b)) (by simp [execOp, ho, e, Op.unary]) (v := .bool (!b)) (RepC.bool _ _) Q
      rw [hdst] at this
      exact this
    · cases hv
  · rename_i k m hc
    split at hv
    · cases hv
      have e := int_ev hs hx hc
      have := good_value (o := o) hs (by rw [hdst]; rintro k ⟨⟩; exact hd) (c := .int k (k.wrap (0 - m))) (by simp [execOp, ho, e, Op.unary, Op.intArith]) (v := .int k (k.wrap (0 - m))) (RepC.int _ _ _) Q
      rw [hdst] at this
      exact this
    · cases hv
  · cases hv

theorem good_ln {t : TypeId} {x : Operand} {x' : X} {d : Nat} {e : Option TypeId} (hs : Sim P n w0 LX df S0 S bm ow st a w) (hd : OkD df n d) (hdst : o.dst = some d)
    (ho : o.op = .call { callee := .builtin .len, args := #[x], argTypes := #[t] }) (hx : cX x = some x')
    (ht : (e = none ∧ P.underlying t = some .string) ∨ (∃ e', e = some e' ∧ P.underlying t = some (.slice e')))
    (h : step1 E (.ln d e x') st = some st') (Q : Exit → Act → World → Prop) : o.wp P a w (SimE P n w0 LX df S0 st') Q := by
  obtain ⟨v, hv, rfl⟩ := stepK_L h
  simp only [PO.args, List.map_cons, List.map_nil] at hv
  unfold lenB at hv
  split at hv
  · rename_i bd hx0
    split at hv
    · rename_i e1 t' es hb
      split at hv
      · rename_i htt
        cases hv
        have hr := hs.ev hx
        rw [hx0] at hr
        obtain ⟨g, e', cap, r1, r2, r3⟩ := row_at hr hb
        rcases ht with ⟨h1, _⟩ | ⟨e', h1, ht⟩
        · cases h1
        · have := good_value (o := o) hs (by rw [hdst]; rintro k ⟨⟩; exact hd) (c := .int .i64 es.length)
            (by simp [execOp, ho, r3, resolve, invoke, builtin, Builtin.len_, run_underlying ht, goInt]) (v := .int .i64 es.length) (RepC.int _ _ _) Q
          rw [hdst] at this
          exact this
      · cases hv
    · cases hv
  rename_i hnot
  unfold lenV at hv
  split at hv
  · rename_i l hc
    split at hv
    · cases hv
    · rename_i he
      cases hv
      have e1 := str_ev hs hx hc
      rcases ht with ⟨rfl, ht⟩ | ⟨e', rfl, ht⟩
      · have := good_value (o := o) hs (by rw [hdst]; rintro k ⟨⟩; exact hd) (c := .int .i64 l.length)
          (by simp [execOp, ho, e1, resolve, invoke, builtin, Builtin.len_, run_underlying ht, goInt, size_of_list]) (v := .int .i64 l.length) (RepC.int _ _ _) Q
        rw [hdst] at this
        exact this
      · simp at he
  · rename_i tg e2 es hc
    split at hv
    · rename_i he
      cases hv
      rcases ht with ⟨rfl, ht⟩ | ⟨e', rfl, ht⟩
      · simp at he
      · have hr := hs.ev hx
        rw [hc] at hr
        simp only [RepS, Rep1] at hr
        have : ∃ b cap, a.eval x = .slice b es.length cap := by
          generalize a.eval x = q at hr
          cases hr with
          | nilsl => exact ⟨_, _, rfl⟩
          | emp => exact ⟨_, _, rfl⟩
          | sl => exact ⟨_, _, rfl⟩
        obtain ⟨b, cap, e1⟩ := this
        have := good_value (o := o) hs (by rw [hdst]; rintro k ⟨⟩; exact hd) (c := .int .i64 es.length)
          (by simp [execOp, ho, e1, resolve, invoke, builtin, Builtin.len_, run_underlying ht, goInt]) (v := .int .i64 es.length) (RepC.int _ _ _) Q
        rw [hdst] at this
        exact this
    · cases hv
  · cases hv

theorem good_ix {t : TypeId} {x i : Operand} {x' i' : X} {d : Nat} (hs : Sim P n w0 LX df S0 S bm ow st a w) (hd : OkD df n d) (hdst : o.dst = some d) (ho : o.op = .index t x i) (ht : P.underlying t = some .string)
    (hx : cX x = some x') (hi : cX i = some i') (h : step1 E (.ix d x' i') st = some st') (Q : Exit → Act → World → Prop) : o.wp P a w (SimE P n w0 LX df S0 st') Q := by
  obtain ⟨v, hv, rfl⟩ := stepK_P h
  simp only [PO.args, List.map_cons, List.map_nil] at hv
  unfold idxV at hv
  split at hv
  · rename_i l k m hc hc2
    split at hv
    · rename_i hm
      cases hv
      have e1 := str_ev hs hx hc
      have e2 := int_ev hs hi hc2
      have hlt : m.toNat < l.length := by omega
      have hg : (⟨l.toArray⟩ : ByteArray)[m.toNat]? = some (l.getD m.toNat 0) := by
        rw [ByteArray.getElem?_lt' _ _ (by rw [size_of_list]; exact hlt)]
        congr 1
        show l.toArray[m.toNat] = _
        simp [List.getD_eq_getElem?_getD, hlt]
      have := good_value (o := o) hs (by rw [hdst]; rintro k ⟨⟩; exact hd) (c := .int .u8 (l.getD m.toNat 0).toNat)
        (by simp [execOp, ho, e1, e2, Instr.index, asIntOf, run_underlying ht, hm.1, hg]) (v := .int .u8 (l.getD m.toNat 0).toNat) (RepC.int _ _ _) Q
      rw [hdst] at this
      exact this
    · cases hv
  · cases hv

theorem good_cvi {t u : TypeId} {x : Operand} {x' : X} {d : Nat} {k k0 : IntKind} (hs : Sim P n w0 LX df S0 S bm ow st a w) (hd : OkD df n d) (hdst : o.dst = some d) (ho : o.op = .convert t u x)
    (ht : P.underlying t = some (.int k0)) (hu : P.underlying u = some (.int k)) (hx : cX x = some x') (h : step1 E (.cvi d k x') st = some st') (Q : Exit → Act → World → Prop) : o.wp P a w (SimE P n w0 LX df S0 st') Q := by
  obtain ⟨v, hv, rfl⟩ := stepK_P h
  simp only [PO.args, List.map_cons, List.map_nil] at hv
  cases hc : x'.ev st <;> simp only [hc] at hv <;> try cases hv
  rename_i k' m
  have e1 := int_ev hs hx hc
  have := good_value (o := o) hs (by rw [hdst]; rintro k ⟨⟩; exact hd) (c := .int k (k.wrap m)) (by simp [execOp, ho, e1, convert, run_underlying ht, run_underlying hu, Conv.intToInt]) (v := .int k (k.wrap m)) (RepC.int _ _ _) Q
  rw [hdst] at this
  exact this

theorem good_cvS {t u : TypeId} {x : Operand} {x' : X} {d : Nat} (hs : Sim P n w0 LX df S0 S bm ow st a w) (hd : OkD df n d) (hdst : o.dst = some d) (ho : o.op = .convert t u x)
    (ht : P.underlying t = some .string) (hu : P.underlying u = some .string) (hx : cX x = some x') (h : step1 E (.cvS d x') st = some st') (Q : Exit → Act → World → Prop) : o.wp P a w (SimE P n w0 LX df S0 st') Q := by
  obtain ⟨v, hv, rfl⟩ := stepK_P h
  simp only [PO.args, List.map_cons, List.map_nil] at hv
  cases hc : x'.ev st <;> simp only [hc] at hv <;> try cases hv
  rename_i l
  have e1 := str_ev hs hx hc
  have := good_value (o := o) hs (by rw [hdst]; rintro k ⟨⟩; exact hd) (c := .string ⟨l.toArray⟩) (by simp [execOp, ho, e1, convert, run_underlying ht, run_underlying hu]) (v := .str l) (RepC.str _ _) Q
  rw [hdst] at this
  exact this

theorem good_ex {x : Operand} {x' : X} {d i : Nat} (hs : Sim P n w0 LX df S0 S bm ow st a w) (hd : OkD df n d) (hdst : o.dst = some d) (ho : o.op = .extract x i) (hx : cX x = some x')
    (h : step1 E (.ex d i x') st = some st') (Q : Exit → Act → World → Prop) : o.wp P a w (SimE P n w0 LX df S0 st') Q := by
  obtain ⟨v, hv, rfl⟩ := stepK_P h
  simp only [PO.args, List.map_cons, List.map_nil] at hv
  have hr := hs.ev hx
  cases hc : x'.ev st <;> simp only [hc] at hv <;> try cases hv
  rename_i vs
  rw [hc] at hr
  obtain ⟨cs, e1, h2⟩ := hr
  obtain ⟨b, e2, h3⟩ := h2.get i v hv
  have := good_value (o := o) hs (by rw [hdst]; rintro k ⟨⟩; exact hd) (c := b) (by simp [execOp, ho, e1, Instr.extract, e2]) h3.toS Q
  rw [hdst] at this
  exact this

theorem good_mi {t : TypeId} {x : Operand} {x' : X} {d : Nat} {td : TypeDesc} (hs : Sim P n w0 LX df S0 S bm ow st a w) (hd : OkD df n d) (hdst : o.dst = some d) (ho : o.op = .makeInterface t x)
    (ht : P.underlying t = some td) (hn : ∀ ms, td ≠ .interface ms) (hx : cX x = some x')
    (h : step1 E (.mi d t x') st = some st') (Q : Exit → Act → World → Prop) : o.wp P a w (SimE P n w0 LX df S0 st') Q := by
  obtain ⟨v, hv, rfl⟩ := stepK_P h
  simp only [PO.args, List.map_cons, List.map_nil] at hv
  split at hv
  · rename_i hm
    cases hv
    have hr := (hs.ev hx).one hm
    have hu := hr.untag.any (ow := ow)
    have hrep : RepC P S w ow (.iface t (x'.ev st).untag) [.iface t (a.eval x)] := by
      cases hg : (x'.ev st).untag.isAgg
      · obtain ⟨y, e1, _⟩ := hu.cells.toRep1 hg
        have e2 := hu.oneCell hg
        have := hu.cells
        rw [e2] at this
        exact .iface1 _ hg this
      · cases hq : (x'.ev st).untag <;> rw [hq] at hg <;> simp only [V.isAgg, Bool.false_eq_true] at hg
        rw [hq] at hu
        obtain ⟨cs, e1, h2⟩ := hu
        rw [e1]
        exact .iface2 _ h2
    have := good_value (o := o) hs (by rw [hdst]; rintro k ⟨⟩; exact hd) (c := .iface t (a.eval x))
      (by cases td <;> first | (exact absurd rfl (hn _)) | simp [execOp, ho, Instr.makeInterface, run_underlying ht]) (Rep1.toS (Rep1.of rfl hrep)) Q
    rw [hdst] at this
    exact this
  · cases hv

theorem good_nc {x : Operand} {x' : X} (hs : Sim P n w0 LX df S0 S bm ow st a w) (hd : ∀ k, o.dst = some k → OkD df n k) (ho : o.op = .nilCheck x) (hx : cX x = some x')
    (h : step1 E (.nc o.dst x') st = some st') (Q : Exit → Act → World → Prop) : o.wp P a w (SimE P n w0 LX df S0 st') Q := by
  obtain ⟨v, hv, rfl⟩ := stepK_P h
  simp only [PO.args, List.map_cons, List.map_nil] at hv
  split at hv
  · rename_i hp
    cases hv
    have hr := hs.ev hx
    have hc : (∃ ad, a.eval x = .pointer (some ad)) ∨ ∃ f cs, a.eval x = .func (.func f) #[] cs := by
      cases hq : x'.ev st <;> rw [hq] at hp hr <;> simp only [isPtr, Bool.false_eq_true] at hp
      · simp only [RepS, Rep1] at hr
        generalize a.eval x = q at hr
        cases hr; exact .inl ⟨_, rfl⟩
      · obtain ⟨g, ct, off, _, _, _, e⟩ := hr
        exact .inl ⟨_, e⟩
      · simp only [RepS, Rep1] at hr
        generalize a.eval x = q at hr
        cases hr; exact .inr ⟨_, _, rfl⟩
    refine good_value hs hd (c := a.eval x) ?_ hr Q
    rcases hc with ⟨ad, e⟩ | ⟨f, cs, e⟩ <;> simp [execOp, ho, e]
  · cases hv

end
end Go.Nu
/-
  NU, text 7: field and array addresses, loads, struct values, cuts, bytes to string.
-/
namespace Go.Nu
open Go Go.RowKit

section
variable {P : Program} {n : Nat} {w0 w w' : World} {LX : Nat → Prop} {df : Df} {S0 S S' : Nat → Nat → Prop} {bm : Bm} {ow ow' : Ow} {st st' : St} {a : Act} {o : Oper} {E : Ext}

/-- The part at a path stands at the path's offset. -/
theorem RepC.at_ : ∀ {p : List Nat} {v u : V} {cs : List Value}, RepC P S w ow v cs → v.at_ p = some u →
    ∃ off pre c post, pathOff P v p = some off ∧ cs = pre ++ (c ++ post) ∧ pre.length = off ∧ RepC P S w ow u c
  | [], v, u, cs, h, hp => by
    cases v <;> simp only [V.at_, Option.some.injEq] at hp <;> subst hp <;> exact ⟨0, [], cs, [], by simp [pathOff], by simp, rfl, h⟩
  | i :: p, v, u, cs, h, hp => by
    cases h with
    | agg _ h1 h2 h3 h4 =>
      rename_i t fs
      simp only [V.at_] at hp
      split at hp
      · rename_i f hf
        obtain ⟨pre, c, post, e1, e2, e3⟩ := RepCs.get h3 hf
        obtain ⟨off, pre', c', post', g1, g2, g3, g4⟩ := RepC.at_ e3 hp
        refine ⟨((fs.take i).map (width P)).sum + off, pre ++ pre', c', post' ++ post, ?_, ?_, ?_, g4⟩
        · simp [pathOff, hf, g1]
        · rw [e1, g2]; simp
        · rw [List.length_append, e2, g3]
      · cases hp
    | row _ h3 h1 h2 =>
      rename_i t fs
      simp only [V.at_] at hp
      split at hp
      · rename_i f hf
        obtain ⟨pre, c, post, e1, e2, e3⟩ := RepCs.get h3 hf
        obtain ⟨off, pre', c', post', g1, g2, g3, g4⟩ := RepC.at_ e3 hp
        refine ⟨((fs.take i).map (width P)).sum + off, pre ++ pre', c', post' ++ post, ?_, ?_, ?_, g4⟩
        · simp [pathOff, hf, g1]
        · rw [e1, g2]; simp
        · rw [List.length_append, e2, g3]
      · cases hp
    | _ => simp [V.at_] at hp

theorem pathOff_snoc : ∀ {p : List Nat} {v : V} {t : TypeId} {fs : List V} {f off : Nat}, v.at_ p = some (.agg t fs) → f < fs.length → pathOff P v p = some off →
    pathOff P v (p ++ [f]) = some (off + ((fs.take f).map (width P)).sum)
  | [], v, t, fs, f, off, h, hf, ho => by
    cases v <;> simp only [V.at_, Option.some.injEq] at h <;> try cases h
    simp only [pathOff, Option.some.injEq] at ho
    subst ho
    simp [pathOff, List.getElem?_eq_getElem hf]
  | i :: p, v, t, fs, f, off, h, hf, ho => by
    cases v <;> simp only [V.at_] at h <;> try cases h
    rename_i t' fs'
    split at h
    · rename_i g hg
      simp only [pathOff, hg] at ho
      cases hq : pathOff P g p with
      | none => simp [hq] at ho
      | some o' =>
        simp only [hq, Option.map_some, Option.some.injEq] at ho
        have := pathOff_snoc (f := f) h hf hq
        simp only [List.cons_append, pathOff, hg, this, Option.map_some, Option.some.injEq]
        omega
    · cases h

theorem fieldOk_spec {s : TypeId} {f : Nat} (h : fieldOk P s f = true) : ∃ fs szs fd inf, P.underlying s = some (.struct fs) ∧ sizes P s = some szs ∧ fs[f]? = some fd ∧ fd.offset = (szs.take f).sum ∧
    P.info? fd.type = some inf ∧ inf.size ≠ 0 ∧ (cT P fd.type).isSome = true ∧ szs.sum = P.cellsOf s ∧ szs[f]? = some (P.cellsOf fd.type) ∧ ¬ rowT ≤ s := by
  unfold fieldOk at h
  split at h
  · rename_i fs szs h1 h2
    split at h
    · rename_i fd h3
      simp only [Bool.and_eq_true, beq_iff_eq, decide_eq_true_eq] at h
      obtain ⟨⟨⟨⟨⟨g1, g2⟩, g3⟩, g4⟩, g5⟩, g6⟩ := h
      obtain ⟨inf, hinf⟩ := Option.isSome_iff_exists.1 g3
      refine ⟨fs, szs, fd, inf, h1, h2, h3, g1, hinf, by simpa [Program.cellsOf, hinf] using g2, g4, g5, ?_, g6⟩
      simp only [sizes, h1, Option.some.injEq] at h2
      subst h2
      simp [h3]
    · cases h
  · cases h

theorem run_fieldAt {s : TypeId} {f b k off : Nat} {fs : Array Field} {fd : Field} {inf : TypeInfo} (h1 : P.underlying s = some (.struct fs)) (h2 : fs[f]? = some fd) (h3 : fd.offset = off) (h4 : P.info? fd.type = some inf) (h5 : inf.size ≠ 0) :
    (Instr.fieldAt s (.pointer (some ⟨b, k, none⟩)) f).run P w = .ok (.pointer (some ⟨b, k + off, none⟩)) w := by
  subst h3
  simp [Instr.fieldAt, run_underlying h1, h2, Instr.sureAddr, fieldPlace, sizeOf, typeInfo, h4, h5, addr_add]

theorem good_fa {s : TypeId} {f d : Nat} {x : Operand} {x' : X} (hs : Sim P n w0 LX df S0 S bm ow st a w) (hd : OkD df n d) (hdst : o.dst = some d) (ho : o.op = .fieldAddr s x f) (hf : fieldOk P s f = true) (hx : cX x = some x')
    (h : step1 E (.fa d s f x') st = some st') (Q : Exit → Act → World → Prop) : o.wp P a w (SimE P n w0 LX df S0 st') Q := by
  obtain ⟨v, hv, rfl⟩ := stepK_L h
  simp only [PO.args, List.map_cons, List.map_nil] at hv
  obtain ⟨fs0, szs, fd, inf, h1, h2, h3, h4, h5, h6, h7, h8, h9, h10⟩ := fieldOk_spec hf
  have hr := hs.ev hx
  unfold faV at hv
  split at hv
  · rename_i t' fs hc
    rw [hc] at hr
    split at hv
    · rename_i ht
      subst ht
      split at hv
      · rename_i u hu
        cases hv
        have : ∃ b k cs, a.eval x = .pointer (some ⟨b, k, none⟩) ∧ RepC P S w noOw (.agg t' fs) cs ∧ Mem S w b k cs := by
          simp only [RepS, Rep1] at hr
          generalize a.eval x = q at hr
          cases hr with | rp _ g1 g2 => exact ⟨_, _, _, rfl, g1, g2⟩
        obtain ⟨b, k, cs, e1, g1, g2⟩ := this
        cases g1 with
        | row _ _ _ _ => exact absurd (Nat.le_add_right _ _) h10
        | agg _ k1 k2 k3 _ =>
          have hsz : szs = fs.map (width P) := Option.some.inj (h2.symm.trans k1)
          obtain ⟨pre, c, post, q1, q2, q3⟩ := RepCs.get k3 hu
          subst q1
          have hm := g2.sub
          have := good_value (o := o) hs (by rw [hdst]; rintro k ⟨⟩; exact hd) (c := .pointer (some ⟨b, k + pre.length, none⟩))
            (by simp only [execOp, ho, e1]; rw [Sem.run_bind]; rw [run_fieldAt h1 h3 (off := pre.length) (by rw [h4, hsz, q2, List.map_take]) h5 h6]; rfl) (v := .rp u) (Rep1.toS (Rep1.of rfl (RepC.rp _ q3 hm))) Q
          rw [hdst] at this
          exact this
      · cases hv
    · cases hv
  · rename_i bd p hc
    rw [hc] at hr
    obtain ⟨g, ct, off, r1, r2, r3, r4⟩ := hr
    rw [r2] at hv
    simp only [] at hv
    split at hv
    · rename_i t' fs hat
      split at hv
      · rename_i ht
        subst ht
        split at hv
        · rename_i hfl
          cases hv
          obtain ⟨g', z1, z2, z3, z4⟩ := hs.box _ _ r2
          have hct : ∃ cs, RepC P S w ow ct cs := by
            unfold BoxAt at z3
            cases ct <;> first
              | (simp only [] at z3; obtain ⟨cur, T, cs, rest, _, _, y2⟩ := z3; exact ⟨_, y2⟩)
              | (cases p <;> simp [V.at_] at hat)
          obtain ⟨cs, hcs⟩ := hct
          obtain ⟨off', pre, c, post, y1, y2, y3, y4⟩ := RepC.at_ hcs hat
          have hoo : off' = off := Option.some.inj (y1.symm.trans r3)
          cases y4 with
          | row _ _ _ _ => exact absurd (Nat.le_add_right _ _) h10
          | agg _ k1 k2 k3 _ =>
            have hsz : szs = fs.map (width P) := Option.some.inj (h2.symm.trans k1)
            have := good_value (o := o) hs (by rw [hdst]; rintro k ⟨⟩; exact hd) (c := .pointer (some ⟨g, off + ((fs.take f).map (width P)).sum, none⟩))
              (by simp only [execOp, ho, r4]; rw [Sem.run_bind]; rw [run_fieldAt h1 h3 (off := ((fs.take f).map (width P)).sum) (by rw [h4, hsz, List.map_take]) h5 h6]; rfl) (v := .rf bd (p ++ [f]))
              ⟨g, ct, _, r1, r2, pathOff_snoc hat hfl r3, rfl⟩ Q
            rw [hdst] at this
            exact this
        · cases hv
      · cases hv
    · cases hv
  · cases hv

theorem cT_agg {t u : TypeId} (h : cT P t = some (some u)) : u = t ∧ okAgg P t = true ∧ ((∃ fs, P.underlying t = some (.struct fs)) ∨ ∃ m e, P.underlying t = some (.array m e)) := by
  unfold cT at h
  split at h
  · rename_i fs h1
    split at h
    · rename_i h2; cases h; exact ⟨rfl, h2, .inl ⟨fs, h1⟩⟩
    · cases h
  · rename_i m e h1
    split at h
    · rename_i h2; cases h; exact ⟨rfl, h2, .inr ⟨m, e, h1⟩⟩
    · cases h
  · split at h <;> cases h
  · cases h

theorem okAgg_spec {t : TypeId} (h : okAgg P t = true) : ∃ szs inf, sizes P t = some szs ∧ szs.sum = P.cellsOf t ∧ P.info? t = some inf ∧ P.cellsOf t = inf.size ∧ ¬ rowT ≤ t := by
  unfold okAgg at h
  simp only [Bool.and_eq_true, decide_eq_true_eq] at h
  obtain ⟨⟨h1, h2⟩, h3⟩ := h
  split at h1
  · rename_i szs hs
    obtain ⟨inf, hinf⟩ := Option.isSome_iff_exists.1 h2
    exact ⟨szs, inf, hs, by simpa using h1, hinf, by simp [Program.cellsOf, hinf], h3⟩
  · cases h1

theorem cT_one {t : TypeId} (h : cT P t = some none) : ∃ td inf, P.underlying t = some td ∧ (∀ fs, td ≠ .struct fs) ∧ (∀ m e, td ≠ .array m e) ∧ P.info? t = some inf ∧ inf.size = 1 := by
  unfold cT at h
  split at h
  · split at h <;> cases h
  · split at h <;> cases h
  · rename_i td n1 n2 h1
    split at h
    · rename_i h2
      simp only [Bool.and_eq_true, beq_iff_eq] at h2
      obtain ⟨inf, hinf⟩ := Option.isSome_iff_exists.1 h2.2
      exact ⟨td, inf, h1, fun fs e => n1 fs e, fun m e hh => n2 m e hh, hinf, by simpa [Program.cellsOf, hinf] using h2.1⟩
    · cases h
  · cases h

theorem run_isAgg_one {t : TypeId} (h : cT P t = some none) : (isAgg t).run P w = .ok false w := by
  obtain ⟨td, inf, h1, h2, h3, _, _⟩ := cT_one h
  unfold isAgg
  rw [Sem.run_bind, run_underlying h1]
  simp only [Result.andThen_ok]
  cases td <;> first | rfl | exact absurd rfl (h2 _) | exact absurd rfl (h3 _ _)

theorem run_isAgg_agg {t u : TypeId} (h : cT P t = some (some u)) : (isAgg t).run P w = .ok true w := by
  obtain ⟨_, _, hh⟩ := cT_agg h
  rcases hh with ⟨fs, h1⟩ | ⟨m, e, h1⟩ <;> (unfold isAgg; rw [Sem.run_bind, run_underlying h1]; rfl)

/-- A load of cells that hold a value of the type's shape. -/
theorem run_loadVar_rep {t : TypeId} {tt : Option TypeId} {v : V} {cs : List Value} {b k : Nat} (hT : cT P t = some tt) (hfit : fitsT tt v = true) (hr : RepC P S w ow v cs)
    (hc : ∀ j u, cs[j]? = some u → w.cell? ⟨b, k + j, none⟩ = some u) : ∃ c, (loadVar t ⟨b, k, none⟩).run P w = .ok c w ∧ Rep1 P S w ow v c := by
  cases tt with
  | none =>
    have hag : v.isAgg = false := by cases v <;> first | rfl | simp [fitsT] at hfit
    obtain ⟨x, rfl, hx⟩ := hr.toRep1 hag
    refine ⟨x, ?_, hx⟩
    have := hc 0 x rfl
    unfold loadVar
    rw [Sem.run_bind, run_isAgg_one hT]
    simp only [Result.andThen_ok, Bool.false_eq_true, if_false]
    rw [run_load]
    simp at this
    simp [this]
  | some u =>
    cases v <;> simp only [fitsT, beq_iff_eq, Option.some.injEq, Bool.and_eq_true, reduceCtorEq, false_and] at hfit
    rename_i t' fs
    subst hfit
    obtain ⟨rfl, hok, _⟩ := cT_agg hT
    obtain ⟨szs, inf, h1, h2, h3, h4, h5⟩ := okAgg_spec hok
    have hl : cs.length = inf.size := by rw [hr.len]; exact (width_agg h5).trans h4
    refine ⟨.agg cs.toArray, ?_, cs, rfl, hr⟩
    unfold loadVar
    rw [Sem.run_bind, run_isAgg_agg hT]
    have := run_loadCells_list (P := P) (w := w) ⟨b, k, none⟩ cs (fun j u hu => by rw [addr_add]; exact hc j u hu)
    simp [sizeOf, typeInfo, h3, ← hl, this]

theorem ld_key {t : TypeId} {tt : Option TypeId} {x v : V} {cx : Value} (hs : Sim P n w0 LX df S0 S bm ow st a w) (hT : cT P t = some tt) (hr : RepS P S w ow bm st.bx x cx) (hv : ldV tt x st.bx = some v) :
    ∃ b k c, cx = .pointer (some ⟨b, k, none⟩) ∧ (loadVar t ⟨b, k, none⟩).run P w = .ok c w ∧ Rep1 P S w ow v c := by
  unfold ldV at hv
  split at hv
  · rename_i u
    split at hv
    · rename_i hfit
      cases hv
      have : ∃ b k cs, cx = .pointer (some ⟨b, k, none⟩) ∧ RepC P S w noOw v cs ∧ Mem S w b k cs := by
        simp only [RepS, Rep1] at hr
        cases hr with | rp _ g1 g2 => exact ⟨_, _, _, rfl, g1, g2⟩
      obtain ⟨b, k, cs, e1, g1, g2⟩ := this
      obtain ⟨c, hc1, hc2⟩ := run_loadVar_rep hT hfit g1 (fun j u hu => (g2 j u hu).2)
      exact ⟨b, k, c, e1, hc1, hc2.any⟩
    · cases hv
  · rename_i bd p
    obtain ⟨g, ct, off, r1, r2, r3, r4⟩ := hr
    rw [r2] at hv
    simp only [] at hv
    split at hv
    · rename_i u hat
      split at hv
      · rename_i hfit
        cases hv
        obtain ⟨g', z1, z2, z3, z4⟩ := hs.box _ _ r2
        obtain rfl : g' = g := Option.some.inj (z1.symm.trans r1)
        have hct : ∃ cur T cs rest, w.heap[g']? = some (.cells cur T (0, 0)) ∧ cur.toList = cs ++ rest ∧ RepC P S w ow ct cs := by
          unfold BoxAt at z3
          cases ct <;> first
            | exact z3
            | (cases p <;> simp [V.at_] at hat; subst hat; cases tt <;> simp [fitsT, V.mem] at hfit)
        obtain ⟨cur, T, cs, rest, y0, yr, hcs⟩ := hct
        obtain ⟨off', pre, c, post, y1, y2, y3, y4⟩ := RepC.at_ hcs hat
        rw [y2, List.append_assoc, List.append_assoc] at yr
        obtain rfl : off' = off := Option.some.inj (y1.symm.trans r3)
        obtain ⟨c', hc1, hc2⟩ := run_loadVar_rep (b := g') (k := off') hT hfit y4 (fun j u hu => by
          rw [cell_of_row w g' _ cur T (0, 0) y0, ← Array.getElem?_toList, yr]
          have hj : j < c.length := by
            rcases Nat.lt_or_ge j c.length with hh | hh
            · exact hh
            · simp [List.getElem?_eq_none hh] at hu
          rw [List.getElem?_append_right (by omega), y3, Nat.add_sub_cancel_left, List.getElem?_append_left hj]
          exact hu)
        exact ⟨g', off', c', r4, hc1, hc2⟩
      · cases hv
    · cases hv
  · cases hv

theorem good_ld {t : TypeId} {tt : Option TypeId} {d : Nat} {x : Operand} {x' : X} (hs : Sim P n w0 LX df S0 S bm ow st a w) (hd : OkD df n d) (hdst : o.dst = some d) (ho : o.op = .load t x) (hT : cT P t = some tt) (hx : cX x = some x')
    (h : step1 E (.ld d tt x') st = some st') (Q : Exit → Act → World → Prop) : o.wp P a w (SimE P n w0 LX df S0 st') Q := by
  obtain ⟨v, hv, rfl⟩ := stepK_L h
  simp only [PO.args, List.map_cons, List.map_nil] at hv
  have hr := hs.ev hx
  obtain ⟨b, k, c, e1, e2, e3⟩ := ld_key hs hT hr hv
  have := good_value (o := o) hs (by rw [hdst]; rintro k ⟨⟩; exact hd) (c := c) (by simp [execOp, ho, e1, Instr.loadAt, Instr.sureAddr, e2]) e3.toS Q
  rw [hdst] at this
  exact this

end
end Go.Nu
/-
  NU, text 8: struct values by field, array addresses, cuts, bytes to string, structs built.
-/
namespace Go.Nu
open Go Go.RowKit

section
variable {P : Program} {n : Nat} {w0 w w' : World} {LX : Nat → Prop} {df : Df} {S0 S S' : Nat → Nat → Prop} {bm : Bm} {ow ow' : Ow} {st st' : St} {a : Act} {o : Oper} {E : Ext}

theorem agg_ev (hs : Sim P n w0 LX df S0 S bm ow st a w) {x : Operand} {y : X} (hx : cX x = some y) {t : TypeId} {fs : List V} (e : y.ev st = .agg t fs) :
    ∃ cs : List Value, a.eval x = .agg cs.toArray ∧ RepC P S w ow (.agg t fs) cs := by
  have := hs.ev hx; rw [e] at this; exact this

theorem run_part {t : TypeId} {tt : Option TypeId} {v : V} {pre c post : List Value} (hT : cT P t = some tt) (hfit : fitsT tt v = true) (hr : RepC P S w ow v c) :
    ∃ u, (part t (pre ++ (c ++ post)).toArray pre.length).run P w = .ok u w ∧ Rep1 P S w ow v u := by
  cases tt with
  | none =>
    have hag : v.isAgg = false := by cases v <;> first | rfl | simp [fitsT] at hfit
    obtain ⟨x, rfl, hx⟩ := hr.toRep1 hag
    refine ⟨x, ?_, hx⟩
    unfold part
    rw [Sem.run_bind, run_isAgg_one hT]
    simp
  | some u =>
    cases v <;> simp only [fitsT, beq_iff_eq, Option.some.injEq, Bool.and_eq_true, reduceCtorEq, false_and] at hfit
    rename_i t' fs
    subst hfit
    obtain ⟨rfl, hok, _⟩ := cT_agg hT
    obtain ⟨szs, inf, h1, h2, h3, h4, h5⟩ := okAgg_spec hok
    have hl : c.length = inf.size := by rw [hr.len]; exact (width_agg h5).trans h4
    refine ⟨.agg c.toArray, ?_, c, rfl, hr⟩
    unfold part
    rw [Sem.run_bind, run_isAgg_agg hT]
    simp [sizeOf, typeInfo, h3, ← hl]

theorem good_fd {s : TypeId} {f d : Nat} {tt : Option TypeId} {x : Operand} {x' : X} {fs0 : Array Field} {fd0 : Field} (hs : Sim P n w0 LX df S0 S bm ow st a w) (hd : OkD df n d) (hdst : o.dst = some d) (ho : o.op = .field s x f) (hf : fieldOk P s f = true)
    (hu : P.underlying s = some (.struct fs0)) (hfd : fs0[f]? = some fd0) (hT : cT P fd0.type = some tt) (hx : cX x = some x')
    (h : step1 E (.fd d s f tt x') st = some st') (Q : Exit → Act → World → Prop) : o.wp P a w (SimE P n w0 LX df S0 st') Q := by
  obtain ⟨v, hv, rfl⟩ := stepK_P h
  simp only [PO.args, List.map_cons, List.map_nil] at hv
  obtain ⟨fs1, szs, fd, inf, h1, h2, h3, h4, h5, h6, h7, h8, h9, h10⟩ := fieldOk_spec hf
  obtain rfl : fs1 = fs0 := by rw [hu] at h1; simpa using h1.symm
  obtain rfl : fd = fd0 := Option.some.inj (h3.symm.trans hfd)
  unfold fdV at hv
  split at hv
  · rename_i t' fs hc
    split at hv
    · rename_i ht
      subst ht
      split at hv
      · rename_i u hu'
        split at hv
        · rename_i hfit
          cases hv
          obtain ⟨cs, e1, hr⟩ := agg_ev hs hx hc
          cases hr with
          | row _ _ _ _ => exact absurd (Nat.le_add_right _ _) h10
          | agg _ k1 k2 k3 _ =>
            have hsz : szs = fs.map (width P) := Option.some.inj (h2.symm.trans k1)
            obtain ⟨pre, c, post, q1, q2, q3⟩ := RepCs.get k3 hu'
            subst q1
            obtain ⟨r, hr1, hr2⟩ := run_part (pre := pre) (post := post) hT hfit q3
            have hoff : fd.offset = pre.length := by rw [h4, hsz, q2, List.map_take]
            have := good_value (o := o) hs (by rw [hdst]; rintro k ⟨⟩; exact hd) (c := r)
              (by simp only [execOp, ho, e1, Instr.field]; rw [Sem.run_bind, Sem.run_bind, run_underlying hu]; simp only [Result.andThen_ok, hfd, hoff, asAgg, Sem.run_bind, Sem.run_pure, hr1]) hr2.toS Q
            rw [hdst] at this
            exact this
        · cases hv
      · cases hv
    · cases hv
  · cases hv

theorem sizes_array {t e : TypeId} {m : Nat} (ht : P.underlying t = some (.array m e)) : sizes P t = some (List.replicate m (P.cellsOf e)) := by
  simp [sizes, ht]

theorem map_replicate {e : TypeId} {m : Nat} {fs : List V} (h : List.replicate m (P.cellsOf e) = fs.map (width P)) : fs.length = m ∧ ∀ x ∈ fs, width P x = P.cellsOf e := by
  have hl : fs.length = m := by simpa using (congrArg List.length h).symm
  refine ⟨hl, fun x hx => ?_⟩
  have : width P x ∈ fs.map (width P) := List.mem_map.2 ⟨x, hx, rfl⟩
  rw [← h] at this
  exact (List.mem_replicate.1 this).2

theorem good_aa {t e : TypeId} {m : Nat} {x i : Operand} {x' i' : X} {d : Nat} (hs : Sim P n w0 LX df S0 S bm ow st a w) (hd : OkD df n d) (hdst : o.dst = some d) (ho : o.op = .indexAddr t x i) (ht : P.underlying t = some (.array m e))
    (h10 : ¬ rowT ≤ t) (hi0 : (P.info? e).isSome = true) (hx : cX x = some x') (hi : cX i = some i') (h : step1 E (.aa d t x' i') st = some st') (Q : Exit → Act → World → Prop) : o.wp P a w (SimE P n w0 LX df S0 st') Q := by
  obtain ⟨v, hv, rfl⟩ := stepK_L h
  simp only [PO.args, List.map_cons, List.map_nil] at hv
  obtain ⟨inf, hinf⟩ := Option.isSome_iff_exists.1 hi0
  have hc : P.cellsOf e = inf.size := by simp [Program.cellsOf, hinf]
  have hr := hs.ev hx
  have hri := hs.ev hi
  have key : ∃ b k ik q, a.eval x = .pointer (some ⟨b, k, none⟩) ∧ a.eval i = .int ik q ∧ 0 ≤ q ∧ q < m ∧ RepS P S w ow bm st.bx v (.pointer (some ⟨b, k + q.toNat * P.cellsOf e, none⟩)) := by
    unfold aaV at hv
    split at hv
    · rename_i t' fs ik q hcx hci
      rw [hcx] at hr
      rw [hci] at hri
      have ei := rep_int hri
      split at hv
      · rename_i htt
        subst htt
        split at hv
        · rename_i hq
          cases hv
          have : ∃ b k cs, a.eval x = .pointer (some ⟨b, k, none⟩) ∧ RepC P S w noOw (.agg t' fs) cs ∧ Mem S w b k cs := by
            simp only [RepS, Rep1] at hr
            generalize a.eval x = q at hr
            cases hr with | rp _ g1 g2 => exact ⟨_, _, _, rfl, g1, g2⟩
          obtain ⟨b, k, cs, e1, g1, g2⟩ := this
          cases g1 with
          | row _ _ _ _ => exact absurd (Nat.le_add_right _ _) h10
          | agg _ k1 k2 k3 _ =>
            obtain ⟨hl, hw⟩ := map_replicate (Option.some.inj ((sizes_array ht).symm.trans k1))
            have hlt : q.toNat < fs.length := by omega
            have hget : fs[q.toNat]? = some (fs.getD q.toNat .junk) := by
              rw [List.getD_eq_getElem?_getD, List.getElem?_eq_getElem hlt]; rfl
            obtain ⟨pre, c, post, q1, q2, q3⟩ := RepCs.get k3 hget
            subst q1
            have hm := g2.sub
            rw [uniform _ hw (by omega)] at q2
            rw [q2] at hm
            exact ⟨b, k, ik, q, e1, ei, hq.1, by omega, Rep1.toS (Rep1.of rfl (RepC.rp _ q3 hm))⟩
        · cases hv
      · cases hv
    · rename_i bd p ik q hcx hci
      rw [hcx] at hr
      rw [hci] at hri
      have ei := rep_int hri
      obtain ⟨g, ct, off, r1, r2, r3, r4⟩ := hr
      rw [r2] at hv
      simp only [] at hv
      split at hv
      · rename_i t' fs hat
        split at hv
        · rename_i htt
          subst htt
          split at hv
          · rename_i hq
            cases hv
            obtain ⟨g', z1, z2, z3, z4⟩ := hs.box _ _ r2
            have hct : ∃ cs, RepC P S w ow ct cs := by
              unfold BoxAt at z3
              cases ct <;> first
                | (simp only [] at z3; obtain ⟨cur, T, cs, rest, _, _, y2⟩ := z3; exact ⟨_, y2⟩)
                | (cases p <;> simp [V.at_] at hat)
            obtain ⟨cs, hcs⟩ := hct
            obtain ⟨off', pre, c, post, y1, y2, y3, y4⟩ := RepC.at_ hcs hat
            cases y4 with
            | row _ _ _ _ => exact absurd (Nat.le_add_right _ _) h10
            | agg _ k1 k2 k3 _ =>
              obtain ⟨hl, hw⟩ := map_replicate (Option.some.inj ((sizes_array ht).symm.trans k1))
              have hlt : q.toNat < fs.length := by omega
              have hpo := pathOff_snoc hat hlt r3
              rw [uniform _ hw (by omega)] at hpo
              exact ⟨g, off, ik, q, r4, ei, hq.1, by omega, g, ct, _, r1, r2, hpo, rfl⟩
          · cases hv
        · cases hv
      · cases hv
    · cases hv
  obtain ⟨b, k, ik, q, e1, e2, h0, hlt, hrep⟩ := key
  have := good_value (o := o) hs (by rw [hdst]; rintro k ⟨⟩; exact hd) (c := .pointer (some ⟨b, k + q.toNat * P.cellsOf e, none⟩))
    (by simp [execOp, ho, e1, e2, Instr.indexAt, asIntOf, run_underlying ht, Instr.sureAddr, h0, hlt, sizeOf, typeInfo, hinf, addr_add, hc]) hrep Q
  rw [hdst] at this
  exact this

/-- One bound of a cut. -/
def Bound (x : Option Value) (d v : Nat) : Prop := (x = none ∧ v = d) ∨ ∃ k, x = some (.int k (v : Int))

theorem run_bounds {b : Bool} {len cap l h : Nat} {lo hi : Option Value} (hlo : Bound lo 0 l) (hhi : Bound hi len h) (h1 : l ≤ h) (h2 : h ≤ cap) :
    (Instr.sliceBounds b len cap lo hi none).run P w = .ok (l, h, cap) w := by
  have g1 : (l : Int) ≤ (h : Int) := by omega
  have g2 : (h : Int) ≤ (cap : Int) := by omega
  rcases hlo with ⟨rfl, rfl⟩ | ⟨k, rfl⟩ <;> rcases hhi with ⟨rfl, rfl⟩ | ⟨k', rfl⟩ <;> simp [Instr.sliceBounds, run_sliceBound, g1, g2]

theorem reps_cut : ∀ {vs : List V} {cs : List Value} (k : Nat), RepCs P S w noOw vs cs → k ≤ vs.length → RepCs P S w noOw (vs.drop k) (cs.drop ((vs.take k).map (width P)).sum) ∧ RepCs P S w noOw (vs.take k) (cs.take ((vs.take k).map (width P)).sum) := by
  intro vs cs k
  induction k generalizing vs cs with
  | zero => intro h _; simpa using ⟨h, RepCs.nil _⟩
  | succ k ih =>
    intro h hk
    cases h with
    | nil => simp at hk
    | cons _ g1 g2 =>
      rename_i v vs c cs
      obtain ⟨i1, i2⟩ := ih g2 (by simpa using hk)
      have hl := g1.len
      simp only [List.take_succ_cons, List.map_cons, List.sum_cons, List.drop_succ_cons]
      rw [← hl]
      generalize ((vs.take k).map (width P)).sum = m at i1 i2 ⊢
      have t1 : (c ++ cs).drop (c.length + m) = cs.drop m := by rw [← List.drop_drop, List.drop_left]
      have t2 : (c ++ cs).take (c.length + m) = c ++ cs.take m := by
        rw [List.take_append, Nat.add_sub_cancel_left, List.take_of_length_le (l := c) (by omega)]
      rw [t1, t2]
      exact ⟨i1, .cons _ g1 i2⟩

theorem good_sc {t : TypeId} {e : Option TypeId} {x : Operand} {lo hi : Option Operand} {x' : X} {lo' hi' : Option X} {d : Nat} (hs : Sim P n w0 LX df S0 S bm ow st a w) (hd : OkD df n d) (hdst : o.dst = some d)
    (ho : o.op = .slice t x lo hi none) (hx : cX x = some x') (hlo : cOpt lo = some lo') (hhi : cOpt hi = some hi')
    (ht : (e = none ∧ P.underlying t = some .string) ∨ (∃ e' inf, e = some e' ∧ P.underlying t = some (.slice e') ∧ P.info? e' = some inf))
    (h : step1 E (.sc d e x' lo' hi') st = some st') (Q : Exit → Act → World → Prop) : o.wp P a w (SimE P n w0 LX df S0 st') Q := by
  obtain ⟨v, hv, rfl⟩ := stepK_P h
  have hopt : ∀ {q : Option Operand} {q' : Option X}, cOpt q = some q' → ∀ {k : IntKind} {m : Int}, q'.map (X.ev st) = some (.int k m) → q.map a.eval = some (.int k m) := by
    intro q q' hq k m hm
    cases q with
    | none => cases hq; cases hm
    | some q =>
      simp only [cOpt] at hq
      split at hq
      · rename_i z hz
        cases hq
        simp only [Option.map_some, Option.some.injEq] at hm
        simp [int_ev hs hz hm]
      · cases hq
  have hnone : ∀ {q : Option Operand} {q' : Option X}, cOpt q = some q' → q' = none → q = none := by
    intro q q' hq hn
    cases q with
    | none => rfl
    | some q => simp only [cOpt] at hq; split at hq <;> cases hq; cases hn
  have hsc : scV e (x'.ev st) (lo'.map (X.ev st)) (hi'.map (X.ev st)) = some v := by
    cases lo' <;> cases hi' <;> simpa [PO.args] using hv
  have hbd : ∀ {q : Option Operand} {q' : Option X} {dflt : Nat} {r : Int}, cOpt q = some q' → 0 ≤ r →
      (match q'.map (X.ev st) with | none => some (dflt : Int) | some (.int _ i) => some i | _ => none) = some r → Bound (q.map a.eval) dflt r.toNat := by
    intro q q' dflt r hq h0 hm
    split at hm
    · rename_i hn
      have := hnone hq (by simpa using hn)
      subst this
      cases hm
      exact .inl ⟨rfl, by simp⟩
    · rename_i ik i hn
      cases hm
      exact .inr ⟨ik, by rw [hopt hq hn, Int.toNat_of_nonneg h0]⟩
    · cases hm
  unfold scV at hsc
  split at hsc
  · rename_i l hc
    split at hsc
    · cases hsc
    · rename_i he
      split at hsc
      · rename_i p q hp hq
        split at hsc
        · rename_i hpq
          cases hsc
          have e1 := str_ev hs hx hc
          rcases ht with ⟨rfl, ht⟩ | ⟨e', _, rfl, ht, _⟩
          · have hb1 := hbd (dflt := 0) hlo hpq.1 hp
            have hb2 := hbd hhi (by omega) hq
            have hrb := run_bounds (P := P) (w := w) (b := false) (cap := l.length) hb1 hb2 (by omega) (by omega)
            have := good_value (o := o) hs (by rw [hdst]; rintro k ⟨⟩; exact hd) (c := .string ⟨((l.take q.toNat).drop p.toNat).toArray⟩)
              (by
                simp only [execOp, ho, e1, Instr.sliceAt, Sem.run_bind, run_underlying ht, Result.andThen_ok, Instr.slice, Option.map_none, size_of_list, Option.isSome_none, Bool.false_eq_true, if_false, hrb, Sem.run_pure]
                rw [ByteArray.extract_mk, List.drop_take]) (v := .str ((l.take q.toNat).drop p.toNat)) (RepC.str _ _) Q
            rw [hdst] at this
            exact this
          · simp at he
        · cases hsc
      · cases hsc
  · rename_i tg e2 es hc
    split at hsc
    · cases hsc
    · rename_i he
      simp only [ne_eq, Decidable.not_not] at he
      subst he
      split at hsc
      · rename_i p q hp hq
        split at hsc
        · rename_i hpq
          cases hsc
          rcases ht with ⟨he', ht⟩ | ⟨e', inf, he', ht, hinf⟩
          · cases he'
          · cases he'
            have hb1 := hbd (dflt := 0) hlo hpq.1 hp
            have hb2 := hbd hhi (by omega) hq
            have hce : P.cellsOf e2 = inf.size := by simp [Program.cellsOf, hinf]
            have hr := hs.ev hx
            rw [hc] at hr
            simp only [RepS, Rep1] at hr
            have key : ∃ b cap, a.eval x = .slice b es.length cap ∧ es.length ≤ cap ∧
                RepC P S w ow (.sl none e2 ((es.take q.toNat).drop p.toNat)) [.slice (if cap = p.toNat then b else b.map (·.add (p.toNat * inf.size))) (q.toNat - p.toNat) (cap - p.toNat)] := by
              generalize a.eval x = z at hr
              cases hr with
              | nilsl =>
                simp at hpq
                have e1 : p.toNat = 0 := by omega
                have e2 : q.toNat = 0 := by omega
                refine ⟨none, 0, rfl, by simp, ?_⟩
                rw [e1, e2]
                simpa using RepC.nilsl _ (TagOk.none_ _ _ _ _)
              | emp =>
                simp at hpq
                have e1 : p.toNat = 0 := by omega
                have e2 : q.toNat = 0 := by omega
                rename_i ad cap _
                refine ⟨_, cap, rfl, by simp, ?_⟩
                rw [e1, e2]
                split
                · simpa using RepC.emp _ (TagOk.none_ _ _ _ _)
                · simpa using RepC.emp _ (TagOk.none_ _ _ _ _)
              | sl _ h1 h2 h3 h4 h5 h6 =>
                rename_i cs b off cap
                refine ⟨_, cap, rfl, h4, ?_⟩
                have hlen : ((es.take q.toNat).drop p.toNat).length = q.toNat - p.toNat := by simp; omega
                rw [← hlen]
                by_cases hcp : cap = p.toNat
                · rw [if_pos hcp]
                  have : (es.take q.toNat).drop p.toNat = [] := List.eq_nil_of_length_eq_zero (by rw [hlen]; omega)
                  rw [this]
                  exact .sl _ (.nil _) (fun _ h => by cases h) (fun j u hu => by simp at hu) (by simp) (by omega) (TagOk.none_ _ _ _ _)
                · rw [if_neg hcp]
                  simp only [Option.map_some, addr_add]
                  have hcut : ∀ {vs : List V} {cs : List Value} (k : Nat), RepCs P S w noOw vs cs → k ≤ vs.length → RepCs P S w noOw (vs.drop k) (cs.drop ((vs.take k).map (width P)).sum) ∧ RepCs P S w noOw (vs.take k) (cs.take ((vs.take k).map (width P)).sum) := by
                    intro vs cs k
                    induction k generalizing vs cs with
                    | zero => intro h _; simpa using ⟨h, RepCs.nil _⟩
                    | succ k ih =>
                      intro h hk
                      cases h with
                      | nil => simp at hk
                      | cons _ g1 g2 =>
                        rename_i v vs c cs
                        obtain ⟨i1, i2⟩ := ih g2 (by simpa using hk)
                        have hl := g1.len
                        simp only [List.take_succ_cons, List.map_cons, List.sum_cons, List.drop_succ_cons]
                        rw [← hl]
                        generalize ((vs.take k).map (width P)).sum = m at i1 i2 ⊢
                        have t1 : (c ++ cs).drop (c.length + m) = cs.drop m := by rw [← List.drop_drop, List.drop_left]
                        have t2 : (c ++ cs).take (c.length + m) = c ++ cs.take m := by
                          rw [List.take_append, Nat.add_sub_cancel_left, List.take_of_length_le (l := c) (by omega)]
                        rw [t1, t2]
                        exact ⟨i1, .cons _ g1 i2⟩
                  obtain ⟨_, t2⟩ := hcut q.toNat h1 (by omega)
                  obtain ⟨d1, _⟩ := hcut p.toNat t2 (by simp; omega)
                  have hsub : ∀ y, y ∈ (es.take q.toNat).drop p.toNat → width P y = P.cellsOf e2 := fun y hy => h2 y (List.mem_of_mem_take (List.mem_of_mem_drop hy))
                  refine .sl _ d1 hsub ?_ (by rw [hlen]; omega) (by omega) (TagOk.none_ _ _ _ _)
                  rw [uniform _ (fun y hy => h2 y (List.mem_of_mem_take hy)) (by simp; omega)]
                  intro j u hu
                  rw [← hce, Nat.add_assoc]
                  refine h3 (p.toNat * P.cellsOf e2 + j) u ?_
                  rw [List.getElem?_drop, List.getElem?_take] at hu
                  split at hu
                  · exact hu
                  · cases hu
            obtain ⟨b, cap, e1, hle, hrep⟩ := key
            have hrb := run_bounds (P := P) (w := w) (b := true) (cap := cap) hb1 hb2 (by omega) (by omega)
            have := good_value (o := o) hs (by rw [hdst]; rintro k ⟨⟩; exact hd) (c := .slice (if cap = p.toNat then b else b.map (·.add (p.toNat * inf.size))) (q.toNat - p.toNat) (cap - p.toNat))
              (by
                simp only [execOp, ho, e1, Instr.sliceAt, Sem.run_bind, run_underlying ht, Result.andThen_ok, Instr.slice, Option.map_none, hrb, Sem.run_pure, sizeOf, typeInfo, run_program, hinf])
              (Rep1.toS (Rep1.of rfl hrep)) Q
            rw [hdst] at this
            exact this
        · cases hsc
      · cases hsc
  · cases hsc

theorem good_sa {t e : TypeId} {m : Nat} {x : Operand} {lo hi : Option Operand} {x' : X} {lo' hi' : Option X} {d : Nat} (hs : Sim P n w0 LX df S0 S bm ow st a w) (hd : OkD df n d) (hdst : o.dst = some d)
    (ho : o.op = .slice t x lo hi none) (hx : cX x = some x') (hlo : cOpt lo = some lo') (hhi : cOpt hi = some hi') (ht : P.underlying t = some (.array m e)) (h10 : ¬ rowT ≤ t) (hi0 : (P.info? e).isSome = true) (hm : m ≤ 4096)
    (h : step1 E (.sa d t e x' lo' hi') st = some st') (Q : Exit → Act → World → Prop) : o.wp P a w (SimE P n w0 LX df S0 st') Q := by
  obtain ⟨v, hv, rfl⟩ := stepK_P h
  obtain ⟨inf, hinf⟩ := Option.isSome_iff_exists.1 hi0
  have hopt : ∀ {q : Option Operand} {q' : Option X}, cOpt q = some q' → ∀ {k : IntKind} {m : Int}, q'.map (X.ev st) = some (.int k m) → q.map a.eval = some (.int k m) := by
    intro q q' hq k m hm
    cases q with
    | none => cases hq; cases hm
    | some q =>
      simp only [cOpt] at hq
      split at hq
      · rename_i z hz
        cases hq
        simp only [Option.map_some, Option.some.injEq] at hm
        simp [int_ev hs hz hm]
      · cases hq
  have hnone : ∀ {q : Option Operand} {q' : Option X}, cOpt q = some q' → q' = none → q = none := by
    intro q q' hq hn
    cases q with
    | none => rfl
    | some q => simp only [cOpt] at hq; split at hq <;> cases hq; cases hn
  have hsc : saV t e (x'.ev st) (lo'.map (X.ev st)) (hi'.map (X.ev st)) = some v := by
    cases lo' <;> cases hi' <;> simpa [PO.args] using hv
  have hbd : ∀ {q : Option Operand} {q' : Option X} {dflt : Nat} {r : Int}, cOpt q = some q' → 0 ≤ r →
      (match q'.map (X.ev st) with | none => some (dflt : Int) | some (.int _ i) => some i | _ => none) = some r → Bound (q.map a.eval) dflt r.toNat := by
    intro q q' dflt r hq h0 hm
    split at hm
    · rename_i hn
      have := hnone hq (by simpa using hn)
      subst this
      cases hm
      exact .inl ⟨rfl, by simp⟩
    · rename_i ik i hn
      cases hm
      exact .inr ⟨ik, by rw [hopt hq hn, Int.toNat_of_nonneg h0]⟩
    · cases hm
  unfold saV at hsc
  split at hsc
  · rename_i t' es hc
    split at hsc
    · cases hsc
    · rename_i he
      simp only [ne_eq, Decidable.not_not] at he
      subst he
      split at hsc
      · rename_i p q hp hq
        split at hsc
        · rename_i hpq
          cases hsc
          have hb1 := hbd (dflt := 0) hlo hpq.1 hp
          have hb2 := hbd hhi (by omega) hq
          have hce : P.cellsOf e = inf.size := by simp [Program.cellsOf, hinf]
          have hr := hs.ev hx
          rw [hc] at hr
          have : ∃ b k cs, a.eval x = .pointer (some ⟨b, k, none⟩) ∧ RepC P S w noOw (.agg t' es) cs ∧ Mem S w b k cs := by
            simp only [RepS, Rep1] at hr
            generalize a.eval x = q at hr
            cases hr with | rp _ g1 g2 => exact ⟨_, _, _, rfl, g1, g2⟩
          obtain ⟨b, off, cs, e1, g1, h3⟩ := this
          cases g1 with
          | row _ _ _ _ => exact absurd (Nat.le_add_right _ _) h10
          | agg _ k1 k2 h1 _ =>
            obtain ⟨hl, h2⟩ := map_replicate (Option.some.inj ((sizes_array ht).symm.trans k1))
            have hlen : ((es.take q.toNat).drop p.toNat).length = q.toNat - p.toNat := by simp; omega
            have hrep : RepC P S w ow (.sl none e ((es.take q.toNat).drop p.toNat)) [.slice (some (if m = p.toNat then ⟨b, off, none⟩ else (⟨b, off, none⟩ : Addr).add (p.toNat * inf.size))) (q.toNat - p.toNat) (m - p.toNat)] := by
              rw [← hlen]
              by_cases hcp : m = p.toNat
              · rw [if_pos hcp]
                have : (es.take q.toNat).drop p.toNat = [] := List.eq_nil_of_length_eq_zero (by rw [hlen]; omega)
                rw [this]
                exact .sl _ (.nil _) (fun _ h => by cases h) (fun j u hu => by simp at hu) (by simp) (by unfold maxLen; omega) (TagOk.none_ _ _ _ _)
              · rw [if_neg hcp]
                simp only [addr_add]
                obtain ⟨_, t2⟩ := reps_cut q.toNat h1 (by omega)
                obtain ⟨d1, _⟩ := reps_cut p.toNat t2 (by simp; omega)
                have hsub : ∀ y, y ∈ (es.take q.toNat).drop p.toNat → width P y = P.cellsOf e := fun y hy => h2 y (List.mem_of_mem_take (List.mem_of_mem_drop hy))
                refine .sl _ d1 hsub ?_ (by rw [hlen]; omega) (by unfold maxLen; omega) (TagOk.none_ _ _ _ _)
                rw [uniform _ (fun y hy => h2 y (List.mem_of_mem_take hy)) (by simp; omega)]
                intro j u hu
                rw [← hce, Nat.add_assoc]
                refine h3 (p.toNat * P.cellsOf e + j) u ?_
                rw [List.getElem?_drop, List.getElem?_take] at hu
                split at hu
                · exact hu
                · cases hu
            have hrb := run_bounds (P := P) (w := w) (b := false) (len := m) (cap := m) hb1 (by rw [← hl]; exact hb2) (by omega) (by omega)
            have := good_value (o := o) hs (by rw [hdst]; rintro k ⟨⟩; exact hd) (c := .slice (some (if m = p.toNat then ⟨b, off, none⟩ else (⟨b, off, none⟩ : Addr).add (p.toNat * inf.size))) (q.toNat - p.toNat) (m - p.toNat))
              (by
                simp only [execOp, ho, e1, Instr.sliceAt, Instr.sureAddr, Sem.run_bind, run_underlying ht, Result.andThen_ok, Option.map_none, hrb, Sem.run_pure, sizeOf, typeInfo, run_program, hinf])
              (Rep1.toS (Rep1.of rfl hrep)) Q
            rw [hdst] at this
            exact this
        · cases hsc
      · cases hsc
  · cases hsc

theorem bytesOfV_eq : ∀ {es : List V} {l : List UInt8}, bytesOfV es = some l → es = l.map byteV
  | [], l, h => by simp [bytesOfV] at h; subst h; rfl
  | v :: vs, l, h => by
    simp only [bytesOfV] at h
    split at h
    · rename_i b bs h1 h2
      cases h
      rw [bytesOfV_eq h2, List.map_cons]
      unfold byteOf at h1
      split at h1
      · rename_i m
        split at h1
        · rename_i hm
          cases h1
          congr 1
          unfold byteV
          have : (UInt8.ofNat m.toNat).toNat = m.toNat := by simp; omega
          rw [this, Int.toNat_of_nonneg hm.1]
        · cases h1
      · cases h1
    · cases h

theorem bytes_cells : ∀ {l : List UInt8} {cs : List Value}, RepCs P S w ow (l.map byteV) cs → cs = l.map fun b => .int .u8 b.toNat
  | [], _, .nil _ => rfl
  | b :: l, _, .cons _ h1 h2 => by
    cases h1
    rw [bytes_cells h2]
    rfl

theorem good_cvb {t u e : TypeId} {x : Operand} {x' : X} {d : Nat} (hs : Sim P n w0 LX df S0 S bm ow st a w) (hd : OkD df n d) (hdst : o.dst = some d) (ho : o.op = .convert t u x)
    (ht : P.underlying t = some (.slice e)) (he : P.underlying e = some (.int .u8)) (hu : P.underlying u = some .string) (hx : cX x = some x')
    (h : step1 E (.cvb d x') st = some st') (Q : Exit → Act → World → Prop) : o.wp P a w (SimE P n w0 LX df S0 st') Q := by
  obtain ⟨v, hv, rfl⟩ := stepK_P h
  simp only [PO.args, List.map_cons, List.map_nil] at hv
  have hr := hs.ev hx
  cases hc : x'.ev st <;> simp only [hc] at hv <;> try cases hv
  rename_i tg e2 es
  rw [hc] at hr
  split at hv
  · rename_i l hl
    cases hv
    have := bytesOfV_eq hl
    subst this
    have key : (convert t u (a.eval x)).run P w = .ok (.string ⟨l.toArray⟩) w := by
      simp only [RepS, Rep1] at hr
      generalize a.eval x = z at hr
      generalize hes : l.map byteV = es at hr
      cases hr with
      | nilsl =>
        have : l = [] := by simpa using hes
        subst this
        simp [convert, run_underlying ht, run_underlying hu, run_underlying he, Conv.bytesToString]
        rfl
      | emp =>
        have : l = [] := by simpa using hes
        subst this
        simp [convert, run_underlying ht, run_underlying hu, run_underlying he, Conv.bytesToString]
        rfl
      | sl _ h1 h2 h3 h4 h5 h6 =>
        rename_i cs b off cap
        subst hes
        have hcs := bytes_cells h1
        subst hcs
        rw [List.length_map]
        exact run_convert_bytes_back w t u e ⟨b, off, none⟩ cap l ht he hu (fun j hj => by
          rw [addr_add]
          exact (h3 j _ (by simp [List.getElem?_eq_getElem hj])).2)
    have := good_value (o := o) hs (by rw [hdst]; rintro k ⟨⟩; exact hd) (c := .string ⟨l.toArray⟩) (by simp [execOp, ho, key]) (v := .str l) (RepC.str _ _) Q
    rw [hdst] at this
    exact this
  · cases hv

end
end Go.Nu
/-
  NU, text 9: memory: a new block, a box, a row of the call's own; a store into a box; an append.
-/
namespace Go.Nu
open Go Go.RowKit

section
variable {P : Program} {n : Nat} {w0 w w' : World} {LX : Nat → Prop} {df : Df} {S0 S S' : Nat → Nat → Prop} {bm : Bm} {ow ow' : Ow} {st st' : St} {a : Act} {o : Oper} {E : Ext}

theorem BoxAt.mono {g : Nat} {v : V} (h : BoxAt P S w ow g v) (hle : Le S S' ow ow' w w') (hg : w'.heap[g]? = w.heap[g]?) : BoxAt P S' w' ow' g v := by
  unfold BoxAt at h ⊢
  cases v <;> simp only [hg] at h ⊢ <;> first
    | exact h
    | (obtain ⟨cur, T, cs, rest, e1, e0, e2⟩ := h; exact ⟨cur, T, cs, rest, e1, e0, e2.mono hle⟩)
    | (obtain ⟨p, sl, e1, e0, e2, e3⟩ := h; exact ⟨p, sl, e1, e0, e2.mono hle, e3⟩)

theorem BoxAt.lt {g : Nat} {v : V} (h : BoxAt P S w ow g v) : g < w.heap.size := by
  unfold BoxAt at h
  rcases Nat.lt_or_ge g w.heap.size with hh | hh
  · exact hh
  · rw [Array.getElem?_eq_none hh] at h
    cases v <;> simp at h

theorem Sim.bLt (h : Sim P n w0 LX df S0 S bm ow st a w) {d g : Nat} (hb : bm d = some g) : ∃ v, st.bx d = some v ∧ ownB w0 LX d g ∧ BoxAt P S w ow g v ∧ ∀ o, ¬ S g o := by
  cases hx : st.bx d with
  | none => rw [h.boxNone d hx] at hb; cases hb
  | some v =>
    obtain ⟨g', h1, h2, h3, h4⟩ := h.box d v hx
    obtain rfl : g' = g := Option.some.inj (h1.symm.trans hb)
    exact ⟨v, rfl, h2, h3, h4⟩

theorem Sim.rLt (h : Sim P n w0 LX df S0 S bm ow st a w) {d k c : Nat} {ad : Addr} (hr : ow d = some (k, some ad, c)) : ∃ e cur, st.fr d = some (e, k) ∧ ad = ⟨ad.block, 0, none⟩ ∧ w0.heap.size ≤ ad.block ∧ RowCells w ad.block cur e (isBld d) (k * P.cellsOf e) ∧
    cur.size = c * P.cellsOf e ∧ k ≤ c ∧ c ≤ maxLen ∧ ∀ o, S ad.block o ↔ o < k * P.cellsOf e := by
  cases hx : st.fr d with
  | none => rw [h.rowNone d hx] at hr; cases hr
  | some ek =>
    obtain ⟨e, k'⟩ := ek
    obtain ⟨x, c', h1, h2⟩ := h.row d e k' hx
    rw [hr] at h1
    simp only [Option.some.injEq, Prod.mk.injEq] at h1
    obtain ⟨rfl, rfl, rfl⟩ := h1
    obtain ⟨g, cur, rfl, q1, q2, q3, q4, q5, q6⟩ := h2
    exact ⟨e, cur, rfl, rfl, q1, q2, q3, q4, q5, q6⟩

theorem heap_lt {g : Nat} {x : Obj} (h : w.heap[g]? = some x) : g < w.heap.size := (Array.getElem?_eq_some_iff.1 h).1

theorem Le.alloc (hS : ∀ b o, S b o → b < w.heap.size) (ob : Obj) : Le S S ow ow w (w.alloc ob) :=
  ⟨fun _ _ h => h, fun b o h => World.cell?_alloc_lt w ob ⟨b, o, none⟩ (hS b o h), (Le.refl S ow w).oW⟩

/-- A new block of which the plain state knows nothing yet. -/
theorem Sim.alloc (h : Sim P n w0 LX df S0 S bm ow st a w) (ob : Obj) : Sim P n w0 LX df S0 S bm ow st a (w.alloc ob) := by
  have hle : Le S S ow ow w (w.alloc ob) := Le.alloc h.slt ob
  have old : ∀ g, g < w.heap.size → (w.alloc ob).heap[g]? = w.heap[g]? := fun g hg => Below.heap_alloc w ob g hg
  refine { h with below := h.below.alloc ob, slt := fun b o hS => ?_, slot := fun i => (h.slot i).mono hle, box := fun d v hv => ?_, row := fun d e k hd => ?_ }
  · have := h.slt b o hS; simp; omega
  · obtain ⟨g, h1, h2, h3, h4⟩ := h.box d v hv
    exact ⟨g, h1, h2, h3.mono hle (old g h3.lt), h4⟩
  · obtain ⟨x, c, h1, h2⟩ := h.row d e k hd
    refine ⟨x, c, h1, ?_⟩
    unfold RowAt at h2 ⊢
    cases x with
    | none => exact h2
    | some ad =>
      obtain ⟨g, cur, q0, q1, q2, q3⟩ := h2
      exact ⟨g, cur, q0, q1, q2.of_eq (old g q2.lt), q3⟩

/-- No value, box or row lies in block g. -/
structure Fresh (S : Nat → Nat → Prop) (bm : Bm) (ow : Ow) (g : Nat) : Prop where
  s : ∀ o, ¬ S g o
  b : ∀ d, bm d ≠ some g
  r : ∀ d k a c, ow d = some (k, some a, c) → a.block ≠ g

theorem Sim.fresh (h : Sim P n w0 LX df S0 S bm ow st a w) : Fresh S bm ow w.heap.size :=
  ⟨fun o hS => absurd (h.slt _ _ hS) (by omega),
   fun d hb => by obtain ⟨v, _, _, h3, _⟩ := h.bLt hb; exact absurd h3.lt (by omega),
   fun d k x c hr e => by
     obtain ⟨_, _, _, _, _, q, _⟩ := h.rLt hr
     have := q.lt
     omega⟩

/-- What stands in a box's place is of the same kind. -/
def SameKind (v v' : V) : Prop := (∀ s pos, v = .itc s pos → ∃ s' pos', v' = .itc s' pos') ∧ ∀ t es, v = .agg t es → ∃ es', v' = .agg t es' ∧ es'.length = es.length
theorem SameKind.refl (v : V) : SameKind v v := ⟨fun s pos e => ⟨s, pos, e⟩, fun _ es e => ⟨es, e, rfl⟩⟩

/-- More boxes. -/
theorem RepS.boxes {bm' : Bm} {bx bx' : Nat → Option V} {v : V} {c : Value} (h : RepS P S w ow bm bx v c) (hb : ∀ d g, bm d = some g → bm' d = some g)
    (hx : ∀ d v, bx d = some v → ∃ v', bx' d = some v' ∧ (∀ p off, pathOff P v p = some off → pathOff P v' p = some off) ∧ SameKind v v') : RepS P S w ow bm' bx' v c := by
  cases v <;> simp only [RepS] at h ⊢ <;> first
    | exact h
    | skip
  · obtain ⟨g, ct, off, h1, h2, h3, h4⟩ := h
    obtain ⟨v', e1, e2, _⟩ := hx _ _ h2
    exact ⟨g, v', off, hb _ _ h1, e1, e2 _ _ h3, h4⟩
  · obtain ⟨g, ct, h1, h2, h3⟩ := h
    obtain ⟨v', e1, _, e2, e3⟩ := hx _ _ h2
    refine ⟨g, v', hb _ _ h1, e1, ?_⟩
    rcases h3 with ⟨s, pos, rfl, h4⟩ | ⟨e, es, cap, rfl, h5, h6, h4⟩
    · obtain ⟨s', pos', rfl⟩ := e2 _ _ rfl
      exact .inl ⟨s', pos', rfl, h4⟩
    · obtain ⟨es', rfl, hl⟩ := e3 _ _ rfl
      exact .inr ⟨e, es', cap, rfl, by rw [hl]; exact h5, h6, by rw [hl]; exact h4⟩

theorem Sim.addBox (h : Sim P n w0 LX df S0 S bm ow st a w) {d g : Nat} {v : V} (hdn : OkD df n d) (hn : st.bx d = none) (hg : w0.heap.size ≤ g) (hf : Fresh S bm ow g) (hb : BoxAt P S w ow g v) :
    Sim P n w0 LX df S0 S (upd bm d (some g)) ow { st with bx := upd st.bx d (some v) } a w := by
  have hdn1 := hdn.1
  have hbn := h.boxNone d hn
  have hbm : ∀ d' g', bm d' = some g' → upd bm d (some g) d' = some g' := by
    intro d' g' hd'
    unfold upd
    split
    · rename_i e; subst e; rw [hbn] at hd'; cases hd'
    · exact hd'
  refine { h with slot := fun i => (h.slot i).boxes hbm ?_, box := fun d' v' hv' => ?_, boxNone := fun d' hd' => ?_, bInj := fun x y z hx hy => ?_, brDis := fun x y z k c e hx hy => ?_ }
  · intro d' v' hv'
    refine ⟨v', ?_, fun _ _ h => h, SameKind.refl v'⟩
    show upd st.bx d (some v) d' = some v'
    unfold upd
    split
    · rename_i e; subst e; rw [hn] at hv'; cases hv'
    · exact hv'
  · replace hv' : upd st.bx d (some v) d' = some v' := hv'
    unfold upd at hv' ⊢
    split at hv'
    · rename_i e
      cases hv'
      rw [if_pos e]
      exact ⟨g, rfl, ownB_new (by have := h.junk.1; omega) hg, hb, hf.s⟩
    · rename_i e
      rw [if_neg e]
      exact h.box d' v' hv'
  · replace hd' : upd st.bx d (some v) d' = none := hd'
    unfold upd at hd' ⊢
    split at hd'
    · cases hd'
    · rename_i e; rw [if_neg e]; exact h.boxNone d' hd'
  · unfold upd at hx hy
    split at hx <;> split at hy
    · rename_i e1 e2; rw [e1, e2]
    · cases hx; exact absurd hy (hf.b y)
    · cases hy; exact absurd hx (hf.b x)
    · exact h.bInj x y z hx hy
  · unfold upd at hx
    split at hx
    · cases hx; exact hf.r _ _ _ _ hy
    · exact h.brDis _ _ _ _ _ _ hx hy

theorem Sim.addRow (h : Sim P n w0 LX df S0 S bm ow st a w) {d g k c : Nat} {e : TypeId} {cur : Array Value} (hn : st.fr d = none) (hg : w0.heap.size ≤ g) (hf : Fresh S bm ow g) (hh : w.heap[g]? = some (.cells cur e (0, 0)))
    (hc : cur.size = c * P.cellsOf e) (hk : k ≤ c) (hm : c ≤ maxLen) :
    Sim P n w0 LX df S0 (fun b o => S b o ∨ (b = g ∧ o < k * P.cellsOf e)) bm (upd ow d (some (k, some ⟨g, 0, none⟩, c))) { st with fr := upd st.fr d (some (e, k)) } a w := by
  have hon := h.rowNone d hn
  have hle : Le S (fun b o => S b o ∨ (b = g ∧ o < k * P.cellsOf e)) ow (upd ow d (some (k, some ⟨g, 0, none⟩, c))) w w := by
    refine ⟨fun _ _ h => .inl h, fun _ _ _ => rfl, fun d' n' a' c' hd' => ?_⟩
    refine ⟨n', a', c', ?_, Nat.le_refl _, fun _ => ⟨rfl, rfl⟩⟩
    unfold upd
    split
    · rename_i e; subst e; rw [hon] at hd'; cases hd'
    · exact hd'
  refine { h with slt := fun b o hS => ?_, sold := fun b o hb => ?_, slot := fun i => (h.slot i).mono hle, box := fun d' v hv => ?_, row := fun d' e' k' hd' => ?_, rowNone := fun d' hd' => ?_, rInj := fun x y k1 k2 a1 a2 c1 c2 hx hy hxy => ?_, brDis := fun x y z k' a' c' hx hy => ?_ }
  · rcases hS with hS | ⟨rfl, _⟩
    · exact h.slt b o hS
    · exact heap_lt hh
  · rw [← h.sold b o hb]
    exact ⟨fun hS => by rcases hS with hS | ⟨rfl, _⟩ <;> first | exact hS | omega, .inl⟩
  · obtain ⟨g', h1, h2, h3, h4⟩ := h.box d' v hv
    refine ⟨g', h1, h2, h3.mono hle rfl, fun o hS => ?_⟩
    rcases hS with hS | ⟨rfl, _⟩
    · exact h4 o hS
    · exact hf.b _ h1
  · replace hd' : upd st.fr d (some (e, k)) d' = some (e', k') := hd'
    unfold upd at hd' ⊢
    split at hd'
    · rename_i e1
      cases hd'
      rw [if_pos e1]
      exact ⟨some ⟨g, 0, none⟩, c, rfl, g, cur, rfl, hg, .of_plain hh, hc, hk, hm, fun o => ⟨fun hS => by
        rcases hS with hS | ⟨_, hS⟩
        · exact absurd hS (hf.s o)
        · exact hS, fun hS => .inr ⟨rfl, hS⟩⟩⟩
    · rename_i e1
      rw [if_neg e1]
      obtain ⟨x, c', h1, h2⟩ := h.row d' e' k' hd'
      refine ⟨x, c', h1, ?_⟩
      unfold RowAt at h2 ⊢
      cases x with
      | none => exact h2
      | some ad =>
        obtain ⟨g', cur', q0, q1, q2, q3, q4, q5, q6⟩ := h2
        refine ⟨g', cur', q0, q1, q2, q3, q4, q5, fun o => ?_⟩
        rw [← q6 o]
        refine ⟨fun hS => ?_, .inl⟩
        rcases hS with hS | ⟨hb, _⟩
        · exact hS
        · have := hf.r _ _ _ _ h1
          rw [q0] at this
          exact absurd hb this
  · replace hd' : upd st.fr d (some (e, k)) d' = none := hd'
    unfold upd at hd' ⊢
    split at hd'
    · cases hd'
    · rename_i e1; rw [if_neg e1]; exact h.rowNone d' hd'
  · unfold upd at hx hy
    split at hx <;> split at hy
    · rename_i e1 e2; rw [e1, e2]
    · cases hx; exact absurd hxy.symm (hf.r _ _ _ _ hy)
    · cases hy; exact absurd hxy (hf.r _ _ _ _ hx)
    · exact h.rInj _ _ _ _ _ _ _ _ hx hy hxy
  · unfold upd at hy
    split at hy
    · cases hy; exact fun e2 => hf.b _ (e2 ▸ hx)
    · exact h.brDis _ _ _ _ _ _ hx hy

theorem Sim.addNil (h : Sim P n w0 LX df S0 S bm ow st a w) {d : Nat} {e : TypeId} (hn : st.fr d = none) :
    Sim P n w0 LX df S0 S bm (upd ow d (some (0, none, 0))) { st with fr := upd st.fr d (some (e, 0)) } a w := by
  have hon := h.rowNone d hn
  have hle : Le S S ow (upd ow d (some (0, none, 0))) w w := by
    refine ⟨fun _ _ h => h, fun _ _ _ => rfl, fun d' n' a' c' hd' => ?_⟩
    refine ⟨n', a', c', ?_, Nat.le_refl _, fun _ => ⟨rfl, rfl⟩⟩
    unfold upd
    split
    · rename_i e; subst e; rw [hon] at hd'; cases hd'
    · exact hd'
  refine { h with slot := fun i => (h.slot i).mono hle, box := fun d' v hv => ?_, row := fun d' e' k' hd' => ?_, rowNone := fun d' hd' => ?_, rInj := fun x y k1 k2 a1 a2 c1 c2 hx hy hxy => ?_, brDis := fun x y z k' a' c' hx hy => ?_ }
  · obtain ⟨g', h1, h2, h3, h4⟩ := h.box d' v hv
    exact ⟨g', h1, h2, h3.mono hle rfl, h4⟩
  · replace hd' : upd st.fr d (some (e, 0)) d' = some (e', k') := hd'
    unfold upd at hd' ⊢
    split at hd'
    · rename_i e1
      cases hd'
      rw [if_pos e1]
      exact ⟨none, 0, rfl, rfl, rfl⟩
    · rename_i e1
      rw [if_neg e1]
      exact h.row d' e' k' hd'
  · replace hd' : upd st.fr d (some (e, 0)) d' = none := hd'
    unfold upd at hd' ⊢
    split at hd'
    · cases hd'
    · rename_i e1; rw [if_neg e1]; exact h.rowNone d' hd'
  · unfold upd at hx hy
    split at hx
    · cases hx
    · split at hy
      · cases hy
      · exact h.rInj _ _ _ _ _ _ _ _ hx hy hxy
  · unfold upd at hy
    split at hy
    · cases hy
    · exact h.brDis _ _ _ _ _ _ hx hy

end
end Go.Nu
/-
  NU, text 10: the operations that make or write memory.
-/
namespace Go.Nu
open Go Go.RowKit

section
variable {P : Program} {n : Nat} {w0 w w' : World} {LX : Nat → Prop} {df : Df} {S0 S S' : Nat → Nat → Prop} {bm : Bm} {ow ow' : Ow} {st st' : St} {a : Act} {o : Oper} {E : Ext}

theorem alikes_len : ∀ {fs gs : List V}, V.alikes fs gs = true → fs.length = gs.length
  | [], gs, h => by cases gs <;> simp [V.alikes] at h <;> rfl
  | f :: fs, gs, h => by
    cases gs <;> simp [V.alikes] at h
    simp [alikes_len h.2]

mutual
theorem alike_width : ∀ {u v : V}, u.alike v = true → width P u = width P v
  | .agg t fs, v, h => by
    cases v <;> simp [V.alike] at h
    simp [width, h.1, alikes_len h.2]
  | .junk, v, h | .bool _, v, h | .int _ _, v, h | .str _, v, h | .sl _ _ _, v, h | .tup _, v, h | .rp _, v, h | .rf _ _, v, h | .it _, v, h | .itc _ _, v, h | .bld _ _ _ _, v, h | .nilp, v, h | .iface _ _, v, h | .nili, v, h | .fn _ _, v, h => by
    cases v <;> simp [V.alike, V.isAgg] at h <;> rfl
end

theorem alikes_map : ∀ {fs gs : List V}, V.alikes fs gs = true → fs.map (width P) = gs.map (width P)
  | [], gs, h => by cases gs <;> simp [V.alikes] at h <;> rfl
  | f :: fs, gs, h => by
    cases gs <;> simp [V.alikes] at h
    simp [alike_width (P := P) h.1, alikes_map h.2]

theorem alikes_get : ∀ {fs gs : List V} {i : Nat} {f : V}, V.alikes fs gs = true → fs[i]? = some f → ∃ g, gs[i]? = some g ∧ f.alike g = true
  | [], gs, i, f, _, hf => by simp at hf
  | f0 :: fs, gs, i, f, h, hf => by
    cases gs with
    | nil => simp [V.alikes] at h
    | cons g0 gs =>
      simp [V.alikes] at h
      cases i with
      | zero => simp at hf; subst hf; exact ⟨g0, rfl, h.1⟩
      | succ i => simpa using alikes_get (i := i) h.2 (by simpa using hf)

theorem alike_pathOff : ∀ {p : List Nat} {u v : V} {off : Nat}, u.alike v = true → pathOff P u p = some off → pathOff P v p = some off
  | [], u, v, off, _, h => by
    have : ∀ x : V, pathOff P x [] = some 0 := fun x => by cases x <;> rfl
    rw [this] at h ⊢
    exact h
  | i :: p, u, v, off, ha, h => by
    cases u <;> simp only [pathOff] at h <;> try cases h
    rename_i t fs
    cases v <;> simp only [V.alike, Bool.and_eq_true, beq_iff_eq, Bool.false_eq_true] at ha
    rename_i t' gs
    split at h
    · rename_i f hf
      obtain ⟨g, hg, hfg⟩ := alikes_get ha.2 hf
      cases hq : pathOff P f p with
      | none => simp [hq] at h
      | some q =>
        have := alike_pathOff hfg hq
        simp only [hq, Option.map_some, Option.some.injEq] at h
        simp only [pathOff, hg, this, Option.map_some, Option.some.injEq]
        rw [List.map_take, ← alikes_map (P := P) ha.2, ← List.map_take]
        exact h
    · cases h

mutual
theorem alike_refl : ∀ (u : V), u.alike u = true
  | .agg t fs => by simp [V.alike, alikes_refl fs]
  | .junk | .bool _ | .int _ _ | .str _ | .sl _ _ _ | .tup _ | .rp _ | .rf _ _ | .it _ | .itc _ _ | .bld _ _ _ _ | .nilp | .iface _ _ | .nili | .fn _ _ => by simp [V.alike, V.isAgg]
theorem alikes_refl : ∀ (us : List V), V.alikes us us = true
  | [] => rfl
  | u :: us => by simp [V.alikes, alike_refl u, alikes_refl us]
end

theorem alikes_set : ∀ {fs : List V} {i : Nat} {f y : V}, fs[i]? = some f → f.alike y = true → V.alikes fs (fs.set i y) = true
  | [], i, f, y, h, _ => by simp at h
  | f0 :: fs, 0, f, y, h, ha => by simp at h; subst h; simp [V.alikes, ha, alikes_refl]
  | f0 :: fs, i + 1, f, y, h, ha => by simp [V.alikes, alike_refl, alikes_set (i := i) (by simpa using h) ha]

theorem alike_setAt : ∀ {p : List Nat} {v u y : V}, v.at_ p = some u → u.alike y = true → v.alike (v.setAt p y) = true
  | [], v, u, y, h, ha => by
    have h1 : v.at_ [] = some v := by cases v <;> rfl
    have h2 : v.setAt [] y = y := by cases v <;> rfl
    rw [h1] at h
    cases h
    rw [h2]
    exact ha
  | i :: p, v, u, y, h, ha => by
    cases v <;> simp only [V.at_] at h <;> try cases h
    rename_i t fs
    split at h
    · rename_i f hf
      have hg : fs.getD i .junk = f := by rw [List.getD_eq_getElem?_getD, hf]; rfl
      simp only [V.setAt, V.alike, beq_self_eq_true, Bool.true_and, hg]
      exact alikes_set hf (alike_setAt h ha)
    · cases h

theorem RepCs.set : ∀ {vs : List V} {cs : List Value} {i : Nat} {u y : V} {cy : List Value}, RepCs P S w ow vs cs → vs[i]? = some u → RepC P S w ow y cy →
    ∃ pre c post, cs = pre ++ (c ++ post) ∧ pre.length = ((vs.take i).map (width P)).sum ∧ RepC P S w ow u c ∧ RepCs P S w ow (vs.set i y) (pre ++ (cy ++ post))
  | _, _, _, _, _, _, .nil _, h, _ => by simp at h
  | _, _, 0, u, y, cy, .cons _ (c := c) (cs := cs) h1 h2, h, hy => by
    simp at h
    subst h
    exact ⟨[], c, cs, by simp, by simp, h1, by simpa using RepCs.cons _ hy h2⟩
  | _, _, i + 1, u, y, cy, .cons _ (c := c) h1 h2, h, hy => by
    obtain ⟨pre, c', post, e1, e2, e3, e4⟩ := RepCs.set (i := i) (u := u) h2 (by simpa using h) hy
    refine ⟨c ++ pre, c', post, by rw [e1]; simp, ?_, e3, ?_⟩
    · rw [List.length_append, e2, h1.len]; simp
    · simpa using RepCs.cons _ h1 e4

theorem RepC.setAt : ∀ {p : List Nat} {v u y : V} {cs cy : List Value}, RepC P S w ow v cs → v.at_ p = some u → u.alike y = true → RepC P S w ow y cy →
    ∃ off pre c post, pathOff P v p = some off ∧ cs = pre ++ (c ++ post) ∧ pre.length = off ∧ c.length = cy.length ∧ RepC P S w ow (v.setAt p y) (pre ++ (cy ++ post))
  | [], v, u, y, cs, cy, h, hp, ha, hy => by
    have h1 : v.at_ [] = some v := by cases v <;> rfl
    have h2 : v.setAt [] y = y := by cases v <;> rfl
    have h3 : pathOff P v [] = some 0 := by cases v <;> rfl
    rw [h1] at hp
    cases hp
    refine ⟨0, [], cs, [], h3, by simp, rfl, ?_, by rw [h2]; simpa using hy⟩
    rw [h.len, hy.len, alike_width ha]
  | i :: p, v, u, y, cs, cy, h, hp, ha, hy => by
    cases h with
    | row _ h3 h1 h2 =>
      rename_i t fs
      simp only [V.at_] at hp
      split at hp
      · rename_i f hf
        have hg : fs.getD i .junk = f := by rw [List.getD_eq_getElem?_getD, hf]; rfl
        obtain ⟨pre0, c0, post0, q1, q2, q3⟩ := RepCs.get h3 hf
        obtain ⟨off, pre', c', post', g1, g2, g3, g4, g5⟩ := RepC.setAt q3 hp ha hy
        obtain ⟨pre, c, post, e1, e2, e3, e4⟩ := RepCs.set (y := f.setAt p y) h3 hf g5
        have hcc : c.length = c0.length := by rw [e3.len, q3.len]
        have hpre : pre = pre0 ∧ c ++ post = c0 ++ post0 := List.append_inj (e1.symm.trans q1) (by rw [e2, q2])
        have hc : c = c0 ∧ post = post0 := List.append_inj hpre.2 hcc
        refine ⟨((fs.take i).map (width P)).sum + off, pre ++ pre', c', post' ++ post, ?_, ?_, ?_, g4, ?_⟩
        · simp [pathOff, hf, g1]
        · rw [e1, hc.1, g2]; simp
        · rw [List.length_append, e2, g3]
        · rw [V.setAt, hg]
          have e5 : pre ++ pre' ++ (cy ++ (post' ++ post)) = pre ++ (pre' ++ (cy ++ post') ++ post) := by simp
          rw [e5]
          refine .row _ e4 (fun x hx => ?_) (by rw [List.length_set]; exact h2)
          rcases List.mem_or_eq_of_mem_set hx with hx | rfl
          · exact h1 x hx
          · rw [← alike_width (P := P) (alike_setAt hp ha)]
            exact h1 f (List.mem_of_getElem? hf)
      · cases hp
    | agg _ h1 h2 h3 h4 =>
      rename_i t fs
      simp only [V.at_] at hp
      split at hp
      · rename_i f hf
        have hg : fs.getD i .junk = f := by rw [List.getD_eq_getElem?_getD, hf]; rfl
        obtain ⟨pre0, c0, post0, q1, q2, q3⟩ := RepCs.get h3 hf
        obtain ⟨off, pre', c', post', g1, g2, g3, g4, g5⟩ := RepC.setAt q3 hp ha hy
        obtain ⟨pre, c, post, e1, e2, e3, e4⟩ := RepCs.set (y := f.setAt p y) h3 hf g5
        have hcc : c.length = c0.length := by rw [e3.len, q3.len]
        have hpre : pre = pre0 ∧ c ++ post = c0 ++ post0 := List.append_inj (e1.symm.trans q1) (by rw [e2, q2])
        have hc : c = c0 ∧ post = post0 := List.append_inj hpre.2 hcc
        refine ⟨((fs.take i).map (width P)).sum + off, pre ++ pre', c', post' ++ post, ?_, ?_, ?_, g4, ?_⟩
        · simp [pathOff, hf, g1]
        · rw [e1, hc.1, g2]; simp
        · rw [List.length_append, e2, g3]
        · have hal := alikes_set hf (alike_setAt hp ha)
          rw [V.setAt, hg]
          have e5 : pre ++ pre' ++ (cy ++ (post' ++ post)) = pre ++ (pre' ++ (cy ++ post') ++ post) := by simp
          rw [e5]
          exact .agg _ (by rw [h1, alikes_map (P := P) hal]) (by rw [← h2, ← alikes_map (P := P) hal]) e4 h4
      · cases hp
    | _ => simp [V.at_] at hp

theorem RepC.ones : ∀ {ow : Ow} {v : V} {cs : List Value}, RepC P S w ow v cs → ∀ u ∈ cs, u.oneCell' = true
  | _, _, _, .bool _ _ => by simp [Value.oneCell']
  | _, _, _, .int _ _ _ => by simp [Value.oneCell']
  | _, _, _, .str _ _ => by simp [Value.oneCell']
  | _, _, _, .nilp _ => by simp [Value.oneCell']
  | _, _, _, .nili _ => by simp [Value.oneCell']
  | _, _, _, .rp _ h1 h2 => by simp [Value.oneCell']
  | _, _, _, .nilsl _ _ => by simp [Value.oneCell']
  | _, _, _, .emp _ _ => by simp [Value.oneCell']
  | _, _, _, .sl _ h1 h2 h3 h4 h5 _ => by simp [Value.oneCell']
  | _, _, _, .agg _ h1 h2 h3 h4 => all h3
  | _, _, _, .row _ h1 h2 h3 => all h1
  | _, _, _, .iface1 _ h1 h2 => by simp [Value.oneCell']
  | _, _, _, .iface2 _ h => by simp [Value.oneCell']
  | _, _, _, .fn _ h1 h2 => by simp [Value.oneCell']
where
  all : ∀ {ow : Ow} {vs : List V} {cs : List Value}, RepCs P S w ow vs cs → ∀ u ∈ cs, u.oneCell' = true
    | _, _, _, .nil _ => fun _ h => by cases h
    | _, _, _, .cons _ h1 h2 => fun u hu => by
      rcases List.mem_append.1 hu with h | h
      · exact RepC.ones h1 u h
      · exact all h2 u h

/-- A box is written. -/
theorem Sim.setBox (h : Sim P n w0 LX df S0 S bm ow st a w) {d g : Nat} {v v' : V} (hb : bm d = some g) (hv : st.bx d = some v) (hos : w'.os = w.os) (ht : w'.tape = w.tape) (hout : w'.output = w.output) (hsz : w'.heap.size = w.heap.size)
    (hoth : ∀ k, k ≠ g → w'.heap[k]? = w.heap[k]?) (hnew : BoxAt P S w' ow g v') (hp : ∀ p off, pathOff P v p = some off → pathOff P v' p = some off) (hit : SameKind v v') :
    Sim P n w0 LX df S0 S bm ow { st with bx := upd st.bx d (some v') } a w' := by
  obtain ⟨v0, hv0, hge, _, hS⟩ := h.bLt hb
  have hle : Le S S ow ow w w' := ⟨fun _ _ h => h, fun b o hs => World.cell?_of_block (hoth b (fun e => hS o (e ▸ hs))), (Le.refl S ow w).oW⟩
  refine { h with below := ?_, slt := ?_, slot := fun i => ((h.slot i).mono hle).boxes (fun _ _ h => h) ?_, box := fun d' x hx => ?_, boxNone := fun d' hd' => ?_, row := fun d' e k hd' => ?_ }
  · exact ⟨hos.trans h.below.os, ht.trans h.below.tape, hout.trans h.below.output, by rw [hsz]; exact h.below.size, fun k hk hx => (hoth k (fun e => by
      unfold ownB at hge
      split at hge
      · exact hx (e ▸ hge)
      · omega)).trans (h.below.block k hk hx)⟩
  · rw [hsz]; exact h.slt
  · intro d' x hx
    show ∃ v'', upd st.bx d (some v') d' = some v'' ∧ _
    unfold upd
    split
    · rename_i e
      subst e
      obtain rfl : x = v := Option.some.inj (hx.symm.trans hv)
      exact ⟨v', rfl, hp, hit⟩
    · exact ⟨x, hx, fun _ _ h => h, SameKind.refl x⟩
  · replace hx : upd st.bx d (some v') d' = some x := hx
    unfold upd at hx
    split at hx
    · rename_i e
      subst e
      cases hx
      exact ⟨g, hb, hge, hnew, hS⟩
    · rename_i e
      obtain ⟨g', q1, q2, q3, q4⟩ := h.box d' x hx
      exact ⟨g', q1, q2, q3.mono hle (hoth g' (fun e2 => e (h.bInj _ _ _ q1 (e2 ▸ hb)))), q4⟩
  · replace hd' : upd st.bx d (some v') d' = none := hd'
    unfold upd at hd'
    split at hd'
    · cases hd'
    · exact h.boxNone d' hd'
  · obtain ⟨x, c, q1, q2⟩ := h.row d' e k hd'
    refine ⟨x, c, q1, ?_⟩
    unfold RowAt at q2 ⊢
    cases x with
    | none => exact q2
    | some ad =>
      obtain ⟨g', cur, z0, z1, z2, z3⟩ := q2
      have := h.brDis _ _ _ _ _ _ hb q1
      rw [z0] at this
      exact ⟨g', cur, z0, z1, z2.of_eq (hoth g' this), z3⟩

theorem BoxAt.ofSlack {g : Nat} {v : V} {cur : Array Value} {T : TypeId} {cs rest : List Value} (hm : v.mem = true) (h1 : w.heap[g]? = some (.cells cur T (0, 0))) (hr : cur.toList = cs ++ rest) (h2 : RepC P S w ow v cs) : BoxAt P S w ow g v := by
  unfold BoxAt
  cases v <;> first
    | exact ⟨cur, T, cs, rest, h1, hr, h2⟩
    | simp [V.mem] at hm
theorem BoxAt.ofCells {g : Nat} {v : V} {cur : Array Value} {T : TypeId} (hm : v.mem = true) (h1 : w.heap[g]? = some (.cells cur T (0, 0))) (h2 : RepC P S w ow v cur.toList) : BoxAt P S w ow g v :=
  BoxAt.ofSlack (rest := []) hm h1 (by simp) h2

theorem refTo_mem {d : Nat} {v : V} (h : v.mem = true) (hr : v.notRow = true) : refTo d v = .rf d [] := by
  cases v <;> first | rfl | (simp [V.mem] at h; done) | (simp only [V.notRow, decide_eq_true_eq] at hr; exact if_neg hr)

theorem stepK_A {d : Nat} {args : List V} {f : List V → Option V} (h : stepK (some d) args (.A f) st = some st') : ∃ c, st.bx d = none ∧ f args = some c ∧ st' = ({ st with bx := upd st.bx d (some c) } : St).put d (refTo d c) := by
  simp only [stepK] at h
  split at h
  · cases h
  · rename_i h1
    split at h
    · rename_i c hc
      exact ⟨c, h1, hc, (Option.some.inj h).symm⟩
    · cases h

theorem stepK_N {d : Nat} {args : List V} {f : List V → Option (TypeId × List V)} (h : stepK (some d) args (.N f) st = some st') :
    ∃ e es, st.fr d = none ∧ f args = some (e, es) ∧ st' = ({ st with fr := upd st.fr d (some (e, es.length)) } : St).put d (.sl (some d) e es) := by
  simp only [stepK] at h
  split at h
  · cases h
  · rename_i h1
    split at h
    · rename_i e es hc
      exact ⟨e, es, h1, hc, (Option.some.inj h).symm⟩
    · cases h

theorem stepK_S {dst : Option Nat} {args : List V} {f : List V → (Nat → Option V) → Option (Nat × V × V)} (h : stepK dst args (.S f) st = some st') :
    ∃ id c r v, f args st.bx = some (id, c, r) ∧ st.bx id = some v ∧ st' = ({ st with bx := upd st.bx id (some c) } : St).putO dst r := by
  simp only [stepK] at h
  split at h
  · rename_i id c r hf
    split at h
    · rename_i v hv
      exact ⟨id, c, r, v, hf, hv, (Option.some.inj h).symm⟩
    · cases h
  · cases h

theorem stepK_F {dst : Option Nat} {args : List V} {f : List V → (Nat → Option (TypeId × Nat)) → Option (Nat × TypeId × List V)} (h : stepK dst args (.F f) st = some st') :
    ∃ id e es x, f args st.fr = some (id, e, es) ∧ st.fr id = some x ∧ st' = ({ st with fr := upd st.fr id (some (e, es.length)) } : St).putO dst (.sl (some id) e es) := by
  simp only [stepK] at h
  split at h
  · rename_i id e es hf
    split at h
    · rename_i v hv
      exact ⟨id, e, es, v, hf, hv, (Option.some.inj h).symm⟩
    · cases h
  · cases h

theorem Sim.newBox (hs : Sim P n w0 LX df S0 S bm ow st a w) {d : Nat} (hd : OkD df n d) {v : V} {cur : Array Value} {T : TypeId} (hn : st.bx d = none) (hm : v.mem = true) (hnr : v.notRow = true) (hr : RepC P S w ow v cur.toList) :
    SimE P n w0 LX df S0 (({ st with bx := upd st.bx d (some v) } : St).put d (refTo d v)) (a.put (some d) (.pointer (some ⟨w.heap.size, 0, none⟩))) (w.alloc (.cells cur T)) := by
  have h1 := hs.alloc (.cells cur T)
  have h2 := h1.addBox hd hn hs.below.size hs.fresh (BoxAt.ofCells hm (heap_alloc_new w _) (hr.mono (Le.alloc hs.slt _)))
  refine ⟨_, _, _, h2.put hd ?_⟩
  rw [refTo_mem hm hnr]
  exact ⟨w.heap.size, v, 0, by simp [upd], by simp [upd], by cases v <;> rfl, rfl⟩

theorem good_bx {t : TypeId} {tt : Option TypeId} {d : Nat} {x : Operand} {x' : X} (hs : Sim P n w0 LX df S0 S bm ow st a w) (hd : OkD df n d) (hdst : o.dst = some d) (ho : o.op = .box t x) (hx : cX x = some x')
    (h : step1 E (.bx d tt x') st = some st') (Q : Exit → Act → World → Prop) : o.wp P a w (SimE P n w0 LX df S0 st') Q := by
  obtain ⟨c, h1, h2, rfl⟩ := stepK_A h
  simp only [PO.args, List.map_cons, List.map_nil] at h2
  split at h2
  · rename_i hm
    cases h2
    simp only [Bool.and_eq_true] at hm
    have hr := ((hs.ev hx).one hm.1.2).cells
    refine wp_value (c := .pointer (some ⟨w.heap.size, 0, none⟩)) (w' := w.alloc (.cells (a.eval x).cells t)) (by simp [execOp, ho, Instr.box, newVar, newRow]) ?_
    rw [hdst]
    exact hs.newBox hd h1 hm.1.2 hm.2 hr
  · cases h2

end
end Go.Nu
/-
  NU, text 11: nil rows, zero boxes, string iterators, stores, bytes of a string, made slices, slice literals, structs built.
-/
namespace Go.Nu
open Go Go.RowKit

section
variable {P : Program} {n : Nat} {w0 w w' : World} {LX : Nat → Prop} {df : Df} {S0 S S' : Nat → Nat → Prop} {bm : Bm} {ow ow' : Ow} {st st' : St} {a : Act} {o : Oper} {E : Ext}

theorem good_nl {d : Nat} {e : TypeId} (hs : Sim P n w0 LX df S0 S bm ow st a w) (hd : OkD df n d) (hdst : o.dst = some d) (ho : o.op = .assign (.const (.slice none 0 0)))
    (h : step1 E (.nl d e) st = some st') (Q : Exit → Act → World → Prop) : o.wp P a w (SimE P n w0 LX df S0 st') Q := by
  obtain ⟨e', es, h1, h2, rfl⟩ := stepK_N h
  simp only [PO.args, List.map_nil, Option.some.injEq, Prod.mk.injEq] at h2
  obtain ⟨rfl, rfl⟩ := h2
  have hdn : d ≠ nilT ∧ d ≠ zerT := by have := hs.junk.1; have := hd.1; unfold lentT at *; unfold nilT zerT; omega
  refine wp_value (c := .slice none 0 0) (w' := w) (by simp [execOp, ho, Act.eval]) ?_
  rw [hdst]
  refine ⟨_, _, _, (hs.addNil h1).put hd ?_⟩
  refine Rep1.toS (Rep1.of rfl (RepC.nilsl _ ?_))
  rintro d' ⟨⟩
  exact .inr (.inr ⟨hdn, 0, none, 0, by simp [upd], Nat.le_refl _, fun _ => ⟨rfl, rfl⟩⟩)

theorem one_rep {v : V} {c : Value} (h : one v c = true) : RepC P S w noOw v [c] := by
  unfold one at h
  split at h <;> try split at h
  all_goals simp only [Bool.false_eq_true, Bool.and_eq_true, beq_iff_eq, decide_eq_true_eq, Option.isNone_iff_eq_none, List.isEmpty_iff] at h
  · subst h; exact .bool _ _
  · obtain ⟨rfl, rfl⟩ := h; exact .int _ _ _
  · subst h
    rename_i s'
    exact RepC.str (P := P) (S := S) (w := w) noOw s'.data.toList
  · obtain ⟨⟨⟨⟨rfl, rfl⟩, rfl⟩, rfl⟩, rfl⟩ := h
    exact .nilsl _ (TagOk.none_ _ _ _ _)
  · subst h; exact .nilp _
  · exact .nili _

mutual
theorem eat_rep : ∀ (v : V) (cs r : List Value), eat P v cs = some r → ∃ c, cs = c ++ r ∧ RepC P S w noOw v c
  | .agg t fs, cs, r, h => by
    unfold eat at h
    split at h
    · rename_i hh
      obtain ⟨c, e1, e2⟩ := eats_rep fs cs r h
      exact ⟨c, e1, .agg _ hh.1.1 hh.1.2 e2 hh.2⟩
    · cases h
  | .junk, cs, r, h | .tup _, cs, r, h | .rp _, cs, r, h | .rf _ _, cs, r, h | .it _, cs, r, h | .itc _ _, cs, r, h | .bld _ _ _ _, cs, r, h | .iface _ _, cs, r, h | .fn _ _, cs, r, h
  | .bool _, cs, r, h | .int _ _, cs, r, h | .str _, cs, r, h | .sl _ _ _, cs, r, h | .nilp, cs, r, h | .nili, cs, r, h => by
    unfold eat at h
    split at h
    · split at h
      · rename_i c r' ho
        cases h
        exact ⟨[c], rfl, one_rep ho⟩
      · cases h
    · cases h
theorem eats_rep : ∀ (vs : List V) (cs r : List Value), eats P vs cs = some r → ∃ c, cs = c ++ r ∧ RepCs P S w noOw vs c
  | [], cs, r, h => by unfold eats at h; cases h; exact ⟨[], rfl, .nil _⟩
  | v :: vs, cs, r, h => by
    unfold eats at h
    split at h
    · rename_i r' hr
      obtain ⟨c1, e1, q1⟩ := eat_rep v cs r' hr
      obtain ⟨c2, e2, q2⟩ := eats_rep vs r' r h
      exact ⟨c1 ++ c2, by rw [e1, e2]; simp, .cons _ q1 q2⟩
    · cases h
end

theorem zero_rep {t : TypeId} {v : V} (h : zero? P t = some v) : ∃ z inf, P.info? t = some inf ∧ inf.zero = some z ∧ RepC P S w noOw v z.cells.toList ∧ Rep1 P S w noOw v z := by
  unfold zero? at h
  split at h
  · rename_i v' z h1 h2
    split at h
    · rename_i he
      split at h
      · rename_i h4
        obtain rfl := Option.some.inj h
        obtain ⟨c, e1, e2⟩ := eat_rep (S := S) (w := w) _ _ _ he
        rw [List.append_nil] at e1
        subst e1
        cases hinf : P.info? t with
        | none => simp [hinf] at h2
        | some inf =>
          simp only [hinf, Option.bind_some] at h2
          refine ⟨z, inf, rfl, h2, e2, ?_⟩
          cases hg : v'.isAgg
          · rw [hg] at h4
            have : z.cells = #[z] := by cases z <;> first | rfl | simp [isAggC] at h4
            rw [this] at e2
            exact Rep1.of hg e2
          · cases hv : v' <;> rw [hv] at hg <;> simp only [V.isAgg, Bool.false_eq_true] at hg
            rw [hv] at h4 e2
            cases z <;> simp [V.isAgg, isAggC] at h4
            exact ⟨_, by simp [Value.cells], e2⟩
      · cases h
    · cases h
  · cases h

theorem flagNs_len : ∀ vs : List V, (V.flagNs vs).length = vs.length
  | [] => rfl
  | v :: vs => by simp [V.flagNs, flagNs_len vs]
theorem flagN_sl (tg : Option Nat) (e : TypeId) (es : List V) : ∃ tg', V.flagN (.sl tg e es) = .sl tg' e es := by
  simp only [V.flagN]
  split
  · exact ⟨_, rfl⟩
  · exact ⟨_, rfl⟩
theorem flagN_width (v : V) : width P v.flagN = width P v := by
  cases v <;> try rfl
  · obtain ⟨tg', h⟩ := flagN_sl ‹_› ‹_› ‹_›
    rw [h]
    rfl
  · simp [V.flagN, width, flagNs_len]
theorem flagNs_width : ∀ vs : List V, (V.flagNs vs).map (width P) = vs.map (width P)
  | [] => rfl
  | v :: vs => by simp [V.flagNs, flagN_width, flagNs_width vs]
theorem flagN_isAgg (v : V) : v.flagN.isAgg = v.isAgg := by
  cases v <;> try rfl
  obtain ⟨tg', h⟩ := flagN_sl ‹_› ‹_› ‹_›
  rw [h]
  rfl
theorem one_flag {v : V} {c : Value} (h : one v c = true) : RepC P S w noOw v.flagN [c] := by
  cases v <;> try exact one_rep h
  · rename_i tg e es
    cases c <;> simp only [one, Bool.false_eq_true, Bool.and_eq_true, beq_iff_eq, Option.isNone_iff_eq_none, List.isEmpty_iff] at h
    obtain ⟨⟨⟨⟨rfl, rfl⟩, rfl⟩, rfl⟩, rfl⟩ := h
    exact .nilsl _ (TagOk.nil_ _)

mutual
theorem eat_flag : ∀ (v : V) (cs r : List Value), eat P v cs = some r → ∃ c, cs = c ++ r ∧ RepC P S w noOw v.flagN c
  | .agg t fs, cs, r, h => by
    unfold eat at h
    split at h
    · rename_i hh
      obtain ⟨c, e1, e2⟩ := eats_flag fs cs r h
      exact ⟨c, e1, .agg _ (by rw [hh.1.1, flagNs_width]) (by rw [← hh.1.2, flagNs_width]) e2 hh.2⟩
    · cases h
  | .junk, cs, r, h | .tup _, cs, r, h | .rp _, cs, r, h | .rf _ _, cs, r, h | .it _, cs, r, h | .itc _ _, cs, r, h | .bld _ _ _ _, cs, r, h | .iface _ _, cs, r, h | .fn _ _, cs, r, h
  | .bool _, cs, r, h | .int _ _, cs, r, h | .str _, cs, r, h | .sl _ _ _, cs, r, h | .nilp, cs, r, h | .nili, cs, r, h => by
    unfold eat at h
    split at h
    · split at h
      · rename_i c r' ho
        cases h
        exact ⟨[c], rfl, one_flag ho⟩
      · cases h
    · cases h
theorem eats_flag : ∀ (vs : List V) (cs r : List Value), eats P vs cs = some r → ∃ c, cs = c ++ r ∧ RepCs P S w noOw (V.flagNs vs) c
  | [], cs, r, h => by unfold eats at h; cases h; exact ⟨[], rfl, .nil _⟩
  | v :: vs, cs, r, h => by
    unfold eats at h
    split at h
    · rename_i r' hr
      obtain ⟨c1, e1, q1⟩ := eat_flag v cs r' hr
      obtain ⟨c2, e2, q2⟩ := eats_flag vs r' r h
      exact ⟨c1 ++ c2, by rw [e1, e2]; simp, .cons _ q1 q2⟩
    · cases h
end

theorem zero_flag {t : TypeId} {v : V} (h : zero? P t = some v) : ∃ z inf, P.info? t = some inf ∧ inf.zero = some z ∧ RepC P S w noOw v.flagN z.cells.toList ∧ Rep1 P S w noOw v.flagN z := by
  unfold zero? at h
  split at h
  · rename_i v' z h1 h2
    split at h
    · rename_i he
      split at h
      · rename_i h4
        obtain rfl := Option.some.inj h
        obtain ⟨c, e1, e2⟩ := eat_flag (S := S) (w := w) _ _ _ he
        rw [List.append_nil] at e1
        subst e1
        cases hinf : P.info? t with
        | none => simp [hinf] at h2
        | some inf =>
          simp only [hinf, Option.bind_some] at h2
          refine ⟨z, inf, rfl, h2, e2, ?_⟩
          cases hg : v'.isAgg
          · have hg0 := hg
            rw [hg] at h4
            have : z.cells = #[z] := by cases z <;> first | rfl | simp [isAggC] at h4
            rw [this] at e2
            exact Rep1.of (by rw [flagN_isAgg]; exact hg0) e2
          · cases hv : v' <;> rw [hv] at hg <;> simp only [V.isAgg, Bool.false_eq_true] at hg
            rw [hv] at h4 e2
            cases z <;> simp [V.isAgg, isAggC] at h4
            exact ⟨_, by simp [Value.cells], e2⟩
      · cases h
    · cases h
  · cases h
theorem zeroN_rep {t : TypeId} {v : V} {nz : List TypeId} (h : zeroN P nz t = some v) : ∃ z inf, P.info? t = some inf ∧ inf.zero = some z ∧ RepC P S w noOw v z.cells.toList ∧ Rep1 P S w noOw v z := by
  unfold zeroN at h
  split at h
  · rename_i v' h1
    split at h
    · cases h; exact zero_flag h1
    · cases h; exact zero_rep h1
  · cases h

/-- A new builder. -/
theorem good_ab {t e : TypeId} {d : Nat} (hs : Sim P n w0 LX df S0 S bm ow st a w) (hd : OkD df n d) (hdst : o.dst = some d) (ho : o.op = .alloc t) (hz : bldTy P t = some e)
    (h : step1 E (.ab d t e) st = some st') (Q : Exit → Act → World → Prop) : o.wp P a w (SimE P n w0 LX df S0 st') Q := by
  simp only [step1, PO.dst, PO.args, PO.kd, List.map_nil, stepK] at h
  split at h
  · rename_i hq
    split at hq
    · rename_i hb hf
      split at hq
      · rename_i hdl
        cases hq
        cases h
        have hzz : zero? P t = some (.agg t [.nilp, .sl none e []]) ∧ P.cellsOf e = 1 := by
          unfold bldTy at hz
          split at hz
          · rename_i h0
            split at hz
            · split at hz
              · split at hz
                · rename_i h1
                  cases hz
                  obtain ⟨⟨_, _⟩, ⟨rfl, h2⟩, _⟩ := h1
                  exact ⟨h0, h2⟩
                · cases hz
              · cases hz
            · cases hz
          · cases hz
        obtain ⟨zv, inf, q1, q2, q3, _⟩ := zero_flag (S := S) (w := w) hzz.1
        have hcells : zv.cells.toList = [.pointer none, .slice none 0 0] := by
          have h3 : RepC P S w noOw (.agg t [.nilp, .sl (some nilT) e []]) zv.cells.toList := q3
          generalize zv.cells.toList = l at h3
          have h4 := repC_aggs h3
          cases h4 with
          | cons _ h5 h6 =>
            cases h5
            cases h6 with
            | cons _ h7 h8 =>
              cases h8
              generalize hq : V.sl (some nilT) e [] = q at h7
              cases h7 with
              | nilsl => rfl
              | sl _ k1 k2 k3 k4 k5 k6 =>
                cases hq
                rcases k6 _ rfl with ⟨_, h10, _⟩ | ⟨h10, _⟩ | ⟨h10, _⟩
                · cases h10
                · exact absurd h10 (by decide)
                · exact absurd rfl h10.1
              | emp _ k6 =>
                cases hq
                rcases k6 _ rfl with ⟨_, h10, _⟩ | ⟨h10, _⟩ | ⟨h10, _⟩
                · cases h10
                · exact absurd h10 (by decide)
                · exact absurd rfl h10.1
              | _ => cases hq
        have hca : zv.cells = #[.pointer none, .slice none 0 0] := Array.toList_inj.1 hcells
        refine wp_value (c := .pointer (some ⟨w.heap.size, 0, none⟩)) (w' := w.alloc (.cells zv.cells t)) (by simp [execOp, ho, Instr.alloc, zeroValue, typeInfo, q1, q2, newVar, newRow]) ?_
        rw [hdst]
        have g1 := hs.alloc (.cells zv.cells t)
        have g2 := g1.addNil (d := bldT + d) (e := e) hf
        have hfr : Fresh S bm (upd ow (bldT + d) (some (0, none, 0))) w.heap.size := by
          refine ⟨hs.fresh.s, hs.fresh.b, fun d' k x c hr => ?_⟩
          unfold upd at hr
          split at hr
          · cases hr
          · exact hs.fresh.r _ _ _ _ hr
        have g3 := g2.addBox (d := d) (g := w.heap.size) (v := .bld (bldT + d) t e []) hd hb hs.below.size hfr ⟨.pointer none, .slice none 0 0, by rw [← hca]; exact heap_alloc_new w _, .inl rfl, .nilsl _ (TagOk.mk_ (by unfold lentT at hdl; unfold bldT nilT zerT; omega) ⟨0, none, 0, by simp [upd], Nat.le_refl _, fun _ => ⟨rfl, rfl⟩⟩), hzz.2⟩
        exact ⟨_, _, _, g3.put hd ⟨w.heap.size, .bld (bldT + d) t e [], 0, by simp [upd], by simp [upd], rfl, rfl⟩⟩
      · cases hq
    · cases hq
  · cases h

theorem good_al {t : TypeId} {z : V} {d : Nat} (hs : Sim P n w0 LX df S0 S bm ow st a w) (hd : OkD df n d) (hdst : o.dst = some d) (ho : o.op = .alloc t) {nz : List TypeId} (hz : zeroN P nz t = some z)
    (h : step1 E (.al d z) st = some st') (Q : Exit → Act → World → Prop) : o.wp P a w (SimE P n w0 LX df S0 st') Q := by
  obtain ⟨c, h1, h2, rfl⟩ := stepK_A h
  simp only [PO.args, List.map_nil] at h2
  obtain ⟨hnr, rfl⟩ : z.notRow = true ∧ z = c := by
    split at h2
    · rename_i hnr; cases h2; exact ⟨hnr, rfl⟩
    · cases h2
  obtain ⟨zv, inf, q1, q2, q3, _⟩ := zeroN_rep (S := S) (w := w) hz
  refine wp_value (c := .pointer (some ⟨w.heap.size, 0, none⟩)) (w' := w.alloc (.cells zv.cells t)) (by simp [execOp, ho, Instr.alloc, zeroValue, typeInfo, q1, q2, newVar, newRow]) ?_
  rw [hdst]
  exact hs.newBox hd h1 q3.mem hnr q3.any

theorem good_rg {t : TypeId} {x : Operand} {x' : X} {d : Nat} (hs : Sim P n w0 LX df S0 S bm ow st a w) (hd : OkD df n d) (hdst : o.dst = some d) (ho : o.op = .range t x) (ht : P.underlying t = some .string) (hx : cX x = some x')
    (h : step1 E (.rg d x') st = some st') (Q : Exit → Act → World → Prop) : o.wp P a w (SimE P n w0 LX df S0 st') Q := by
  obtain ⟨c, h1, h2, rfl⟩ := stepK_A h
  simp only [PO.args, List.map_cons, List.map_nil] at h2
  cases hc : x'.ev st <;> simp only [hc] at h2 <;> try cases h2
  rename_i l
  have e1 := str_ev hs hx hc
  refine wp_value (c := .pointer (some ⟨w.heap.size, 0, none⟩)) (w' := w.alloc (.stringIter ⟨l.toArray⟩ 0)) (by simp [execOp, ho, e1, Instr.range, run_underlying ht]) ?_
  rw [hdst]
  have g1 := hs.alloc (.stringIter ⟨l.toArray⟩ 0)
  have g2 := g1.addBox (d := d) (g := w.heap.size) (v := .itc l 0) hd h1 hs.below.size hs.fresh (heap_alloc_new w _)
  exact ⟨_, _, _, g2.put hd ⟨w.heap.size, .itc l 0, by simp [upd], by simp [upd], .inl ⟨l, 0, rfl, rfl⟩⟩⟩

theorem good_nx {x : Operand} {x' : X} {d : Nat} (hs : Sim P n w0 LX df S0 S bm ow st a w) (hd : OkD df n d) (hdst : o.dst = some d) (ho : o.op = .next x true) (hx : cX x = some x')
    (h : step1 E (.nx d x') st = some st') (Q : Exit → Act → World → Prop) : o.wp P a w (SimE P n w0 LX df S0 st') Q := by
  obtain ⟨id, c, r, v, h1, h2, rfl⟩ := stepK_S h
  simp only [PO.args, List.map_cons, List.map_nil] at h1
  have hr := hs.ev hx
  unfold nextV at h1
  split at h1
  · rename_i bd hc
    rw [hc] at hr
    obtain ⟨g, ct, r1, r2, r30⟩ := hr
    rw [r2] at h1
    obtain ⟨l, pos, rfl, r3⟩ : ∃ l pos, ct = .itc l pos ∧ a.eval x = .pointer (some ⟨g, 0, none⟩) := by
      rcases r30 with h | ⟨e, es, _, rfl, _⟩
      · exact h
      · cases h1
    simp only [] at h1
    obtain ⟨g', z1, z2, z3, z4⟩ := hs.box _ _ r2
    obtain rfl : g' = g := Option.some.inj (z1.symm.trans r1)
    have hh : w.heap[g']? = some (.stringIter ⟨l.toArray⟩ pos) := z3
    have hlt := heap_lt hh
    split at h1
    · rename_i hp
      simp only [Option.some.injEq, Prod.mk.injEq] at h1
      obtain ⟨rfl, rfl, rfl⟩ := h1
      obtain rfl : V.itc l pos = v := Option.some.inj (r2.symm.trans h2)
      refine wp_value (c := .tuple #[.bool true, .int .i64 pos, .int .i32 (Utf8.decode ⟨l.toArray⟩ pos).1]) (w' := { w with heap := w.heap.setIfInBounds g' (.stringIter ⟨l.toArray⟩ (pos + (Utf8.decode ⟨l.toArray⟩ pos).2)) }) ?_ ?_
      · have hsz : pos < (⟨l.toArray⟩ : ByteArray).size := by rw [size_of_list]; exact hp
        simp [execOp, ho, r3, Instr.next, getObj, setObj, Sem.run, hh, hsz, goInt]
      · rw [hdst]
        have hnew : ({ w with heap := w.heap.setIfInBounds g' (.stringIter ⟨l.toArray⟩ (pos + (Utf8.decode ⟨l.toArray⟩ pos).2)) } : World).heap[g']? = some (.stringIter ⟨l.toArray⟩ (pos + (Utf8.decode ⟨l.toArray⟩ pos).2)) := by
          simp [hlt]
        have g1 := hs.setBox (w' := { w with heap := w.heap.setIfInBounds g' (.stringIter ⟨l.toArray⟩ (pos + (Utf8.decode ⟨l.toArray⟩ pos).2)) }) (v' := .itc l (pos + (Utf8.decode ⟨l.toArray⟩ pos).2)) r1 r2 rfl rfl rfl (by simp)
          (fun k hk => by simp [Ne.symm hk]) hnew (fun p off hpo => by cases p <;> simp_all [pathOff]) ⟨fun s q _ => ⟨_, _, rfl⟩, fun _ _ e => by cases e⟩
        refine ⟨_, _, _, g1.put hd ⟨[_, _, _], rfl, ?_⟩⟩
        exact ⟨RepC.bool _ _, RepC.int _ _ _, RepC.int _ _ _, trivial⟩
    · rename_i hp
      simp only [Option.some.injEq, Prod.mk.injEq] at h1
      obtain ⟨rfl, rfl, rfl⟩ := h1
      obtain rfl : V.itc l pos = v := Option.some.inj (r2.symm.trans h2)
      refine wp_value (c := .tuple #[.bool false]) (w' := w) ?_ ?_
      · have hsz : ¬ pos < (⟨l.toArray⟩ : ByteArray).size := by rw [size_of_list]; exact hp
        simp [execOp, ho, r3, Instr.next, getObj, Sem.run, hh, hsz]
      · rw [hdst]
        have g1 := hs.setBox (w' := w) (v' := .itc l pos) r1 r2 rfl rfl rfl rfl (fun _ _ => rfl) hh (fun p off hpo => hpo) (SameKind.refl _)
        exact ⟨_, _, _, g1.put hd ⟨[_], rfl, RepC.bool _ _, trivial⟩⟩
  · cases h1

theorem fits_width {t : TypeId} {tt : Option TypeId} {v : V} (hT : cT P t = some tt) (hf : fitsT tt v = true) : width P v = P.cellsOf t := by
  cases tt with
  | none =>
    obtain ⟨td, inf, _, _, _, h1, h2⟩ := cT_one hT
    have hag : v.isAgg = false := by cases v <;> first | rfl | simp [fitsT] at hf
    have : width P v = 1 := by cases v <;> first | rfl | simp [V.isAgg] at hag
    rw [this]
    simp [Program.cellsOf, h1, h2]
  | some u =>
    cases v <;> simp only [fitsT, beq_iff_eq, Option.some.injEq, Bool.and_eq_true, reduceCtorEq, false_and] at hf
    subst hf
    obtain ⟨rfl, hok, _⟩ := cT_agg hT
    obtain ⟨_, _, _, _, _, _, h5⟩ := okAgg_spec hok
    exact width_agg h5

theorem Sim.evt (h : Sim P n w0 LX df S0 S bm ow st a w) {t : TypeId} {y : Operand} {x : X} (hx : cXt P t y = some x) : RepS P S w ow bm st.bx (x.ev st) (a.eval y) := by
  unfold cXt at hx
  split at hx
  · split at hx
    · cases hx
      exact Rep1.toS (Rep1.of rfl (RepC.nilsl _ (TagOk.none_ _ _ _ _)))
    · exact h.ev hx
  · exact h.ev hx
theorem good_st {t : TypeId} {tt : Option TypeId} {x y : Operand} {x' y' : X} (hs : Sim P n w0 LX df S0 S bm ow st a w) (hdst : o.dst = none) (ho : o.op = .store t x y) (hT : cT P t = some tt) (hx : cX x = some x') (hy : cXt P t y = some y')
    (h : step1 E (.st tt x' y') st = some st') (Q : Exit → Act → World → Prop) : o.wp P a w (SimE P n w0 LX df S0 st') Q := by
  obtain ⟨id, c, r, v, h1, h2, rfl⟩ := stepK_S h
  simp only [PO.args, List.map_cons, List.map_nil] at h1
  have hr := hs.ev hx
  unfold stV at h1
  split at h1
  · rename_i bd p hc
    rw [hc] at hr
    obtain ⟨g, ct, off, r1, r2, r3, r4⟩ := hr
    rw [r2] at h1
    simp only [] at h1
    split at h1
    · rename_i u hat
      split at h1
      · rename_i hh
        simp only [Bool.and_eq_true] at hh
        obtain ⟨⟨⟨hfit, hal⟩, hmem⟩, hcm⟩ := hh
        simp only [Option.some.injEq, Prod.mk.injEq] at h1
        obtain ⟨rfl, rfl, rfl⟩ := h1
        obtain rfl : ct = v := Option.some.inj (r2.symm.trans h2)
        obtain ⟨g', z1, z2, z3, z4⟩ := hs.box _ _ r2
        obtain rfl : g' = g := Option.some.inj (z1.symm.trans r1)
        have hry := ((hs.evt hy).one hmem).cells
        have hwid := fits_width hT hfit
        have hlen : (a.eval y).cells.size = P.cellsOf t := by
          rw [← hwid, ← hry.len, Array.length_toList]
        have hct : ∃ cur T cs rest, w.heap[g']? = some (.cells cur T (0, 0)) ∧ cur.toList = cs ++ rest ∧ RepC P S w ow ct cs := by
          unfold BoxAt at z3
          cases ct <;> first
            | exact z3
            | simp [V.mem] at hcm
        obtain ⟨cur, T, cs, rest, y0, yr, hcs⟩ := hct
        obtain ⟨off', pre, c, post, y1, y2, y3, y4, y5⟩ := RepC.setAt hcs hat hal hry
        rw [y2, List.append_assoc, List.append_assoc] at yr
        obtain rfl : off' = off := Option.some.inj (y1.symm.trans r3)
        have hcursz : cur.size = pre.length + (c.length + (post ++ rest).length) := by
          rw [← Array.length_toList, yr]; simp
        have hfits : off' + 0 + (a.eval y).cells.toList.length ≤ cur.size := by
          rw [hcursz, y3, y4]; omega
        have hrun := run_storeCells_at P g' off' T (a.eval y).cells.toList 0 cur w y0 hfits hry.ones
        have hnewl : (cur.toList.take (off' + 0) ++ (a.eval y).cells.toList ++ cur.toList.drop (off' + 0 + (a.eval y).cells.toList.length)) = pre ++ ((a.eval y).cells.toList ++ (post ++ rest)) := by
          rw [Nat.add_zero, ← y4, yr, ← y3, List.take_left, ← List.drop_drop, List.drop_left, List.drop_left]
          simp
        rw [hnewl] at hrun
        obtain ⟨inf, hinf, hsz⟩ : ∃ inf, P.info? t = some inf ∧ inf.size = P.cellsOf t := by
          cases tt with
          | none => obtain ⟨td, inf, _, _, _, q1, q2⟩ := cT_one hT; exact ⟨inf, q1, by simp [Program.cellsOf, q1]⟩
          | some u => obtain ⟨_, hok, _⟩ := cT_agg hT; obtain ⟨_, inf, _, _, q1, q2, _⟩ := okAgg_spec hok; exact ⟨inf, q1, q2.symm⟩
        have hop : (execOp a.eval o).run P w = .ok .skip (w.setRow g' (pre ++ ((a.eval y).cells.toList ++ (post ++ rest))).toArray) := by
          simp [execOp, ho, r4, Instr.storeAt, Instr.sureAddr, storeVar, sizeOf, typeInfo, hinf, hsz, hlen, hrun]
        unfold Oper.wp
        rw [hop]
        show SimE P n w0 LX df S0 _ (a.put o.dst undef) _
        rw [hdst]
        have hnb : BoxAt P S (w.setRow g' (pre ++ ((a.eval y).cells.toList ++ (post ++ rest))).toArray) ow g' (ct.setAt p (y'.ev st)) := by
          have hm2 : (ct.setAt p (y'.ev st)).mem = true := y5.mem
          refine BoxAt.ofSlack (rest := rest) hm2 (setRow_heap w g' cur _ T (0, 0) y0) (by simp) (y5.mono ⟨fun _ _ h => h, fun b k hS => ?_, (Le.refl S ow w).oW⟩)
          exact cell_setRow_other w g' _ ⟨b, k, none⟩ (fun e => z4 k (e ▸ hS))
        have g1 := hs.setBox (w' := w.setRow g' (pre ++ ((a.eval y).cells.toList ++ (post ++ rest))).toArray) (v' := ct.setAt p (y'.ev st)) r1 r2 rfl rfl rfl (by simp) (fun k hk => setRow_other w g' k _ hk) hnb
          (fun q off hq => alike_pathOff (alike_setAt hat hal) hq) ⟨fun s q e => by subst e; simp [V.mem] at hcm, fun t es e => by
            subst e
            have hal2 := alike_setAt hat hal
            cases hq : (V.agg t es).setAt p (y'.ev st) <;> rw [hq] at hal2 <;> simp [V.alike] at hal2
            exact ⟨_, by rw [hal2.1], (alikes_len hal2.2).symm⟩⟩
        exact ⟨_, _, _, g1⟩
      · cases h1
    · cases h1
  · cases h1

end
end Go.Nu
/-
  NU, text 12: rows of the call's own: made slices, slice literals, appends; the bytes of a string; structs built.
-/
namespace Go.Nu
open Go Go.RowKit

section
variable {P : Program} {n : Nat} {w0 w w' : World} {LX : Nat → Prop} {df : Df} {S0 S S' : Nat → Nat → Prop} {bm : Bm} {ow ow' : Ow} {st st' : St} {a : Act} {o : Oper} {E : Ext}

theorem lens_uniform {e : TypeId} {es : List V} {cs : List Value} (h : RepCs P S w ow es cs) (hw : ∀ x ∈ es, width P x = P.cellsOf e) : cs.length = es.length * P.cellsOf e := by
  rw [RepC.len.lens h]
  have := uniform (e := e) (es := es) es.length hw (Nat.le_refl _)
  rwa [List.take_length] at this

/-- A new row, whose first elements are es. -/
theorem Sim.newRow (hs : Sim P n w0 LX df S0 S bm ow st a w) {d : Nat} (hd : OkD df n d) {e : TypeId} {es : List V} {cs rest : List Value} {c : Nat} (hn : st.fr d = none) (hr : RepCs P S w noOw es cs)
    (hw : ∀ x ∈ es, width P x = P.cellsOf e) (hc : (cs ++ rest).length = c * P.cellsOf e) (hle : es.length ≤ c) (hm : c ≤ maxLen) :
    SimE P n w0 LX df S0 (({ st with fr := upd st.fr d (some (e, es.length)) } : St).put d (.sl (some d) e es)) (a.put (some d) (.slice (some ⟨w.heap.size, 0, none⟩) es.length c)) (w.alloc (.cells (cs ++ rest).toArray e)) := by
  have h1 := hs.alloc (.cells (cs ++ rest).toArray e)
  have hh : (w.alloc (.cells (cs ++ rest).toArray e)).heap[w.heap.size]? = some (.cells (cs ++ rest).toArray e (0, 0)) := heap_alloc_new w _
  have h2 := h1.addRow (d := d) (k := es.length) (c := c) hn hs.below.size hs.fresh hh (by simpa using hc) hle hm
  refine ⟨_, _, _, h2.put hd (Rep1.toS (Rep1.of rfl ?_))⟩
  have hl := lens_uniform hr hw
  refine .sl _ (hr.mono ⟨fun _ _ h => .inl h, fun b o hS => World.cell?_alloc_lt w _ ⟨b, o, none⟩ (hs.slt b o hS), fun _ _ _ _ h => by cases h⟩) hw ?_ hle hm ?_
  · intro j u hu
    have hj : j < cs.length := by
      rcases Nat.lt_or_ge j cs.length with hh | hh
      · exact hh
      · simp [List.getElem?_eq_none hh] at hu
    rw [Nat.zero_add]
    refine ⟨.inr ⟨rfl, by omega⟩, ?_⟩
    rw [cell_of_row _ _ _ _ _ _ hh]
    rw [List.getElem?_toArray, List.getElem?_append_left hj]
    exact hu
  · exact TagOk.mk_ (by have := hs.junk.1; have := hd.1; unfold lentT at *; unfold nilT zerT; omega) ⟨es.length, some ⟨w.heap.size, 0, none⟩, c, by simp [upd], Nat.le_refl _, fun _ => ⟨rfl, rfl⟩⟩

/-- A new block of which the first m cells are not written any more. -/
theorem Sim.addStable (h : Sim P n w0 LX df S0 S bm ow st a w) {g m : Nat} (hg : w0.heap.size ≤ g) (hf : Fresh S bm ow g) (hh : g < w.heap.size) :
    Sim P n w0 LX df S0 (fun b o => S b o ∨ (b = g ∧ o < m)) bm ow st a w := by
  have hle : Le S (fun b o => S b o ∨ (b = g ∧ o < m)) ow ow w w := ⟨fun _ _ h => .inl h, fun _ _ _ => rfl, (Le.refl S ow w).oW⟩
  refine { h with slt := fun b o hS => ?_, sold := fun b o hb => ?_, slot := fun i => (h.slot i).mono hle, box := fun d' v hv => ?_, row := fun d' e' k' hd' => ?_ }
  · rcases hS with hS | ⟨rfl, _⟩
    · exact h.slt b o hS
    · exact hh
  · rw [← h.sold b o hb]
    exact ⟨fun hS => by rcases hS with hS | ⟨rfl, _⟩ <;> first | exact hS | omega, .inl⟩
  · obtain ⟨g', h1, h2, h3, h4⟩ := h.box d' v hv
    refine ⟨g', h1, h2, h3.mono hle rfl, fun o hS => ?_⟩
    rcases hS with hS | ⟨rfl, _⟩
    · exact h4 o hS
    · exact hf.b _ h1
  · obtain ⟨x, c', h1, h2⟩ := h.row d' e' k' hd'
    refine ⟨x, c', h1, ?_⟩
    unfold RowAt at h2 ⊢
    cases x with
    | none => exact h2
    | some ad =>
      obtain ⟨g', cur', q0, q1, q2, q3, q4, q5, q6⟩ := h2
      refine ⟨g', cur', q0, q1, q2, q3, q4, q5, fun o => ?_⟩
      rw [← q6 o]
      refine ⟨fun hS => ?_, .inl⟩
      rcases hS with hS | ⟨hb, _⟩
      · exact hS
      · have := hf.r _ _ _ _ h1
        rw [q0] at this
        exact absurd hb this

theorem reps_bytes : ∀ (l : List UInt8), RepCs P S w ow (l.map byteV) (l.map fun b => .int .u8 (b.toNat : Int))
  | [] => .nil _
  | b :: l => by
    have := RepCs.cons (P := P) (S := S) (w := w) ow (RepC.int ow .u8 (b.toNat : Int)) (reps_bytes l)
    exact this

theorem good_cvs {t u e : TypeId} {x : Operand} {x' : X} {d : Nat} (hs : Sim P n w0 LX df S0 S bm ow st a w) (hd : OkD df n d) (hdst : o.dst = some d) (ho : o.op = .convert t u x)
    (ht : P.underlying t = some .string) (hu : P.underlying u = some (.slice e)) (he : P.underlying e = some (.int .u8)) (h1 : P.cellsOf e = 1) (hx : cX x = some x')
    (h : step1 E (.cvs d e x') st = some st') (Q : Exit → Act → World → Prop) : o.wp P a w (SimE P n w0 LX df S0 st') Q := by
  obtain ⟨v, hv, rfl⟩ := stepK_P h
  simp only [PO.args, List.map_cons, List.map_nil] at hv
  cases hc : x'.ev st <;> simp only [hc] at hv
  all_goals try (cases hv; done)
  rename_i l
  have e1 := str_ev hs hx hc
  have hbig0 : l.length ≤ big := by
    by_cases hh : l.length ≤ big
    · exact hh
    · rw [if_neg hh] at hv; cases hv
  rw [if_pos hbig0] at hv
  cases hv
  have hbig : l.length ≤ maxLen := by unfold big at hbig0; unfold maxLen; omega
  have hrun := run_bytes_of_string (P := P) w t u e ⟨l.toArray⟩ ht hu he
  generalize hC : bytesRow ⟨l.toArray⟩ (grownCap w (⟨l.toArray⟩ : ByteArray).size 0 e) = C at hrun
  refine wp_value (by simp only [execOp, ho, e1, Sem.run_bind, hrun, Result.andThen_ok]; rfl) ?_
  rw [hdst]
  have hs' : Sim P n w0 LX df S0 S bm ow st a w.drew := hs.world rfl rfl rfl rfl
  have g1 := hs'.alloc (.cells C e (C.size, C.size + 1))
  have g2 := g1.addStable (g := w.heap.size) (m := l.length) hs.below.size hs.fresh (by simp)
  refine ⟨_, _, _, g2.put hd (Rep1.toS (Rep1.of rfl ?_))⟩
  rw [size_of_list]
  have hlen : (l.map byteV).length = l.length := by simp
  have hsl := RepC.sl (P := P) (S := fun b o => S b o ∨ (b = w.heap.size ∧ o < l.length)) (w := w.drew.alloc (.cells C e (C.size, C.size + 1))) ow (tag := none) (e := e) (b := w.heap.size) (o := 0) (cap := grownCap w l.length 0 e)
    (reps_bytes l) (fun x hx => by
      obtain ⟨b, _, rfl⟩ := List.mem_map.1 hx
      rw [h1]; rfl) ?_ ?_ ?_ (TagOk.none_ _ _ _ _)
  · rw [hlen] at hsl; exact hsl
  · intro j u hu
    have hj : j < l.length := by
      rcases Nat.lt_or_ge j l.length with hh | hh
      · exact hh
      · simp [List.getElem?_eq_none (by simpa using hh)] at hu
    rw [Nat.zero_add]
    refine ⟨.inr ⟨rfl, hj⟩, ?_⟩
    have hq : (w.drew.alloc (.cells C e (C.size, C.size + 1))).heap[w.heap.size]? = some (.cells C e (C.size, C.size + 1)) := heap_alloc_new w.drew _
    rw [cell_of_row _ _ _ _ _ _ hq, ← hC, bytesRow_at _ _ _ (by simpa using hj)]
    simpa [hj] using hu
  · rw [hlen]; exact grownCap_ge w l.length 0 e
  · exact grownCap_le_maxLen w l.length 0 e hbig

theorem reps_zero {z : V} {zc : List Value} (hz : RepC P S w noOw z zc) : ∀ (k : Nat), RepCs P S w noOw (List.replicate k z) ((List.replicate k zc).flatten)
  | 0 => .nil _
  | k + 1 => by
    have := RepCs.cons (P := P) (S := S) (w := w) noOw hz (reps_zero hz k)
    simpa [List.replicate_succ] using this

theorem made_flat (zc : Array Value) (k m : Nat) (_h0 : 0 < zc.size) : (madeCells zc ((k + m) * zc.size)).toList = (List.replicate k zc.toList).flatten ++ (madeCells zc (m * zc.size)).toList := by
  induction k with
  | zero => simp
  | succ k ih =>
    rw [List.replicate_succ, List.flatten_cons, List.append_assoc, ← ih]
    unfold madeCells
    simp only [Array.toList_map, Array.toList_range]
    have e : (k + 1 + m) * zc.size = zc.size + (k + m) * zc.size := by
      rw [show k + 1 + m = 1 + (k + m) by omega, Nat.add_mul, Nat.one_mul]
    rw [e, List.range_add, List.map_append, List.map_map]
    congr 1
    · apply List.ext_getElem
      · simp
      · intro i h1 h2
        simp at h1
        simp [Nat.mod_eq_of_lt h1, h1]
    · apply List.map_congr_left
      intro i _
      simp [Nat.add_mod_left]

theorem okElem_spec {e : TypeId} (h : okElem P e = true) : ∃ inf z, P.info? e = some inf ∧ inf.zero = some z ∧ z.cells.size = inf.size ∧ 0 < inf.size ∧ inf.bytes ≤ 2048 ∧ P.cellsOf e = inf.size ∧ inf.size ≤ 4096 := by
  unfold okElem at h
  split at h
  · rename_i inf hi
    simp only [Bool.and_eq_true, decide_eq_true_eq] at h
    obtain ⟨⟨⟨⟨h1, h2⟩, h3⟩, h4⟩, h5⟩ := h
    split at h1
    · rename_i z hz
      exact ⟨inf, z, hi, hz, by simpa using h1, h2, h3, by simp [Program.cellsOf, hi], h5⟩
    · cases h1
  · cases h

theorem good_mk {t e : TypeId} {z : V} {x y : Operand} {x' y' : X} {d : Nat} (hs : Sim P n w0 LX df S0 S bm ow st a w) (hd : OkD df n d) (hdst : o.dst = some d) (ho : o.op = .makeSlice t x y)
    (ht : P.underlying t = some (.slice e)) (hz : zero? P e = some z) (hok : okElem P e = true) (hx : cX x = some x') (hy : cX y = some y')
    (h : step1 E (.mk d e z x' y') st = some st') (Q : Exit → Act → World → Prop) : o.wp P a w (SimE P n w0 LX df S0 st') Q := by
  obtain ⟨e', es, h1, h2, rfl⟩ := stepK_N h
  simp only [PO.args, List.map_cons, List.map_nil] at h2
  cases hc : x'.ev st <;> simp only [hc] at h2 <;> try cases h2
  rename_i k1 q
  cases hc2 : y'.ev st <;> simp only [hc2] at h2 <;> try cases h2
  rename_i k2 c
  split at h2
  · rename_i hqc
    simp only [Option.some.injEq, Prod.mk.injEq] at h2
    obtain ⟨rfl, rfl⟩ := h2
    have e1 := int_ev hs hx hc
    have e2 := int_ev hs hy hc2
    obtain ⟨inf, zv, q1, q2, q3, q4, q5, q6, q7⟩ := okElem_spec hok
    obtain ⟨zv', inf', r1, r2, r3, _⟩ := zero_rep (S := S) (w := w) hz
    obtain rfl : inf' = inf := Option.some.inj (r1.symm.trans q1)
    obtain rfl : zv' = zv := Option.some.inj (r2.symm.trans q2)
    have hbig : c ≤ 68719476736 := hqc.2.2
    have hb : (inf'.bytes : Int) * c ≤ 281474976710656 := by
      have h5 : (inf'.bytes : Int) ≤ 2048 := by omega
      have : (inf'.bytes : Int) * c ≤ 2048 * 68719476736 := Int.mul_le_mul h5 hbig (by omega) (by omega)
      omega
    have hrun := run_make (P := P) w t e inf' zv' ht q1 q2 k1 k2 q c hqc.1 hqc.2.1 hb (by omega)
    refine wp_value (by simp only [execOp, ho, e1, e2, Sem.run_bind, hrun, Result.andThen_ok]; rfl) ?_
    rw [hdst]
    have hfl := made_flat zv'.cells q.toNat (c.toNat - q.toNat) (by omega)
    rw [show q.toNat + (c.toNat - q.toNat) = c.toNat by omega] at hfl
    have hcs : (.cells (madeCells zv'.cells (c.toNat * inf'.size)) e : Obj) = .cells ((List.replicate q.toNat zv'.cells.toList).flatten ++ (madeCells zv'.cells ((c.toNat - q.toNat) * zv'.cells.size)).toList).toArray e := by
      rw [← hfl, q3]
    rw [hcs]
    have hrep := reps_zero r3 q.toNat
    have hwz : ∀ x ∈ List.replicate q.toNat z, width P x = P.cellsOf e := fun x hx => by
      rw [(List.mem_replicate.1 hx).2, ← r3.len, q6, Array.length_toList, q3]
    have := hs.newRow (d := d) hd (e := e) (es := List.replicate q.toNat z) (rest := (madeCells zv'.cells ((c.toNat - q.toNat) * zv'.cells.size)).toList) (c := c.toNat) h1 hrep hwz
      (by rw [← hfl, Array.length_toList, size_madeCells, q3, q6]) (by simp; omega) (by unfold maxLen; omega)
    simpa using this
  · cases h2

/-- A row that may be written. -/
theorem good_mm {t e : TypeId} {z : V} {x y : Operand} {x' y' : X} {d : Nat} (hs : Sim P n w0 LX df S0 S bm ow st a w) (hd : OkD df n d) (hdst : o.dst = some d) (ho : o.op = .makeSlice t x y)
    (ht : P.underlying t = some (.slice e)) (hz : zero? P e = some z) (hok : okElem P e = true) (hx : cX x = some x') (hy : cX y = some y')
    (h : step1 E (.mm d e z x' y') st = some st') (Q : Exit → Act → World → Prop) : o.wp P a w (SimE P n w0 LX df S0 st') Q := by
  obtain ⟨ct, h1, h2, rfl⟩ := stepK_A h
  simp only [PO.args, List.map_cons, List.map_nil] at h2
  cases hc : x'.ev st <;> simp only [hc] at h2 <;> try cases h2
  rename_i k1 q
  cases hc2 : y'.ev st <;> simp only [hc2] at h2 <;> try cases h2
  rename_i k2 c
  split at h2
  · rename_i hqc
    simp only [Option.some.injEq] at h2
    obtain rfl := h2
    obtain ⟨hq0, rfl, hbig0⟩ := hqc
    have e1 := int_ev hs hx hc
    have e2 := int_ev hs hy hc2
    obtain ⟨inf, zv, q1, q2, q3, q4, q5, q6, q7⟩ := okElem_spec hok
    obtain ⟨zv', inf', r1, r2, r3, _⟩ := zero_rep (S := S) (w := w) hz
    obtain rfl : inf' = inf := Option.some.inj (r1.symm.trans q1)
    obtain rfl : zv' = zv := Option.some.inj (r2.symm.trans q2)
    have hbig : q ≤ 68719476736 := hbig0
    have hb : (inf'.bytes : Int) * q ≤ 281474976710656 := by
      have h5 : (inf'.bytes : Int) ≤ 2048 := by omega
      have : (inf'.bytes : Int) * q ≤ 2048 * 68719476736 := Int.mul_le_mul h5 hbig (by omega) (by omega)
      omega
    have hrun := run_make (P := P) w t e inf' zv' ht q1 q2 k1 k2 q q hq0 (Int.le_refl _) hb (by omega)
    refine wp_value (by simp only [execOp, ho, e1, e2, Sem.run_bind, hrun, Result.andThen_ok]; rfl) ?_
    rw [hdst]
    have hfl := made_flat zv'.cells q.toNat 0 (by omega)
    have hrep := reps_zero r3 q.toNat
    have hwz : ∀ x ∈ List.replicate q.toNat z, width P x = P.cellsOf e := fun x hx => by
      rw [(List.mem_replicate.1 hx).2, ← r3.len, q6, Array.length_toList, q3]
    have hcl : (madeCells zv'.cells (q.toNat * inf'.size)).toList = (List.replicate q.toNat zv'.cells.toList).flatten := by
      rw [← q3]
      simpa [madeCells] using hfl
    have hle : Le S S noOw ow w (w.alloc (.cells (madeCells zv'.cells (q.toNat * inf'.size)) e)) := ⟨fun _ _ h => h, (Le.alloc (ow := ow) hs.slt _).cell, fun _ _ _ _ h => by cases h⟩
    have hrow : RepC P S (w.alloc (.cells (madeCells zv'.cells (q.toNat * inf'.size)) e)) ow (.agg (rowT + e) (List.replicate q.toNat z)) (madeCells zv'.cells (q.toNat * inf'.size)).toList := by
      rw [hcl]
      exact .row _ (RepCs.mono hrep hle) hwz (by simp; unfold maxLen; omega)
    have g1 := hs.alloc (.cells (madeCells zv'.cells (q.toNat * inf'.size)) e)
    have g2 := g1.addBox hd h1 hs.below.size hs.fresh (BoxAt.ofCells rfl (heap_alloc_new w _) hrow)
    refine ⟨_, _, _, g2.put hd ?_⟩
    rw [show refTo d (.agg (rowT + e) (List.replicate q.toNat z)) = .it d from if_pos (Nat.le_add_right _ _)]
    refine ⟨w.heap.size, _, by simp [upd], by simp [upd]; rfl, .inr ⟨e, _, q.toNat, rfl, ?_, ?_, ?_⟩⟩
    · simp
    · unfold maxLen; omega
    · simp
  · cases h2

end
end Go.Nu
