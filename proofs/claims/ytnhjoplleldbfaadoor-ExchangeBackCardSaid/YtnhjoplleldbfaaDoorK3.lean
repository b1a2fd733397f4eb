/-
  Plain functions out of code: shapes, typed values, each operation and its soundness. No condition.
-/
import Derived.Test.YtnhjoplleldbfaaDoorK2
/-
  D, text 1: typed plain values, and an evaluator of plain code whose runs are texts of plain functions. It speaks of no statement of its own; nothing here is trusted.
-/
namespace Go.Nu
open Go Go.RowKit

@[irreducible] def andI (k : IntKind) (a b : Int) : Int := k.wrap (BitVec.ofInt k.bits a &&& BitVec.ofInt k.bits b).toNat
@[irreducible] def orI (k : IntKind) (a b : Int) : Int := k.wrap (BitVec.ofInt k.bits a ||| BitVec.ofInt k.bits b).toNat
@[irreducible] def xorI (k : IntKind) (a b : Int) : Int := k.wrap (BitVec.ofInt k.bits a ^^^ BitVec.ofInt k.bits b).toNat
@[irreducible] def andNotI (k : IntKind) (a b : Int) : Int := k.wrap (BitVec.ofInt k.bits a &&& ~~~ BitVec.ofInt k.bits b).toNat
@[irreducible] def shlI (k : IntKind) (a b : Int) : Int := k.wrap (a * 2 ^ (min b.toNat k.bits))
@[irreducible] def shrI (k : IntKind) (a b : Int) : Int := a.fdiv (2 ^ (min b.toNat k.bits))

/-- A shape: what a value is made of. The parts of a struct: pair a (pair b c); none: unit. -/
inductive Sh where
  | bool | int (k : IntKind) | byte | str
  | opt (t : TypeId) (s : Sh)
  | sl (e : TypeId) (s : Sh)
  | agg (t : TypeId) (s : Sh)
  | arr (t : TypeId) (s : Sh)
  | tup (s : Sh)
  | rp (s : Sh)
  | fn (f : FuncId) (s : Sh)
  | unit
  | pair (a b : Sh)
  deriving DecidableEq, Inhabited

def den : Sh → Type
  | .bool => Bool
  | .int _ => Int
  | .byte => UInt8
  | .str => List UInt8
  | .opt _ s => Option (den s)
  | .sl _ s => List (den s)
  | .agg _ s => den s
  | .arr _ s => List (den s)
  | .tup s => den s
  | .rp s => den s
  | .fn _ s => den s
  | .unit => Unit
  | .pair a b => den a × den b

def dflt : (s : Sh) → den s
  | .bool => false
  | .int _ => (0 : Int)
  | .byte => (0 : UInt8)
  | .str => ([] : List UInt8)
  | .opt _ s => (none : Option (den s))
  | .sl _ s => ([] : List (den s))
  | .agg _ s => dflt s
  | .arr _ s => ([] : List (den s))
  | .tup s => dflt s
  | .rp s => dflt s
  | .fn _ s => dflt s
  | .unit => ()
  | .pair a b => (dflt a, dflt b)

def headV : List V → V
  | [] => .junk
  | v :: _ => v

def optV (t : TypeId) : Option V → V
  | some v => .iface t v
  | none => .nili

/-- The values of the parts. -/
def toVL : (s : Sh) → den s → List V
  | .bool, b => [.bool b]
  | .int k, n => [.int k n]
  | .byte, b => [byteV b]
  | .str, l => [.str l]
  | .opt t s, x => [optV t (Option.map (fun x => headV (toVL s x)) x)]
  | .sl e s, l => [.sl none e (List.map (fun x => headV (toVL s x)) l)]
  | .agg t s, x => [.agg t (toVL s x)]
  | .arr t s, l => [.agg t (List.map (fun x => headV (toVL s x)) l)]
  | .tup s, x => [.tup (toVL s x)]
  | .rp s, x => [.rp (headV (toVL s x))]
  | .fn f s, x => [.fn f (toVL s x)]
  | .unit, _ => []
  | .pair a b, x => headV (toVL a x.1) :: toVL b x.2

def toV (s : Sh) (x : den s) : V := headV (toVL s x)

/-- A value of a run: typed leaves; what is known of its form stands open. -/
inductive W where
  | v (s : Sh) (x : den s)
  | con (c : V)
  | agg (t : TypeId) (fs : List W)
  | tup (fs : List W)
  | sl (d : Nat) (e : TypeId) (s : Sh) (l : List (den s))
  | rp (w : W)
  | iface (t : TypeId) (w : W)
  | fn (f : FuncId) (caps : List W)
  | itc (l : List UInt8) (pos : Nat)
  | bld (tg : Nat) (t e : TypeId) (l : List UInt8)

mutual
def W.toV : W → V
  | .v s x => Go.Nu.toV s x
  | .con c => c
  | .agg t fs => .agg t (W.toVs fs)
  | .tup fs => .tup (W.toVs fs)
  | .sl d e s l => .sl (some d) e (l.map (Go.Nu.toV s))
  | .rp w => .rp (W.toV w)
  | .iface t w => .iface t (W.toV w)
  | .fn f caps => .fn f (W.toVs caps)
  | .itc l pos => .itc l pos
  | .bld g t e l => .bld g t e l
def W.toVs : List W → List V
  | [] => []
  | w :: ws => W.toV w :: W.toVs ws
end

mutual
/-- A constant. -/
def ofC : V → W
  | .bool b => .v .bool b
  | .int k n => .v (.int k) n
  | .str l => .v .str l
  | .agg t fs => .agg t (ofCs fs)
  | .sl tg e es => match tg, es with
    | none, [] => if e = 0 then .con (.sl none 0 []) else .con (.sl none e [])
    | _, _ => .con (.sl tg e es)
  | .fn f caps => .con (.fn f caps)
  | c => .con c
def ofCs : List V → List W
  | [] => []
  | v :: vs => ofC v :: ofCs vs
end

/-- The parts of a struct. -/
def parts : (s : Sh) → den s → List W
  | .unit, _ => []
  | .pair a b, x => .v a x.1 :: parts b x.2
  | s, x => [.v s x]

/-! ### what an operation gives: under conditions; with names for what it reckons -/

/-- Where a condition does not hold, nothing is said. -/
def gd {β : Type} (c : Prop) [d : Decidable c] (x : Option β) : Option β := if c then x else none
def gdN {β : Type} (a b : Nat) (x : Option β) : Option β := if a = b then x else none
def bnd {α β : Type} (x : α) (K : α → Option β) : Option β := K x
def bindO {α β : Type} (x : Option α) (K : α → Option β) : Option β := match x with
  | some y => K y
  | none => none

inductive Out (α : Type) : Type 1 where
  | no
  | pure (a : α)
  | gd (c : Prop) (d : Decidable c) (o : Out α)
  | gdN (a b : Nat) (o : Out α)
  | lt (β : Type) (x : β) (f : β → Out α)
  | call (β : Type) (x : Option β) (f : β → Out α)
  | ite (b : Bool) (x y : Out α)

def Out.run {α β : Type} : Out α → (α → Option β) → Option β
  | .no, _ => none
  | .pure a, K => K a
  | .gd c d o, K => @Go.Nu.gd β c d (o.run K)
  | .gdN a b o, K => Go.Nu.gdN a b (o.run K)
  | .lt _ x f, K => bnd x fun y => (f y).run K
  | .call _ x f, K => bindO x fun y => (f y).run K
  | .ite b x y, K => cond b (x.run K) (y.run K)

def Out.bind {α β : Type} : Out α → (α → Out β) → Out β
  | .no, _ => .no
  | .pure a, f => f a
  | .gd c d o, f => .gd c d (o.bind f)
  | .gdN a b o, f => .gdN a b (o.bind f)
  | .lt γ x g, f => .lt γ x fun y => (g y).bind f
  | .call γ x g, f => .call γ x fun y => (g y).bind f
  | .ite b x y, f => .ite b (x.bind f) (y.bind f)

def ofO {α : Type} : Option α → Out α
  | some a => .pure a
  | none => .no

abbrev gdo {α : Type} (c : Prop) [d : Decidable c] (o : Out α) : Out α := .gd c d o

/-! ### views -/
def asInt : W → Option (IntKind × Int)
  | .v (.int k) n => some (k, n)
  | .v .byte b => some (.u8, (UInt8.toNat b : Int))
  | _ => none
def asBool : W → Option Bool
  | .v .bool b => some b
  | _ => none
def asStr : W → Option (List UInt8)
  | .v .str l => some l
  | _ => none

/-- A slice's elements. -/
structure SlV where
  e : TypeId
  s : Sh
  l : List (den s)
def asSl : W → Option SlV
  | .v (.sl e s) l => some ⟨e, s, l⟩
  | .sl _ e s l => some ⟨e, s, l⟩
  | _ => none
def asAgg : W → Option (TypeId × List W)
  | .agg t fs => some (t, fs)
  | .v (.agg t s) x => some (t, parts s x)
  | _ => none
def asArr : W → Option (TypeId × SlV)
  | .v (.arr t s) l => some (t, ⟨0, s, l⟩)
  | _ => none

def intD {k : IntKind} (x : den (.int k)) : Int := x
def castD {s s' : Sh} (h : s = s') (x : den s) : den s' := h ▸ x

mutual
def noTag : W → Bool
  | .v _ _ => true
  | .con (.sl (some _) _ _) => false
  | .con (.agg _ _) => false
  | .con (.tup _) => false
  | .con (.iface _ _) => false
  | .con _ => true
  | .agg _ fs => noTags fs
  | .tup fs => noTags fs
  | .sl _ _ _ _ => false
  | .rp _ => true
  | .iface _ w => noTag w
  | .fn _ _ => true
  | .itc _ _ => true
  | .bld _ _ _ _ => true
def noTags : List W → Bool
  | [] => true
  | w :: ws => noTag w && noTags ws
end

/-- Is the value one that is kept in a cell or some cells? -/
def memW : W → Bool
  | .v (.tup _) _ => false
  | .v .unit _ => false
  | .v (.pair _ _) _ => false
  | .v _ _ => true
  | .con c => c.mem
  | .agg _ _ => true
  | .tup _ => false
  | .sl _ _ _ _ => true
  | .rp _ => true
  | .iface _ _ => true
  | .fn _ _ => true
  | .itc _ _ => false
  | .bld _ _ _ _ => false

def fitsW (t : Option TypeId) : W → Bool
  | .v (.agg t' _) _ => t == some t'
  | .v (.arr t' _) _ => t == some t'
  | .agg t' _ => t == some t'
  | .con (.agg t' _) => t == some t'
  | w => t == none && memW w

mutual
def untagW : W → Option W
  | .sl _ e s l => some (.v (.sl e s) l)
  | .con (.sl (some _) e []) => some (.con (.sl none e []))
  | .agg t fs => match untagWs fs with
    | some gs => some (.agg t gs)
    | none => none
  | w => if noTag w then some w else none
def untagWs : List W → Option (List W)
  | [] => some []
  | w :: ws => match untagW w, untagWs ws with
    | some u, some us => some (u :: us)
    | _, _ => none
end

mutual
/-- A value as one of the shape. -/
def pack : (s : Sh) → W → Out (den s)
  | .agg t s, w => match w with
    | .v s' x => if h : s' = .agg t s then .pure (castD h x) else .no
    | .agg t' fs => if t' = t then packs s fs else .no
    | _ => .no
  | .rp s, w => match w with
    | .v s' x => if h : s' = .rp s then .pure (castD h x) else .no
    | .rp w => if noTag w then pack s w else .no
    | _ => .no
  | .fn f s, w => match w with
    | .v s' x => if h : s' = .fn f s then .pure (castD h x) else .no
    | .fn g caps => if g = f ∧ noTags caps = true then packs s caps else .no
    | .con (.fn g []) => if g = f then packs s [] else .no
    | _ => .no
  | .tup s, w => match w with
    | .v s' x => if h : s' = .tup s then .pure (castD h x) else .no
    | .tup fs => packs s fs
    | _ => .no
  | .byte, w => match w with
    | .v s' x => if h : s' = .byte then .pure (castD h x) else match s', x with
      | .int .u8, n => gdo ((0 : Int) ≤ intD n ∧ intD n < (256 : Int)) (.pure (UInt8.ofNat (Int.toNat (intD n))))
      | _, _ => .no
    | _ => .no
  | .int k, w => match w with
    | .v s' x => if h : s' = .int k then .pure (castD h x) else match s', k with
      | .byte, .u8 => .pure ((UInt8.toNat x : Nat) : Int)
      | _, _ => .no
    | _ => .no
  | .sl e s, w => match w with
    | .v s' x => if h : s' = .sl e s then .pure (castD h x) else .no
    | .sl _ e' s' l => if h : e' = e ∧ s' = s then .pure (castD (s := .sl e s') (s' := .sl e s) (by rw [h.2]) l) else .no
    | .con (.sl _ e' []) => if e' = e then .pure ([] : List (den s)) else .no
    | _ => .no
  | .opt t s, w => match w with
    | .v s' x => if h : s' = .opt t s then .pure (castD h x) else .no
    | .con .nili => .pure (none : Option (den s))
    | .iface t' w => if t' = t then (if noTag w then (pack s w).bind fun x => .pure (some x : Option (den s)) else .no) else .no
    | _ => .no
  | s, w => match w with
    | .v s' x => if h : s' = s then .pure (castD h x) else .no
    | _ => .no
def packs : (s : Sh) → List W → Out (den s)
  | .unit, ws => match ws with
    | [] => .pure ()
    | _ => .no
  | .pair a b, ws => match ws with
    | w :: ws => (pack a w).bind fun x => (packs b ws).bind fun y => .pure (x, y)
    | [] => .no
  | .sl e s, ws => match ws with
    | [w] => match w with
      | .v s' x => if h : s' = .sl e s then .pure (castD h x) else .no
      | .sl _ e' s' l => if h : e' = e ∧ s' = s then .pure (castD (s := .sl e s') (s' := .sl e s) (by rw [h.2]) l) else .no
      | .con (.sl _ e' []) => if e' = e then .pure ([] : List (den s)) else .no
      | _ => .no
    | _ => .no
  | .agg t s, ws => match ws with
    | [w] => match w with
      | .v s' x => if h : s' = .agg t s then .pure (castD h x) else .no
      | .agg t' fs => if t' = t then packs s fs else .no
      | _ => .no
    | _ => .no
  | s, ws => match ws with
    | [w] => match s, w with
      | s, .v s' x => if h : s' = s then .pure (castD h x) else .no
      | _, _ => .no
    | _ => .no
end

end Go.Nu
/-
  D, text 2: the states of a run; one operation; the code with marks at loops and joins; the evaluator.
-/
namespace Go.Nu
open Go Go.RowKit

inductive Wr where
  | s (i : Nat) | b (i : Nat) | f (i : Nat)
  deriving DecidableEq

def Wr.same : Wr → Wr → Bool
  | .s i, .s j => Nat.beq i j
  | .b i, .b j => Nat.beq i j
  | .f i, .f j => Nat.beq i j
  | _, _ => false
def inW (w : Wr) : List Wr → Bool
  | [] => false
  | x :: l => w.same x || inW w l
def subW : List Wr → List Wr → Bool
  | [], _ => true
  | x :: l, k => inW x k && subW l k

structure WSt where
  s : List (Nat × W)
  bx : List (Nat × W)
  fr : List (Nat × (TypeId × Nat))
  log : List Wr

def lu {α : Type} : List (Nat × α) → Nat → Option α
  | [], _ => none
  | (j, a) :: l, i => match Nat.beq i j with
    | true => some a
    | false => lu l i
def ins {α : Type} : List (Nat × α) → Nat → α → List (Nat × α)
  | [], d, a => [(d, a)]
  | (j, b) :: l, d, a => match Nat.beq d j with
    | true => (j, a) :: l
    | false => (j, b) :: ins l d a

/-- What an operation turns. -/
structure Dl where
  s : Option (Nat × W)
  b : Option (Nat × W)
  f : Option (Nat × (TypeId × Nat))

def insO {α : Type} (l : List (Nat × α)) : Option (Nat × α) → List (Nat × α)
  | some (d, a) => ins l d a
  | none => l
def Dl.log (δ : Dl) : List Wr :=
  (match δ.s with | some (d, _) => [.s d] | none => []) ++ (match δ.b with | some (d, _) => [.b d] | none => []) ++ (match δ.f with | some (d, _) => [.f d] | none => [])
def WSt.app (st : WSt) (δ : Dl) : WSt := ⟨insO st.s δ.s, insO st.bx δ.b, insO st.fr δ.f, δ.log ++ st.log⟩

def evX (st : WSt) : X → W
  | .t n => (lu st.s n).getD (.con .junk)
  | .v x => ofC x

/-! ### functions that are called -/
def dens : List Sh → Type
  | [] => Unit
  | [a] => den a
  | a :: b :: l => den a × dens (b :: l)
/-- What a function does beside: nothing; it turns the variable that its argument number k points to (the result is then a pair with what that holds); it returns a new variable; nothing, and the part p of its result number i is surely nil; it is a builder's method. -/
inductive TK where
  | plain
  | lent (k : Nat)
  | new
  | plainN (i : Nat) (p : List Nat)
  | bld (T e : TypeId)
  /-- It may panic, with an empty struct of type T; the shape of its results is .opt _ s: none: it panics. -/
  | may (T : TypeId)
structure TEnt where
  f : FuncId
  as : List Sh
  rs : Sh
  F : dens as → Option (den rs)
  kd : TK
def findT : List TEnt → FuncId → Option TEnt
  | [], _ => none
  | t :: l, f => match Nat.beq t.f f with
    | true => some t
    | false => findT l f
/-- An argument or a result: a bare nil fits every slice. -/
def packA (s : Sh) (w : W) : Out (den s) :=
  match w with
  | .con (.sl none _ []) => match s with
    | .sl _ s => .pure ([] : List (den s))
    | _ => .no
  | w => pack s w
def packL : (as : List Sh) → List W → Out (dens as)
  | [], ws => match ws with
    | [] => .pure ()
    | _ => .no
  | [a], ws => match ws with
    | [w] => packA a w
    | _ => .no
  | a :: b :: l, ws => match ws with
    | w :: ws => (packA a w).bind fun x => (packL (b :: l) ws).bind fun y => .pure (x, y)
    | _ => .no

def argWs : (as : List Sh) → dens as → Nat → List (Nat × W)
  | [], _, _ => []
  | [a], x, i => [(i, .v a x)]
  | a :: b :: l, x, i => (i, .v a x.1) :: argWs (b :: l) x.2 (i + 1)
/-- The argument number k. -/
def argK : (as : List Sh) → dens as → Nat → Option W
  | [], _, _ => none
  | [a], x, k => match k with
    | 0 => some (.v a x)
    | _ + 1 => none
  | a :: b :: l, x, k => match k with
    | 0 => some (.v a x.1)
    | k + 1 => argK (b :: l) x.2 k

/-! ### parts of values -/
def nth {α : Type} : List α → Nat → Option α
  | [], _ => none
  | a :: l, i => match i with
    | 0 => some a
    | i + 1 => nth l i

def atW : W → List Nat → Out W
  | w, [] => .pure w
  | w, i :: p => match asAgg w with
    | some (_, fs) => match nth fs i with
      | some x => atW x p
      | none => .no
    | none => match asArr w with
      | some (_, a) => gdo (i < a.l.length) (atW (.v a.s (a.l.getD i (dflt a.s))) p)
      | none => .no

def setNth {α : Type} : List α → Nat → α → List α
  | [], _, _ => []
  | a :: l, i, x => match i with
    | 0 => x :: l
    | i + 1 => a :: setNth l i x

/-- The part is surely nil. -/
def setNilW : W → List Nat → Out W
  | w, [] => match w with
    | .v (.sl e _) l => .gdN (List.length l) 0 (.pure (.con (.sl (some nilT) e [])))
    | _ => .no
  | w, i :: p => match asAgg w with
    | some (t, fs) => match nth fs i with
      | some x => (setNilW x p).bind fun z => .pure (.agg t (setNth fs i z))
      | none => .no
    | none => .no
def nilsW (rs : Sh) (y : den rs) (i : Nat) (p : List Nat) : Out W :=
  match rs, y with
  | .tup s, y => match nth (parts s y) i with
    | some x => (setNilW x p).bind fun z => .pure (.tup (setNth (parts s y) i z))
    | none => .no
  | _, _ => .no
def callW (T : List TEnt) (f : FuncId) (ws : List W) : Out W :=
  match findT T f with
  | some t => match t.kd with
    | .plain => if ws.all memW then (packL t.as ws).bind fun x => .call _ (t.F x) fun y => .pure (.v t.rs y) else .no
    | .plainN i p => if ws.all memW then (packL t.as ws).bind fun x => .call _ (t.F x) fun y => nilsW t.rs y i p else .no
    | _ => .no
  | none => .no

/-- Shapes without arrays: their values are alike. -/
def flat : Sh → Bool
  | .arr _ _ => false
  | .agg _ s => flat s
  | .pair a b => flat a && flat b
  | _ => true

def single : Sh → Bool
  | .unit | .pair _ _ => false
  | _ => true
/-- Do both values have the same form? -/
def likeO : (s : Sh) → den s → den s → Out Unit
  | .arr _ s, l, l' => if flat s then .gdN (List.length l) (List.length l') (.pure ()) else .no
  | .agg _ s, x, y => likeO s x y
  | .pair a b, x, y => (likeO a x.1 y.1).bind fun _ => likeO b x.2 y.2
  | .tup _, _, _ => .no
  | _, _, _ => .pure ()

def isAggW : W → Bool
  | .v (.agg _ _) _ => true
  | .v (.arr _ _) _ => true
  | .v (.pair _ _) _ => true
  | .v _ _ => false
  | .con c => c.isAgg
  | .agg _ _ => true
  | _ => false

mutual
/-- Is it sure that the value may stand where one of the shape stood? -/
def likeS : Sh → W → Bool
  | .agg t s, g => match g with
    | .v s' _ => flat s && s' == .agg t s
    | .agg t' gs => t == t' && likeSL s gs
    | _ => false
  | .arr _ _, _ => false
  | .unit, _ => false
  | .pair _ _, _ => false
  | _, g => !isAggW g
def likeSL : Sh → List W → Bool
  | .unit, gs => gs.isEmpty
  | .pair a b, gs => match gs with
    | g :: gs => likeS a g && likeSL b gs
    | [] => false
  | .agg t s, gs => match gs with
    | [g] => match g with
      | .v s' _ => flat s && s' == .agg t s
      | .agg t' gs => t == t' && likeSL s gs
      | _ => false
    | _ => false
  | .arr _ _, _ => false
  | _, gs => match gs with
    | [g] => !isAggW g
    | _ => false
end
mutual
/-- Is it sure that the value may stand where the other stood? -/
def likeW : W → W → Bool
  | .v s _, y => likeS s y
  | .con c, y => !c.isAgg && !isAggW y
  | .agg t fs, y => match y with
    | .agg t' gs => t == t' && likeWs fs gs
    | .v (.agg t' s) x => t == t' && likeWs fs (parts s x)
    | _ => false
  | _, y => !isAggW y
def likeWs : List W → List W → Bool
  | [], gs => match gs with
    | [] => true
    | _ => false
  | f :: fs, gs => match gs with
    | g :: gs => likeW f g && likeWs fs gs
    | [] => false
end

/-- The content with another part at the path. -/
def setW : W → List Nat → W → Out W
  | w, [], y => if likeW w y then .pure y else .no
  | w, i :: p, y => match asAgg w with
    | some (t, fs) => match nth fs i with
      | some x => (setW x p y).bind fun z => .pure (.agg t (setNth fs i z))
      | none => .no
    | none => match asArr w with
      | some (t, a) => gdo (i < a.l.length) ((setW (.v a.s (a.l.getD i (dflt a.s))) p y).bind fun z => if noTag z then (pack a.s z).bind fun u => .pure (.v (.arr t a.s) (a.l.set i u)) else .no)
      | none => .no

/-! ### the operations on values -/
def mkI (k : IntKind) (n : Int) : Out W := .lt Int n fun n => .pure (.v (.int k) n)
def mkB (b : Bool) : Out W := .pure (.v .bool b)
def mkS (l : List UInt8) : Out W := .lt (List UInt8) l fun l => .pure (.v .str l)

def arI (op : BinOp) (k : IntKind) (a : Int) (k' : IntKind) (b : Int) : Out W :=
  match op with
  | .shl => gdo (0 ≤ b) (mkI k (shlI k a b))
  | .shr => gdo (0 ≤ b) (mkI k (shrI k a b))
  | op => if k = k' then
      match op with
      | .add => mkI k (k.wrap (a + b))
      | .sub => mkI k (k.wrap (a - b))
      | .mul => mkI k (k.wrap (a * b))
      | .quo => gdo (b ≠ 0) (mkI k (k.wrap (a.tdiv b)))
      | .rem => gdo (b ≠ 0) (mkI k (a.tmod b))
      | .and => mkI k (andI k a b)
      | .or => mkI k (orI k a b)
      | .xor => mkI k (xorI k a b)
      | .andNot => mkI k (andNotI k a b)
      | .eql => mkB (decide (a = b))
      | .neq => mkB (!decide (a = b))
      | .lss => mkB (decide (a < b))
      | .leq => mkB (decide (a ≤ b))
      | .gtr => mkB (decide (b < a))
      | .geq => mkB (decide (b ≤ a))
      | _ => .no
    else .no
def arS (op : BinOp) (a b : List UInt8) : Out W :=
  match op with
  | .add => gdo (a.length + b.length ≤ big) (mkS (a ++ b))
  | .eql => mkB (decide (a = b))
  | .neq => mkB (!decide (a = b))
  | .lss => mkB (Op.bytesLess a b)
  | .leq => mkB (Op.bytesLess a b || decide (a = b))
  | .gtr => mkB (!(Op.bytesLess a b || decide (a = b)))
  | .geq => mkB (!(Op.bytesLess a b))
  | _ => .no
def arW (op : BinOp) (x y : W) : Out W :=
  match asInt x, asInt y with
  | some (k, a), some (k', b) => arI op k a k' b
  | _, _ => match asStr x, asStr y with
    | some a, some b => arS op a b
    | _, _ => .no

def unW (op : UnOp) (x : W) : Out W :=
  match op with
  | .not => match asBool x with
    | some b => mkB (!b)
    | none => .no
  | .neg => match asInt x with
    | some (k, n) => mkI k (k.wrap (0 - n))
    | none => .no
  | _ => .no

def lenW (e : Option TypeId) (x : W) (st : WSt) : Out W :=
  match e with
  | none => match asStr x with
    | some l => .pure (.v (.int .i64) (l.length : Int))
    | none => .no
  | some e => match x with
    | .con (.it d) => match (lu st.bx d).bind asArr with
      | some (t, a) => if t = rowT + e then .pure (.v (.int .i64) (a.l.length : Int)) else .no
      | none => .no
    | .con (.sl _ _ []) => .pure (.v (.int .i64) (0 : Int))
    | x => match asSl x with
      | some a => .pure (.v (.int .i64) (a.l.length : Int))
      | none => .no

def ixW (x i : W) : Out W :=
  match asStr x, asInt i with
  | some l, some (_, i) => gdo (0 ≤ i ∧ i < (l.length : Int)) (.pure (.v .byte (l.getD i.toNat 0)))
  | _, _ => .no

def eaW (e : TypeId) (x i : W) (st : WSt) : Out W :=
  match asInt i with
  | none => .no
  | some (_, i) => match x with
    | .con (.it d) => match (lu st.bx d).bind asArr with
      | some (t, a) => if t = rowT + e then gdo (0 ≤ i ∧ i < (a.l.length : Int)) (.pure (.con (.rf d [i.toNat]))) else .no
      | none => .no
    | x => match asSl x with
      | some a => if a.e = e then gdo (0 ≤ i ∧ i < (a.l.length : Int)) (.pure (.rp (.v a.s (a.l.getD i.toNat (dflt a.s))))) else .no
      | none => .no

def openRp : W → Option W
  | .rp w => some w
  | .v (.rp s) x => some (.v s x)
  | _ => none

def faW (t : TypeId) (f : Nat) (x : W) (st : WSt) : Out W :=
  match openRp x with
  | some w => match asAgg w with
    | some (t', fs) => if t' = t then ofO ((nth fs f).map W.rp) else .no
    | none => .no
  | none => match x with
    | .con (.rf d p) => match lu st.bx d with
      | some c => (atW c p).bind fun w => match asAgg w with
        | some (t', fs) => if t' = t then (if f < fs.length then .pure (.con (.rf d (p ++ [f]))) else .no) else .no
        | none => .no
      | none => .no
    | _ => .no

def aaW (t : TypeId) (x i : W) (st : WSt) : Out W :=
  match asInt i with
  | none => .no
  | some (_, i) => match openRp x with
    | some w => match asArr w with
      | some (t', a) => if t' = t then gdo (0 ≤ i ∧ i < (a.l.length : Int)) (.pure (.rp (.v a.s (a.l.getD i.toNat (dflt a.s))))) else .no
      | none => .no
    | none => match x with
      | .con (.rf d p) => match lu st.bx d with
        | some c => (atW c p).bind fun w => match asArr w with
          | some (t', a) => if t' = t then gdo (0 ≤ i ∧ i < (a.l.length : Int)) (.pure (.con (.rf d (p ++ [i.toNat])))) else .no
          | none => .no
        | none => .no
      | _ => .no

def fdW (t : TypeId) (f : Nat) (tt : Option TypeId) (x : W) : Out W :=
  match asAgg x with
  | some (t', fs) => if t' = t then match nth fs f with
      | some w => if fitsW tt w then .pure w else .no
      | none => .no
    else .no
  | none => .no

def ldW (t : Option TypeId) (x : W) (st : WSt) : Out W :=
  match openRp x with
  | some w => if fitsW t w then .pure w else .no
  | none => match x with
    | .con (.rf d p) => match lu st.bx d with
      | some c => (atW c p).bind fun w => if fitsW t w then .pure w else .no
      | none => .no
    | _ => .no

def noRow : W → Bool
  | .v (.arr t _) _ => decide (¬ rowT ≤ t)
  | .v (.agg t _) _ => decide (¬ rowT ≤ t)
  | .agg t _ => decide (¬ rowT ≤ t)
  | .con (.agg t _) => decide (¬ rowT ≤ t)
  | _ => true

def lo? (x : Option W) : Option (Option Int) := match x with
  | none => some none
  | some w => match asInt w with
    | some (_, i) => some (some i)
    | none => none

/-- A part of a list. -/
def cutL {α : Type} (l : List α) (lo hi : Option Int) (k : List α → W) : Out W :=
  match lo, hi with
  | none, none => .lt _ l fun l => .pure (k l)
  | some a, none => gdo (0 ≤ a ∧ a ≤ (l.length : Int)) (.lt _ (l.drop a.toNat) fun l => .pure (k l))
  | none, some b => gdo (0 ≤ b ∧ b ≤ (l.length : Int)) (.lt _ (l.take b.toNat) fun l => .pure (k l))
  | some a, some b => gdo (0 ≤ a ∧ a ≤ b ∧ b ≤ (l.length : Int)) (.lt _ ((l.take b.toNat).drop a.toNat) fun l => .pure (k l))

def scW (e : Option TypeId) (x : W) (lo hi : Option W) : Out W :=
  match lo? lo, lo? hi with
  | some lo, some hi => match e with
    | none => match asStr x with
      | some l => cutL l lo hi (fun l => .v .str l)
      | none => .no
    | some e => match asSl x with
      | some a => if a.e = e then cutL a.l lo hi (fun l => .v (.sl a.e a.s) l) else .no
      | none => .no
  | _, _ => .no

def saW (t e : TypeId) (x : W) (lo hi : Option W) : Out W :=
  match lo? lo, lo? hi, openRp x with
  | some lo, some hi, some w => match asArr w with
    | some (t', a) => if t' = t then cutL a.l lo hi (fun l => .v (.sl e a.s) l) else .no
    | none => .no
  | _, _, _ => .no

/-- The shape of an element type, as the run is told. -/
def shOf (SH : List (TypeId × Sh)) (t : TypeId) : Sh := (lu SH t).getD .unit

/-- A value of a scalar shape out of a constant. -/
def decV : (s : Sh) → V → Option (den s)
  | .bool, .bool b => some b
  | .int k, .int k' n => if k' = k then some n else none
  | .byte, .int .u8 n => if 0 ≤ n ∧ n < 256 then some (UInt8.ofNat n.toNat) else none
  | .str, .str l => some l
  | .sl e s, .sl none e' [] => if e' = e then some ([] : List (den s)) else none
  | _, _ => none
def decVs (s : Sh) : List V → Option (List (den s))
  | [] => some []
  | v :: vs => match decV s v, decVs s vs with
    | some x, some l => some (x :: l)
    | _, _ => none

mutual
/-- A constant, by the shapes of its types. -/
def cstW (SH : List (TypeId × Sh)) : V → W
  | .agg t fs => match lu SH t with
    | some (.arr t' s) => if t' = t then (match decVs s fs with
      | some l => .v (.arr t s) l
      | none => .con (.agg t fs)) else .con (.agg t fs)
    | _ => .agg t (cstWs SH fs)
  | .sl none e es => match es with
    | [] => .v (.sl e (shOf SH e)) ([] : List (den (shOf SH e)))
    | es => .con (.sl none e es)
  | c => ofC c
def cstWs (SH : List (TypeId × Sh)) : List V → List W
  | [] => []
  | v :: vs => cstW SH v :: cstWs SH vs
end

def setWs (fs : List W) : List Nat → List W → Option (List W)
  | [], ws => match ws with
    | [] => some fs
    | _ => none
  | i :: is, ws => match ws with
    | x :: xs => match nth fs i with
      | some f => if likeW f x && memW x then setWs (setNth fs i x) is xs else none
      | none => none
    | [] => none

def packAll (s : Sh) : List W → Out (List (den s))
  | [] => .pure []
  | w :: ws => (pack s w).bind fun x => (packAll s ws).bind fun l => .pure (x :: l)

def putD (d : Option Nat) (w : W) : Dl := ⟨d.map (fun d => (d, w)), none, none⟩
def outS (d : Option Nat) (o : Out W) : Out Dl := o.bind fun w => .pure (putD d w)
def refW (d : Nat) : W → W
  | .itc _ _ => .con (.it d)
  | .v (.arr t _) _ => if rowT ≤ t then .con (.it d) else .con (.rf d [])
  | .v (.agg t _) _ => if rowT ≤ t then .con (.it d) else .con (.rf d [])
  | .agg t _ => if rowT ≤ t then .con (.it d) else .con (.rf d [])
  | .con (.agg t _) => if rowT ≤ t then .con (.it d) else .con (.rf d [])
  | .con (.itc _ _) => .con (.it d)
  | _ => .con (.rf d [])
def boxOk : W → Bool
  | .itc _ _ => true
  | c => memW c
def boxD (d : Nat) (st : WSt) (c : W) : Out Dl := match lu st.bx d with
  | some _ => .no
  | none => if boxOk c then .pure ⟨some (d, refW d c), some (d, c), none⟩ else .no
def rowD (d : Nat) (st : WSt) (e : TypeId) (s : Sh) (l : List (den s)) : Out Dl := match lu st.fr d with
  | some _ => .no
  | none => .pure ⟨some (d, .sl d e s l), none, some (d, (e, l.length))⟩

def sureAgg : W → Bool
  | .v (.agg _ _) _ => true
  | .v (.arr _ _) _ => true
  | .con c => c.isAgg
  | .agg _ _ => true
  | _ => false
def isRowS : Sh → Bool
  | .arr t _ => decide (rowT ≤ t)
  | .agg t _ => decide (rowT ≤ t)
  | _ => false
/-- Which box is on loan? -/
def lendW : W → Option (Nat × Bool)
  | .con (.rf b []) => some (b, false)
  | .con (.it b) => some (b, true)
  | _ => none
/-- A call that turns a box: the box, what it holds then, the result. -/
def resL (rs : Sh) (y : den rs) (s : Sh) (x : den s) (b : Nat) : Out (Nat × W × W) :=
  match rs, y with
  | .pair r s', y => if h : s' = s then (likeO s x (castD h y.2)).bind fun _ => .pure (b, .v s (castD h y.2), .v r y.1) else .no
  | _, _ => .no
def cbW (T : List TEnt) (f : FuncId) (ws : List W) (bx : List (Nat × W)) : Out (Nat × W × W) :=
  match findT T f with
  | some t => match t.kd with
    | .lent k => match (nth ws k).bind lendW with
      | some (b, row) => match lu bx b with
        | some cw => if sureAgg cw && (setNth ws k cw).all memW then
            (packL t.as (setNth ws k cw)).bind fun x => match argK t.as x k with
              | some (.v s xk) => if isRowS s == row && single s then .call _ (t.F x) fun y => resL t.rs y s xk b else .no
              | _ => .no
          else .no
        | none => .no
      | none => .no
    | _ => .no
  | none => .no
def cnW (T : List TEnt) (f : FuncId) (ws : List W) : Out W :=
  match findT T f with
  | some t => match t.kd with
    | .new => if ws.all memW then (packL t.as ws).bind fun x => .call _ (t.F x) fun y => .pure (.v t.rs y) else .no
    | _ => .no
  | none => .no

/-- Comparing with nil, comparing structs. -/
def isNilI : W → Option Bool
  | .con .nili => some true
  | .v (.opt _ _) o => some (Option.isNone o)
  | .iface _ _ => some false
  | _ => none
def isNilP : W → Option Bool
  | .con .nilp => some true
  | .con (.rf _ _) => some false
  | .rp _ => some false
  | .v (.rp _) _ => some false
  | _ => none
def eq1W : Nat → W → W → Option Bool
  | 0, x, y => match asBool x, asBool y with
    | some a, some b => some (a == b)
    | _, _ => none
  | 1, x, y => match asInt x, asInt y with
    | some (k, a), some (k', b) => if k = k' then some (decide (a = b)) else none
    | _, _ => none
  | 2, x, y => match asStr x, asStr y with
    | some a, some b => some (decide (a = b))
    | _, _ => none
  | _, _, _ => none
def eqsW : List Nat → List W → List W → Option Bool
  | [], [], [] => some true
  | k :: ks, x :: xs, y :: ys => match eq1W k x y, eqsW ks xs ys with
    | some a, some b => some (a && b)
    | _, _ => none
  | _, _, _ => none
def eqW : EqK → W → W → Option Bool
  | .ifc, x, .con .nili => isNilI x
  | .ifc, .con .nili, y => isNilI y
  | .ptr, x, .con .nilp => isNilP x
  | .ptr, .con .nilp, y => isNilP y
  | .st ks, x, y => match asAgg x, asAgg y with
    | some (_, us), some (_, vs) => eqsW ks us vs
    | _, _ => none
  | _, _, _ => none

def byteD (x : den .byte) : UInt8 := x
/-- A builder's methods. -/
def bldW (k : BK) (l : List UInt8) (ws : List W) : Out (List UInt8 × W) :=
  match k, ws with
  | .wstr, [w] => match asStr w with
    | some s => gdo (l.length + s.length ≤ big) (.lt (List UInt8) (l ++ s) fun l' => .pure (l', .tup [.v (.int .i64) (s.length : Int), .con .nili]))
    | none => .no
  | .wbyte, [w] => match w with
    | .v .byte b => gdo (l.length + 1 ≤ big) (.lt (List UInt8) (l ++ [byteD b]) fun l' => .pure (l', .con .nili))
    | .v (.int .u8) n => gdo ((0 : Int) ≤ intD n ∧ intD n < (256 : Int)) (gdo (l.length + 1 ≤ big) (.lt (List UInt8) (l ++ [UInt8.ofNat (Int.toNat (intD n))]) fun l' => .pure (l', .con .nili)))
    | _ => .no
  | .str, [] => .pure (l, .v .str l)
  | .len, [] => .pure (l, .v (.int .i64) (l.length : Int))
  | _, _ => .no
def cwW (T : List TEnt) (d : Option Nat) (f : FuncId) (k : BK) (ws : List W) (st : WSt) : Out Dl :=
  match findT T f with
  | some t => match t.kd with
    | .bld ty e => match ws with
      | .con (.rf b []) :: ws => match lu st.bx b with
        | some (.bld tg ty' e' l) => match lu st.fr tg with
          | some (e2, n) => if (ty' = ty ∧ e' = e) ∧ e2 = e ∧ b ≠ lentT ∧ isBld tg = true then
              .gdN n l.length ((bldW k l ws).bind fun x => .pure ⟨d.map (fun d => (d, x.2)), some (b, .bld tg ty e x.1), some (tg, (e, x.1.length))⟩)
            else .no
          | none => .no
        | _ => .no
      | _ => .no
    | _ => .no
  | none => .no

/-- A reference to none of these boxes; to this box. -/
def offW (bs : List Nat) : W → Bool
  | .con (.rf id _) => !bs.contains id
  | .rp _ => true
  | .v (.rp _) _ => true
  | _ => false
def onW (b : Nat) : W → Bool
  | .con (.rf id _) => Nat.beq id b
  | _ => false

def opW (T : List TEnt) (SH : List (TypeId × Sh)) (po : PO) (st : WSt) : Out Dl :=
  match po with
  | .mv d x => outS d (.pure (evX st x))
  | .nl d e => rowD d st e (shOf SH e) []
  | .pick d c a b => match asBool (evX st c) with
    | some c => .ite c (.pure (putD (some d) (evX st a))) (.pure (putD (some d) (evX st b)))
    | none => .no
  | .ar d op x y => outS (some d) (arW op (evX st x) (evX st y))
  | .eb d neg x y => match asBool (evX st x), asBool (evX st y) with
    | some a, some b => outS (some d) (mkB (if neg then !(a == b) else a == b))
    | _, _ => .no
  | .se d k neg x y => match eqW k (evX st x) (evX st y) with
    | some b => outS (some d) (mkB (if neg then !b else b))
    | none => .no
  | .mn d mx x y => match asInt (evX st x), asInt (evX st y) with
    | some (k, a), some (k', b) => if k = k' then outS (some d) (mkI k (if mx then max a b else min a b)) else .no
    | _, _ => .no
  | .un d op x => outS (some d) (unW op (evX st x))
  | .ln d e x => outS (some d) (lenW e (evX st x) st)
  | .ix d x i => outS (some d) (ixW (evX st x) (evX st i))
  | .ea d e x i => outS (some d) (eaW e (evX st x) (evX st i) st)
  | .fa d t f x => outS (some d) (faW t f (evX st x) st)
  | .aa d t x i => outS (some d) (aaW t (evX st x) (evX st i) st)
  | .fd d t f tt x => outS (some d) (fdW t f tt (evX st x))
  | .ld d t x => outS (some d) (ldW t (evX st x) st)
  | .st t x y => match evX st x with
    | .con (.rf d p) => match lu st.bx d with
      | some c => if fitsW t (evX st y) && memW (evX st y) && memW c then (setW c p (evX st y)).bind fun c' => .pure ⟨none, some (d, c'), none⟩ else .no
      | none => .no
    | _ => .no
  | .lx bs d t x => if offW bs (evX st x) then outS (some d) (ldW t (evX st x) st) else .no
  | .fx bs d t f x => if offW bs (evX st x) then outS (some d) (faW t f (evX st x) st) else .no
  | .gx d e x i => match asInt (evX st i), asSl (evX st x) with
    | some (_, i), some a => if a.e = e then outS (some d) (gdo (0 ≤ i ∧ i < (a.l.length : Int)) (.pure (.rp (.v a.s (a.l.getD i.toNat (dflt a.s)))))) else .no
    | _, _ => .no
  | .sx b t x y => if onW b (evX st x) then match evX st x with
    | .con (.rf d p) => match lu st.bx d with
      | some c => if fitsW t (evX st y) && memW (evX st y) && memW c then (setW c p (evX st y)).bind fun c' => .pure ⟨none, some (d, c'), none⟩ else .no
      | none => .no
    | _ => .no else .no
  | .bx d t x => if fitsW t (evX st x) && memW (evX st x) && noRow (evX st x) then boxD d st (evX st x) else .no
  | .al d z => if noRow (cstW SH z) then boxD d st (cstW SH z) else .no
  | .bs d e t xs => if (xs.map (evX st)).all (fun w => fitsW t w && memW w) then (packAll (shOf SH e) (xs.map (evX st))).bind fun l => rowD d st e (shOf SH e) l else .no
  | .bd d t z is xs => match setWs (cstWs SH z) is (xs.map (evX st)) with
    | some fs => .pure (putD (some d) (.agg t fs))
    | none => .no
  | .mk d e z n c => match asInt (evX st n), asInt (evX st c) with
    | some (_, n), some (_, c) => gdo (0 ≤ n ∧ n ≤ c ∧ c ≤ big) ((if noTag (cstW SH z) then pack (shOf SH e) (cstW SH z) else .no).bind fun z => rowD d st e (shOf SH e) (List.replicate n.toNat z))
    | _, _ => .no
  | .mm d e z n c => match asInt (evX st n), asInt (evX st c) with
    | some (_, n), some (_, c) => gdo (0 ≤ n ∧ n = c ∧ c ≤ big) ((if noTag (cstW SH z) then pack (shOf SH e) (cstW SH z) else .no).bind fun z => boxD d st (.v (.arr (rowT + e) (shOf SH e)) (List.replicate n.toNat z)))
    | _, _ => .no
  | .ap d e x y => match evX st x with
    | .sl id e' s l => if okRow id = true ∧ e' = e then match lu st.fr id with
        | some (e'', n) => if e'' = e then
            (match evX st y with
            | .con (.sl _ _ []) => .pure ([] : List (den s))
            | y => match asSl y with
              | some b => if h : b.e = e ∧ b.s = s then .pure (castD (s := .sl e b.s) (s' := .sl e s) (by rw [h.2]) b.l) else .no
              | none => .no : Out (List (den s))).bind fun l2 => .gdN n l.length (gdo (l.length + l2.length ≤ big) (.lt _ (l ++ l2) fun l3 => .pure ⟨some (d, .sl id e s l3), none, some (id, (e, l3.length))⟩))
          else .no
        | none => .no
      else .no
    | _ => .no
  | .sc d e x lo hi => outS (some d) (scW e (evX st x) (lo.map (evX st)) (hi.map (evX st)))
  | .sa d t e x lo hi => outS (some d) (saW t e (evX st x) (lo.map (evX st)) (hi.map (evX st)))
  | .cvi d k x => match asInt (evX st x) with
    | some (_, n) => outS (some d) (.pure (.v (.int k) (k.wrap n)))
    | none => .no
  | .cvs d e x => match asStr (evX st x) with
    | some l => gdo (l.length ≤ big) (.pure (putD (some d) (.v (.sl e .byte) l)))
    | none => .no
  | .cvb d x => match asSl (evX st x) with
    | some ⟨_, .byte, l⟩ => .pure (putD (some d) (.v .str l))
    | _ => .no
  | .cvS d x => match asStr (evX st x) with
    | some l => .pure (putD (some d) (.v .str l))
    | none => .no
  | .mi d t x => if memW (evX st x) then match untagW (evX st x) with
      | some w => .pure (putD (some d) (.iface t w))
      | none => .no
    else .no
  | .ex d i x => match evX st x with
    | .tup fs => ofO ((nth fs i).map fun w => putD (some d) w)
    | .v (.tup s) y => ofO ((nth (parts s y) i).map fun w => putD (some d) w)
    | _ => .no
  | .ca d f xs => outS d (callW T f (xs.map (evX st)))
  | .cd d f xs => match evX st f with
    | .fn f caps => if noTags caps then outS d (callW T f (xs.map (evX st) ++ caps)) else .no
    | .con (.fn f caps) => if noTags (caps.map .con) then outS d (callW T f (xs.map (evX st) ++ caps.map .con)) else .no
    | .v (.fn f s) x => outS d (callW T f (xs.map (evX st) ++ parts s x))
    | _ => .no
  | .mf d f xs => if (xs.map (evX st)).all (fun w => memW w && !isAggW w) = true ∧ noTags (xs.map (evX st)) = true then .pure (putD (some d) (.fn f (xs.map (evX st)))) else .no
  | .cb d f xs => (cbW T f (xs.map (evX st)) st.bx).bind fun o => .pure ⟨d.map (fun d => (d, o.2.2)), some (o.1, o.2.1), none⟩
  | .cn d f xs => (cnW T f (xs.map (evX st))).bind fun w => boxD d st w
  | .ab d t e => match lu st.bx d, lu st.fr (bldT + d) with
    | none, none => if d < lentT then .pure ⟨some (d, .con (.rf d [])), some (d, .bld (bldT + d) t e []), some (bldT + d, (e, 0))⟩ else .no
    | _, _ => .no
  | .cw d f k xs => cwW T d f k (xs.map (evX st)) st
  | .nc d x => match evX st x with
    | .rp w => .pure (putD d (.rp w))
    | .v (.rp s) x => .pure (putD d (.v (.rp s) x))
    | .con (.rf i p) => .pure (putD d (.con (.rf i p)))
    | .con (.fn f caps) => .pure (putD d (.con (.fn f caps)))
    | .fn f caps => .pure (putD d (.fn f caps))
    | .v (.fn f s) x => .pure (putD d (.v (.fn f s) x))
    | _ => .no
  | .rg d x => match asStr (evX st x) with
    | some l => boxD d st (.itc l 0)
    | none => .no
  | .nx d x => match evX st x with
    | .con (.it b) => match lu st.bx b with
      | some (.itc l pos) => .ite (decide (pos < l.length))
          (.pure ⟨some (d, .tup [.v .bool true, .v (.int .i64) (pos : Int), .v (.int .i32) (((Utf8.decode ⟨l.toArray⟩ pos).1 : Nat) : Int)]), some (b, .itc l (pos + (Utf8.decode ⟨l.toArray⟩ pos).2)), none⟩)
          (.pure ⟨some (d, .tup [.v .bool false]), some (b, .itc l pos), none⟩)
      | _ => .no
    | _ => .no
  | .zs d e => .pure (putD (some d) (.con (.sl (some zerT) e [])))
  | .cx d e x y => match evX st x with
    | .con (.sl (some t) e' []) => if (t = nilT ∨ t = zerT) ∧ e' = e then
        (match asSl (evX st y) with
        | some b => if b.e = e then gdo (0 < b.l.length) (gdo (b.l.length ≤ big) (boxD d st (.v (.arr (rowT + e) b.s) b.l))) else .no
        | none => .no)
      else .no
    | _ => .no
  | .no _ => .no
  | .pn _ => .no

/-! ### joins -/
inductive T where
  | lf (s : Sh)
  | row (d : Nat) (e : TypeId) (s : Sh)
  | agg (t : TypeId) (ts : T)
  | con (c : V)
  | itc
  | bld (tg : Nat) (t e : TypeId)
  | unit
  | pair (a b : T)

def denT : T → Type
  | .lf s => den s
  | .row _ _ s => List (den s)
  | .agg _ ts => denT ts
  | .con _ => Unit
  | .itc => List UInt8 × Nat
  | .bld _ _ _ => List UInt8
  | .unit => Unit
  | .pair a b => denT a × denT b

def mkTs : (t : T) → denT t → List W
  | .lf s, x => [.v s x]
  | .row d e s, l => [.sl d e s l]
  | .agg t ts, x => [.agg t (mkTs ts x)]
  | .con c, _ => [.con c]
  | .itc, x => [.itc x.1 x.2]
  | .bld g t e, l => [.bld g t e l]
  | .unit, _ => []
  | .pair a b, x => mkTs a x.1 ++ mkTs b x.2
def mkT (t : T) (x : denT t) : W := match mkTs t x with
  | [w] => w
  | _ => .con .junk

/-- The rows of a value. -/
def rowsT : (t : T) → denT t → List (Nat × (TypeId × Nat))
  | .row d e _, l => [(d, (e, List.length l))]
  | .bld d _ e, l => [(d, (e, List.length l))]
  | .agg _ ts, x => rowsT ts x
  | .pair a b, x => rowsT a x.1 ++ rowsT b x.2
  | _, _ => []
def rowIds : T → List Nat
  | .row d _ _ => [d]
  | .bld d _ _ => [d]
  | .agg _ ts => rowIds ts
  | .pair a b => rowIds a ++ rowIds b
  | _ => []

def sameC : V → V → Bool
  | .rf d p, .rf d' p' => Nat.beq d d' && p == p'
  | .it d, .it d' => Nat.beq d d'
  | .nilp, .nilp => true
  | .nili, .nili => true
  | .sl (some d) e [], .sl (some d') e' [] => Nat.beq d d' && Nat.beq e e'
  | _, _ => false

/-- Reads a value's variables. 'strict': nothing of it is let go. -/
def rdT (strict : Bool) (fr : List (Nat × (TypeId × Nat))) : (t : T) → List W → Out (denT t × List W)
  | .lf s, ws => match ws with
    | w :: ws => if (!strict && memW w) || noTag w then (pack s w).bind fun x => .pure (x, ws) else .no
    | [] => .no
  | .row d e s, ws => match ws with
    | .sl d' e' s' l :: ws => if h : (d' = d ∧ e' = e) ∧ s' = s then match lu fr d with
        | some (e'', n) => if e'' = e then .gdN n l.length (.pure (castD (s := .sl e s') (s' := .sl e s) (by rw [h.2]) l, ws)) else .no
        | none => .no
      else .no
    | _ => .no
  | .agg t ts, ws => match ws with
    | w :: ws => match asAgg w with
      | some (t', fs) => if t' = t then (rdT true fr ts fs).bind fun x => match x.2 with
          | [] => .pure (x.1, ws)
          | _ => .no
        else .no
      | none => .no
    | [] => .no
  | .con c, ws => match ws with
    | .con c' :: ws => if sameC c c' then .pure ((), ws) else .no
    | _ => .no
  | .itc, ws => match ws with
    | .itc l pos :: ws => .pure ((l, pos), ws)
    | _ => .no
  | .bld g t e, ws => match ws with
    | .bld g' t' e' l :: ws => if (g' = g ∧ t' = t) ∧ e' = e then match lu fr g with
        | some (e'', n) => if e'' = e then .gdN n l.length (.pure (l, ws)) else .no
        | none => .no
      else .no
    | _ => .no
  | .unit, ws => .pure ((), ws)
  | .pair a b, ws => (rdT strict fr a ws).bind fun x => (rdT strict fr b x.2).bind fun y => .pure ((x.1, y.1), y.2)

/-- What is known at a loop's head, or where ways meet: slots and boxes with variables; what may have been turned. -/
structure LS where
  s : List (Nat × T)
  b : List (Nat × T)
  kill : List Wr

def denTs : List T → Type
  | [] => Unit
  | [t] => denT t
  | t :: u :: l => denT t × denTs (u :: l)
abbrev LS.ts (ls : LS) : List T := ls.s.map (·.2) ++ ls.b.map (·.2)
abbrev LS.den (ls : LS) : Type := denTs ls.ts

/-- The pairs (place, value). -/
def mkP : (ts : List T) → denTs ts → List W
  | [], _ => []
  | [t], x => [mkT t x]
  | t :: u :: l, x => mkT t x.1 :: mkP (u :: l) x.2
def rowsP : (ts : List T) → denTs ts → List (Nat × (TypeId × Nat))
  | [], _ => []
  | [t], x => rowsT t x
  | t :: u :: l, x => rowsT t x.1 ++ rowsP (u :: l) x.2
def rd1 (strict : Bool) (fr : List (Nat × (TypeId × Nat))) (t : T) (w : Option W) : Out (denT t) := match w with
  | some w => (rdT strict fr t [w]).bind fun x => match x.2 with
    | [] => .pure x.1
    | _ => .no
  | none => .no
def rdP (fr : List (Nat × (TypeId × Nat))) : (ts : List T) → List (Bool × Option W) → Out (denTs ts)
  | [], ws => match ws with
    | [] => .pure ()
    | _ => .no
  | [t], ws => match ws with
    | [w] => rd1 w.1 fr t w.2
    | _ => .no
  | t :: u :: l, ws => match ws with
    | w :: ws => (rd1 w.1 fr t w.2).bind fun x => (rdP fr (u :: l) ws).bind fun y => .pure (x, y)
    | _ => .no

def zipI {α : Type} : List Nat → List α → List (Nat × α)
  | i :: is, a :: as => (i, a) :: zipI is as
  | _, _ => []
def keep {α : Type} (f : Nat → Wr) (k : List Wr) : List (Nat × α) → List (Nat × α)
  | [] => []
  | (i, a) :: l => match inW (f i) k with
    | true => keep f k l
    | false => (i, a) :: keep f k l

/-- All that the mark lets go or names anew. -/
def LS.all (ls : LS) : List Wr := ls.s.map (fun x => .s x.1) ++ ls.b.map (fun x => .b x.1) ++ (ls.ts.flatMap rowIds).map .f ++ ls.kill
def LS.take (ls : LS) (st : WSt) : Out ls.den := rdP st.fr ls.ts (ls.s.map (fun x => (false, lu st.s x.1)) ++ ls.b.map (fun x => (true, lu st.bx x.1)))
def LS.head (ls : LS) (st : WSt) (x : ls.den) (log : List Wr) : WSt :=
  let ws := mkP ls.ts x
  ⟨zipI (ls.s.map (·.1)) ws ++ keep .s ls.all st.s, zipI (ls.b.map (·.1)) (ws.drop ls.s.length) ++ keep .b ls.all st.bx, rowsP ls.ts x ++ keep .f ls.all st.fr, log⟩

mutual
/-- All rows and boxes that the value names are known. -/
def okW (bx : List Nat) (fr : List Nat) : W → Bool
  | .v _ _ => true
  | .con c => okC bx fr c
  | .agg _ fs => okWs bx fr fs
  | .tup fs => okWs bx fr fs
  | .sl d _ _ _ => fr.any (Nat.beq d)
  | .rp _ => true
  | .iface _ w => okW bx fr w
  | .fn _ _ => true
  | .itc _ _ => true
  | .bld d _ _ _ => fr.any (Nat.beq d)
def okWs (bx : List Nat) (fr : List Nat) : List W → Bool
  | [] => true
  | w :: ws => okW bx fr w && okWs bx fr ws
def okC (bx : List Nat) (fr : List Nat) : V → Bool
  | .rf d _ => bx.any (Nat.beq d)
  | .it d => bx.any (Nat.beq d)
  | .sl (some d) _ _ => (Nat.beq d nilT || Nat.beq d zerT) || fr.any (Nat.beq d)
  | .agg _ _ => false
  | .tup _ => false
  | .iface _ _ => false
  | .bld _ _ _ _ => false
  | _ => true
end
def okL (bx fr : List Nat) : List (Nat × W) → Bool
  | [] => true
  | (_, w) :: l => okW bx fr w && okL bx fr l
/-- Does the head stand well over the state? -/
def LS.ok (ls : LS) (st : WSt) (x : ls.den) : Bool :=
  let h := ls.head st x []
  okL (h.bx.map (·.1)) (h.fr.map (·.1)) h.s && okL [] (h.fr.map (·.1)) h.bx

/-- The code with marks. -/
inductive DC where
  | skip
  | reg (l : List PG)
  /-- A region that may panic. -/
  | regP (T : TypeId) (l : List PG)
  | seq (a b : DC)
  | cond (x : X) (a b : DC)
  | block (id : Nat) (b : DC)
  | loop (ls : LS) (b : DC)
  | exit (id : Nat)
  | ret
  | gh (b : Nat) (ks : List Nat)
  | jn (ls : LS) (a b : DC)
  | split (x : Nat) (a b : DC)
  | ng (b : Nat)

def erase : DC → PC
  | .skip => .skip
  | .reg l => .reg l
  | .regP _ l => .reg l
  | .seq a b => .seq (erase a) (erase b)
  | .cond x a b => .cond x (erase a) (erase b)
  | .block id b => .block id (erase b)
  | .loop _ b => .loop (erase b)
  | .exit id => .exit id
  | .ret => .ret
  | .gh b _ => .gh b
  | .jn _ a b => .seq (erase a) (erase b)
  | .split _ a _ => erase a
  | .ng b => .gh b
/-- The places where the same code is marked in two ways. -/
def splits : DC → List (DC × DC)
  | .seq a b => splits a ++ splits b
  | .cond _ a b => splits a ++ splits b
  | .block _ b => splits b
  | .loop _ b => splits b
  | .jn _ a b => splits a ++ splits b
  | .split _ a b => (a, b) :: (splits a ++ splits b)
  | _ => []
def SplitsOk (d : DC) : Prop := ∀ p ∈ splits d, erase p.1 = erase p.2
theorem splitsNil {d : DC} (h : (splits d).isEmpty = true) : SplitsOk d := fun p hp => by
  rw [List.isEmpty_iff.1 h] at hp
  cases hp
theorem splitsOne {d a b : DC} (h : splits d = [(a, b)]) (e : erase a = erase b) : SplitsOk d := fun p hp => by
  rw [h] at hp
  rw [List.mem_singleton.1 hp]
  exact e

/-! ### loops -/
def iter {σ β : Type} (body : σ → (σ → Option β) → Option β) : Nat → σ → Option β
  | 0, _ => none
  | n + 1, x => body x (iter body n)
open Classical in
/-- What the rounds come to, where they come to an end. -/
noncomputable def loopK {σ β : Type} (body : σ → (σ → Option β) → Option β) (x : σ) : Option β :=
  if h : ∃ r : β, ∃ N, ∀ n, N ≤ n → iter body n x = some r then some h.choose else none
def jn {σ β : Type} (f : (σ → Option β) → Option β) (k : σ → Option β) : Option β := f k

/-! ### the evaluator -/
def stillW (b : Nat) (ct : W) : W → W
  | .con (.rf d p) => match Nat.beq d b with
    | true => match p with
      | [] => if noTag ct then .rp ct else .con .junk
      | _ => .con .junk
    | false => .con (.rf d p)
  | .con (.it d) => match Nat.beq d b with
    | true => match asArr ct with
      | some (t, a) => if rowT ≤ t then .v (.sl (t - rowT) a.s) a.l else .con .junk
      | none => .con .junk
    | false => .con (.it d)
  | w => w
def stillL (b : Nat) (ct : W) : List (Nat × W) → List (Nat × W)
  | [] => []
  | (i, w) :: l => (i, stillW b ct w) :: stillL b ct l
def refers (b : Nat) : W → Bool
  | .con (.rf d _) => Nat.beq d b
  | .con (.it d) => Nat.beq d b
  | _ => false
def refs (b : Nat) : List (Nat × W) → List Wr
  | [] => []
  | (i, w) :: l => match refers b w with
    | true => .s i :: refs b l
    | false => refs b l
def delL {α : Type} (b : Nat) : List (Nat × α) → List (Nat × α)
  | [] => []
  | (i, a) :: l => match Nat.beq i b with
    | true => delL b l
    | false => (i, a) :: delL b l
def noItc : W → Bool
  | .itc _ _ => false
  | .bld _ _ _ _ => false
  | .con (.itc _ _) => false
  | .con (.bld _ _ _ _) => false
  | _ => true
def freezeW (b : Nat) (st : WSt) : Option WSt :=
  match lu st.bx b with
  | some ct => if (Nat.beq b lentT = false) ∧ noItc ct = true then some ⟨stillL b ct st.s, delL b st.bx, st.fr, .b b :: (refs b st.s ++ st.log)⟩ else none
  | none => none

/-! ### a row that is written from now on -/
def flatS : Sh → Bool
  | .bool | .int _ | .byte | .str | .unit => true
  | .agg _ s => flatS s
  | .opt _ s | .arr _ s => single s && flatS s
  | .pair a b => (single a && flatS a) && flatS b
  | _ => false
mutual
def flatW : W → Bool
  | .v s _ => single s && flatS s
  | .con c => c.flat
  | .agg _ fs => flatWs fs
  | .iface _ w => flatW w
  | _ => false
def flatWs : List W → Bool
  | [] => true
  | w :: ws => flatW w && flatWs ws
end
def isItc : W → Bool
  | .itc _ _ => true
  | _ => false
def thS (d : Nat) (kb ks : List Nat) (i : Nat) (w : W) : W :=
  match flatW w with
  | true => w
  | false => match w with
    | .con (.rf k p) => match kb.any (Nat.beq k) with
      | true => .con (.rf k p)
      | false => .con .junk
    | .con (.it k) => match kb.any (Nat.beq k) with
      | true => .con (.it k)
      | false => .con .junk
    | .sl k e s l => match ks.any (Nat.beq i) with
      | true => match Nat.beq k d with
        | true => .con (.it d)
        | false => .sl k e s l
      | false => .con .junk
    | _ => .con .junk
/-- Is the slot turned? -/
def thC (d : Nat) (kb ks : List Nat) (i : Nat) (w : W) : Bool :=
  match flatW w with
  | true => false
  | false => match w with
    | .con (.rf k _) => !(kb.any (Nat.beq k))
    | .con (.it k) => !(kb.any (Nat.beq k))
    | .sl k _ _ _ => !(ks.any (Nat.beq i) && !(Nat.beq k d))
    | _ => true
def thL (d : Nat) (kb ks : List Nat) : List (Nat × W) → List (Nat × W)
  | [] => []
  | (i, w) :: l => (i, thS d kb ks i w) :: thL d kb ks l
def thLog (d : Nat) (kb ks : List Nat) : List (Nat × W) → List Wr
  | [] => []
  | (i, w) :: l => match thC d kb ks i w with
    | true => .s i :: thLog d kb ks l
    | false => thLog d kb ks l
def thB (l0 : List (Nat × W)) : List (Nat × W) → List (Nat × W)
  | [] => []
  | (i, _) :: l => match lu l0 i with
    | some w => match flatW w || isItc w with
      | true => (i, w) :: thB l0 l
      | false => thB l0 l
    | none => thB l0 l
def thBLog (l0 : List (Nat × W)) : List (Nat × W) → List Wr
  | [] => []
  | (i, _) :: l => match lu l0 i with
    | some w => match flatW w || isItc w with
      | true => thBLog l0 l
      | false => .b i :: thBLog l0 l
    | none => thBLog l0 l
def thK (d n : Nat) (fr : List (Nat × (TypeId × Nat))) (s : List (Nat × W)) : List Nat → Out Unit
  | [] => .pure ()
  | i :: ks => match lu s i with
    | some (.sl k e s' l) => match Nat.beq k d with
      | true => .gdN n l.length (thK d n fr s ks)
      | false => match lu fr k with
        | some (e', n') => if e' = e ∧ (single s' = true ∧ flatS s' = true) then .gdN n' l.length (thK d n fr s ks) else .no
        | none => .no
    | _ => thK d n fr s ks
def thawW (x : Nat) (ks : List Nat) (st : WSt) : Out WSt :=
  match lu st.s x with
  | some (.sl d e s l) => match lu st.fr d, lu st.bx d, Nat.beq d lentT with
    | some (e', n), none, false => if (okRow d = true ∧ e' = e) ∧ (single s = true ∧ flatS s = true) then .gdN n l.length (gdo (0 < l.length) ((thK d n st.fr st.s ks).bind fun _ =>
        .pure ⟨thL d ((thB st.bx st.bx).map (·.1)) ks st.s, (d, .v (.arr (rowT + e) s) l) :: thB st.bx st.bx, delL d st.fr, .b d :: .f d :: (thLog d ((thB st.bx st.bx).map (·.1)) ks st.s ++ (thBLog st.bx st.bx ++ st.log))⟩)) else .no
    | _, _, _ => .no
  | _ => .no

/-- A surely nil field becomes a row. -/
def nilRowW (SH : List (TypeId × Sh)) (x : Nat) (st : WSt) : Option WSt :=
  match lu st.bx ((x - nlB) / 100), lu st.fr x with
  | some c, none => match asAgg c with
    | some (t, fs) => match nth fs ((x - nlB) % 100) with
      | some (.con (.sl (some d) e [])) => if d = nilT ∧ ¬ rowT ≤ t ∧ okRow x = true then
          some ⟨st.s, ins st.bx ((x - nlB) / 100) (.agg t (setNth fs ((x - nlB) % 100) (.sl x e (shOf SH e) []))), ins st.fr x (e, 0), .b ((x - nlB) / 100) :: .f x :: st.log⟩ else none
      | _ => none
    | none => match c with
      | .con (.sl (some d) e []) => if d = nilT ∧ okRow x = true then some ⟨st.s, ins st.bx ((x - nlB) / 100) (.sl x e (shOf SH e) []), ins st.fr x (e, 0), .b ((x - nlB) / 100) :: .f x :: st.log⟩ else none
      | _ => none
  | _, _ => none

section
variable (TT : List TEnt) (SH : List (TypeId × Sh))

def evL {β : Type} : List PG → (WSt → Option β) → WSt → Option β
  | [], K, st => K st
  | pg :: l, K, st => match pg.g with
    | none => (opW TT SH pg.po st).run fun δ => evL l K (st.app δ)
    | some (j, want) => match lu st.s j with
      | some (.v .bool b) => cond b
          (let st := { st with s := ins st.s j (.v .bool true) }
           if want then (opW TT SH pg.po st).run fun δ => evL l K (st.app δ) else evL l K (st.app (putD pg.po.dst (.tup []))))
          (let st := { st with s := ins st.s j (.v .bool false) }
           if want then evL l K (st.app (putD pg.po.dst (.tup []))) else (opW TT SH pg.po st).run fun δ => evL l K (st.app δ))
      | some (.tup []) => evL l K (st.app (putD pg.po.dst (.tup [])))
      | _ => none

/-- A call that may panic: p: what is done then. -/
def caseO {α β : Type} : Option (Option α) → Option β → (α → Option β) → Option β
  | none, _, _ => none
  | some none, p, _ => p
  | some (some y), _, k => k y
def mayK {β : Type} : (rs : Sh) → Option (den rs) → Option β → (W → Option β) → Option β
  | .opt _ s, o, p, K => caseO (α := den s) o p fun y => K (.v s y)
  | _, _, _, _ => none
def callP {β : Type} (t : TEnt) (ws : List W) (p : Option β) (K : W → Option β) : Option β :=
  if ws.all memW then (packL t.as ws).run fun x => mayK t.rs (t.F x) p K else none
def mayE (T : TypeId) : PO → Option (Option Nat × TEnt × List X)
  | .ca d f xs => match findT TT f with
    | some t => match t.kd with
      | .may T' => match Nat.beq T' T with
        | true => some (d, t, xs)
        | false => none
      | _ => none
    | none => none
  | _ => none
def pnE (T : TypeId) (st : WSt) : PO → Bool
  | .pn x => match evX st x with
    | .iface u (.agg _ []) => Nat.beq u T
    | _ => false
  | _ => false
/-- The rest of a region in which an operation panicked: what hangs on it is not run. -/
def evLQ {β : Type} (T : TypeId) : List PG → List Nat → Option β → WSt → Option β
  | [], _, p, _ => p
  | pg :: l, dead, p, st => match deadR dead pg with
    | true => evLQ T l (pg.po.dst.toList ++ dead) p st
    | false => match pg.g with
      | some _ => none
      | none => match mayE TT T pg.po with
        | some (d, t, xs) => callP t (xs.map (evX st)) (evLQ T l (d.toList ++ dead) p st) fun w => if apartD d dead then evLQ T l dead p (st.app (putD d w)) else none
        | none => if keepsB pg.po && apartD pg.po.dst dead then (opW TT SH pg.po st).run fun δ => evLQ T l dead p (st.app δ) else none
def evLP {β : Type} (T : TypeId) : List PG → Bool → (WSt → Option β) → Option β → WSt → Option β
  | [], _, K, _, st => K st
  | pg :: l, dirty, K, p, st => match pg.g with
    | some _ => none
    | none => match mayE TT T pg.po with
      | some (d, t, xs) => callP t (xs.map (evX st)) (if dirty then none else evLQ TT SH T l d.toList p st) fun w => evLP T l dirty K p (st.app (putD d w))
      | none => match pnE T st pg.po with
        | true => if dirty then none else evLQ TT SH T l [] p st
        | false => (opW TT SH pg.po st).run fun δ => evLP T l (dirty || !keepsB pg.po) K p (st.app δ)

noncomputable def evD {β : Type} : DC → (Ex → WSt → Option β) → WSt → Option β
  | .skip, K, st => K .normal st
  | .reg l, K, st => evL TT SH l (K .normal) st
  | .regP T l, K, st => evLP TT SH T l false (K .normal) (K (.pan T) st) st
  | .seq a b, K, st => evD a (fun e st' => match e with
    | .normal => evD b K st'
    | .exit i => K (.exit i) st'
    | .ret => K .ret st'
    | .pan T => K (.pan T) st') st
  | .cond x a b, K, st => match asBool (evX st x) with
    | some c => cond c (evD a K st) (evD b K st)
    | none => none
  | .block id b, K, st => evD b (fun e st' => match e with
    | .exit i => match Nat.beq i id with
      | true => K .normal st'
      | false => K (.exit i) st'
    | .normal => K .normal st'
    | .ret => K .ret st'
    | .pan T => K (.pan T) st') st
  | .loop ls b, K, st => (ls.take st).run fun x0 => if ls.ok st x0 then
      loopK (fun x again => evD b (fun e st' => match e with
        | .normal => (ls.take st').run fun x => if ls.ok st x && subW st'.log ls.all then again x else none
        | .exit i => K (.exit i) { st' with log := st'.log ++ (ls.all ++ st.log) }
        | .ret => K .ret { st' with log := st'.log ++ (ls.all ++ st.log) }
        | .pan T => K (.pan T) { st' with log := st'.log ++ (ls.all ++ st.log) }) (ls.head st x [])) x0
    else none
  | .exit id, K, st => K (.exit id) st
  | .ret, K, st => K .ret st
  | .gh b ks, K, st => match Nat.ble thT b with
    | true => match Nat.ble nlB b with
      | true => match nilRowW SH b st with
        | some st' => K .normal st'
        | none => none
      | false => (thawW (b - thT) ks st).run (K .normal)
    | false => match freezeW b st with
      | some st' => K .normal st'
      | none => none
  | .ng _, K, st => K .normal st
  | .split x a b, K, st => match lu st.s x with
    | some w => match asSl w with
      | some l => cond l.l.isEmpty (evD a K st) (evD b K st)
      | none => none
    | none => none
  | .jn ls a b, K, st =>
      jn (fun next => evD a (fun e st' => match e with
        | .normal => (ls.take st').run fun x => if ls.ok st x && subW st'.log ls.all then next x else none
        | .exit i => K (.exit i) { st' with log := st'.log ++ st.log }
        | .ret => K .ret { st' with log := st'.log ++ st.log }
        | .pan T => K (.pan T) { st' with log := st'.log ++ st.log }) { st with log := [] }) (fun x => evD b K (ls.head st x (ls.all ++ st.log)))

/-- Several results. -/
def packRs : (s : Sh) → List W → Out (den s)
  | .unit, ws => match ws with
    | [] => .pure ()
    | _ => .no
  | .pair a b, ws => match ws with
    | w :: ws => (packA a w).bind fun x => (packRs b ws).bind fun y => .pure (x, y)
    | [] => .no
  | s, ws => match ws with
    | [w] => packA s w
    | _ => .no

/-- The results. -/
def crW (st : WSt) : CR → Out W
  | .tmp t => match lu st.s t with
    | some w => if memW w then ofO (untagW w) else .no
    | none => .no
  | .cell a t => match lu st.s a with
    | some x => (ldW t x st).bind fun w => if memW w then ofO (untagW w) else .no
    | none => .no
def crsW (st : WSt) : List CR → Out (List W)
  | [] => .pure []
  | c :: cs => (crW st c).bind fun w => (crsW st cs).bind fun ws => .pure (w :: ws)
def resW (st : WSt) (crs : List CR) (rs : Sh) : Out (den rs) := (crsW st crs).bind fun ws => match ws with
  | [w] => packA rs w
  | ws => match rs with
    | .tup s => packRs s ws
    | _ => .no

/-- .. where a part is surely nil. -/
def resWP (st : WSt) (crs : List CR) (rs : Sh) (i : Nat) (p : List Nat) : Out (den rs) := match nth crs i with
  | some (.tmp t) => match lu st.s t with
    | some w => (atW w p).bind fun u => match u with
      | .con (.sl (some d) _ []) => if d = nilT then resW st crs rs else .no
      | _ => .no
    | none => .no
  | some (.cell a t) => match lu st.s a with
    | some x => (ldW t x st).bind fun w => (atW w p).bind fun u => match u with
      | .con (.sl (some d) _ []) => if d = nilT then resW st crs rs else .no
      | _ => .no
    | none => .no
  | _ => .no
/-- .. with a variable on loan. -/
def startL (as : List Sh) (x : dens as) (k : Nat) : WSt := match argK as x k with
  | some w => ⟨ins (argWs as x 0) k (refW lentT w), [(lentT, w)], [], []⟩
  | none => ⟨[], [], [], []⟩
def resWL (st : WSt) (crs : List CR) (r s : Sh) : Out (den r × den s) := (resW st crs r).bind fun y => match lu st.bx lentT with
  | some w => if memW w && sureAgg w then (packA s w).bind fun c => .pure (y, c) else .no
  | none => .no
/-- .. that returns a new variable. -/
def resWN (st : WSt) (crs : List CR) (rs : Sh) : Out (den rs) := match crs with
  | [.tmp t] => match (lu st.s t).bind lendW with
    | some (b, row) => match lu st.bx b, Nat.beq b lentT with
      | some w, false => if memW w && sureAgg w && isRowS rs == row && single rs then packA rs w else .no
      | _, _ => .no
    | none => .no
  | _ => .no

/-- A function's body, run. -/
noncomputable def evF (d : DC) (crs : List CR) (as : List Sh) (rs : Sh) (x : dens as) : Option (den rs) :=
  evD TT SH d (fun e st => match e with
    | .exit _ => none
    | .pan _ => none
    | .normal => (resW st crs rs).run some
    | .ret => (resW st crs rs).run some) ⟨argWs as x 0, [], [], []⟩
/-- .. of a function that may panic. -/
noncomputable def evFM (T : TypeId) (d : DC) (crs : List CR) (as : List Sh) (rs : Sh) (x : dens as) : Option (Option (den rs)) :=
  evD TT SH d (fun e st => match e with
    | .exit _ => none
    | .pan T' => match Nat.beq T' T with
      | true => some none
      | false => none
    | .normal => (resW st crs rs).run fun y => some (some y)
    | .ret => (resW st crs rs).run fun y => some (some y)) ⟨argWs as x 0, [], [], []⟩
noncomputable def evFP (d : DC) (crs : List CR) (as : List Sh) (rs : Sh) (i : Nat) (p : List Nat) (x : dens as) : Option (den rs) :=
  evD TT SH d (fun e st => match e with
    | .exit _ => none
    | .pan _ => none
    | .normal => (resWP st crs rs i p).run some
    | .ret => (resWP st crs rs i p).run some) ⟨argWs as x 0, [], [], []⟩
noncomputable def evFL (d : DC) (crs : List CR) (as : List Sh) (r s : Sh) (k : Nat) (x : dens as) : Option (den r × den s) :=
  evD TT SH d (fun e st => match e with
    | .exit _ => none
    | .pan _ => none
    | .normal => (resWL st crs r s).run some
    | .ret => (resWL st crs r s).run some) (startL as x k)
noncomputable def evFN (d : DC) (crs : List CR) (as : List Sh) (rs : Sh) (x : dens as) : Option (den rs) :=
  evD TT SH d (fun e st => match e with
    | .exit _ => none
    | .pan _ => none
    | .normal => (resWN st crs rs).run some
    | .ret => (resWN st crs rs).run some) ⟨argWs as x 0, [], [], []⟩
end
end Go.Nu
/-
  D, text 3: what the runs' parts mean; each operation does what the plain code's does.
-/
namespace Go.Nu
open Go Go.RowKit

def Out.gives {α : Type} : Out α → α → Prop
  | .no, _ => False
  | .pure a, b => a = b
  | .gd c _ o, b => c ∧ o.gives b
  | .gdN m n o, b => m = n ∧ o.gives b
  | .lt _ x f, b => (f x).gives b
  | .call _ x f, b => ∃ y, x = some y ∧ (f y).gives b
  | .ite c x y, b => (c = true ∧ x.gives b) ∨ (c = false ∧ y.gives b)

theorem run_gives {α β : Type} {K : α → Option β} {r : β} : ∀ {o : Out α}, o.run K = some r → ∃ a, o.gives a ∧ K a = some r
  | .no, h => by cases h
  | .pure a, h => ⟨a, rfl, h⟩
  | .gd c d o, h => by
    simp only [Out.run, gd] at h
    split at h
    · rename_i hc
      obtain ⟨a, h1, h2⟩ := run_gives h
      exact ⟨a, ⟨hc, h1⟩, h2⟩
    · cases h
  | .gdN m n o, h => by
    simp only [Out.run, gdN] at h
    split at h
    · rename_i hc
      obtain ⟨a, h1, h2⟩ := run_gives h
      exact ⟨a, ⟨hc, h1⟩, h2⟩
    · cases h
  | .lt _ x f, h => by
    simp only [Out.run, bnd] at h
    exact run_gives (o := f x) h
  | .call _ x f, h => by
    simp only [Out.run, bindO] at h
    split at h
    · rename_i y
      obtain ⟨a, h1, h2⟩ := run_gives (o := f y) h
      exact ⟨a, ⟨y, rfl, h1⟩, h2⟩
    · cases h
  | .ite c x y, h => by
    simp only [Out.run] at h
    cases c with
    | true => obtain ⟨a, h1, h2⟩ := run_gives (o := x) h; exact ⟨a, .inl ⟨rfl, h1⟩, h2⟩
    | false => obtain ⟨a, h1, h2⟩ := run_gives (o := y) h; exact ⟨a, .inr ⟨rfl, h1⟩, h2⟩

theorem bind_gives {α β : Type} {f : α → Out β} {b : β} : ∀ {o : Out α}, (o.bind f).gives b → ∃ a, o.gives a ∧ (f a).gives b
  | .no, h => h.elim
  | .pure a, h => ⟨a, rfl, h⟩
  | .gd c d o, h => by obtain ⟨a, h1, h2⟩ := bind_gives (o := o) h.2; exact ⟨a, ⟨h.1, h1⟩, h2⟩
  | .gdN m n o, h => by obtain ⟨a, h1, h2⟩ := bind_gives (o := o) h.2; exact ⟨a, ⟨h.1, h1⟩, h2⟩
  | .lt _ x g, h => by obtain ⟨a, h1, h2⟩ := bind_gives (o := g x) h; exact ⟨a, h1, h2⟩
  | .call _ x g, h => by
    obtain ⟨y, hy, h⟩ := h
    obtain ⟨a, h1, h2⟩ := bind_gives (o := g y) h
    exact ⟨a, ⟨y, hy, h1⟩, h2⟩
  | .ite c x y, h => by
    rcases h with ⟨hc, h⟩ | ⟨hc, h⟩
    · obtain ⟨a, h1, h2⟩ := bind_gives (o := x) h; exact ⟨a, .inl ⟨hc, h1⟩, h2⟩
    · obtain ⟨a, h1, h2⟩ := bind_gives (o := y) h; exact ⟨a, .inr ⟨hc, h1⟩, h2⟩

theorem ofO_gives {α : Type} {o : Option α} {a : α} (h : (ofO o).gives a) : o = some a := by
  cases o with
  | none => exact h.elim
  | some b => exact congrArg some h

/-! ### values -/
theorem castD_eq {s s' : Sh} (h : s = s') (x : den s) : toV s' (castD h x) = toV s x := by subst h; rfl

theorem toVs_map : ∀ ws : List W, W.toVs ws = ws.map W.toV
  | [] => rfl
  | w :: ws => by simp [W.toVs, toVs_map ws]

mutual
theorem ofC_toV : ∀ v : V, (ofC v).toV = v
  | .bool b => rfl
  | .int k n => rfl
  | .str l => rfl
  | .agg t fs => by simp only [ofC, W.toV, ofCs_toV fs]
  | .sl tg e es => by
    unfold ofC
    split
    · split
      · rename_i h; subst h; rfl
      · rfl
    · rfl
  | .fn f caps => rfl
  | .junk => rfl
  | .tup _ => rfl
  | .rp _ => rfl
  | .rf _ _ => rfl
  | .it _ => rfl
  | .itc _ _ => rfl
  | .bld _ _ _ _ => rfl
  | .nilp => rfl
  | .iface _ _ => rfl
  | .nili => rfl
theorem ofCs_toV : ∀ vs : List V, W.toVs (ofCs vs) = vs
  | [] => rfl
  | v :: vs => by simp only [ofCs, W.toVs, ofC_toV v, ofCs_toV vs]
end

theorem parts_toV : ∀ (s : Sh) (x : den s), W.toVs (parts s x) = toVL s x
  | .unit, _ => rfl
  | .pair a b, x => by simp only [parts, W.toVs, toVL, parts_toV b x.2]; rfl
  | .bool, _ => rfl
  | .int _, _ => rfl
  | .byte, _ => rfl
  | .str, _ => rfl
  | .opt _ _, _ => rfl
  | .sl _ _, _ => rfl
  | .agg _ _, _ => rfl
  | .arr _ _, _ => rfl
  | .tup _, _ => rfl
  | .rp _, _ => rfl
  | .fn _ _, _ => rfl

theorem asAgg_toV {w : W} {t : TypeId} {fs : List W} (h : asAgg w = some (t, fs)) : w.toV = .agg t (W.toVs fs) := by
  unfold asAgg at h
  split at h
  · cases h; rfl
  · rename_i s x
    cases h
    exact congrArg (V.agg t) (parts_toV s x).symm
  · cases h

theorem map_toV (s : Sh) (l : List (den s)) : l.map (fun x => headV (toVL s x)) = l.map (toV s) := rfl

theorem asArr_toV {w : W} {t : TypeId} {a : SlV} (h : asArr w = some (t, a)) : w.toV = .agg t (a.l.map (toV a.s)) := by
  unfold asArr at h
  split at h
  · cases h; rfl
  · cases h

theorem asSl_toV {w : W} {a : SlV} (h : asSl w = some a) : ∃ tg, w.toV = .sl tg a.e (a.l.map (toV a.s)) := by
  unfold asSl at h
  split at h
  · cases h; exact ⟨none, rfl⟩
  · cases h; exact ⟨some _, rfl⟩
  · cases h

theorem asInt_toV {w : W} {k : IntKind} {n : Int} (h : asInt w = some (k, n)) : w.toV = .int k n := by
  unfold asInt at h
  split at h
  · cases h; rfl
  · cases h; rfl
  · cases h
theorem asBool_toV {w : W} {b : Bool} (h : asBool w = some b) : w.toV = .bool b := by
  unfold asBool at h
  split at h
  · cases h; rfl
  · cases h
theorem asBool_v {w : W} {b : Bool} (h : asBool w = some b) : w = .v .bool b := by
  unfold asBool at h
  split at h
  · cases h; rfl
  · cases h
theorem asStr_toV {w : W} {l : List UInt8} (h : asStr w = some l) : w.toV = .str l := by
  unfold asStr at h
  split at h
  · cases h; rfl
  · cases h

theorem getD_toV (s : Sh) (l : List (den s)) (i : Nat) (h : i < l.length) : (l.map (toV s)).getD i .junk = toV s (l.getD i (dflt s)) := by
  simp [List.getD_eq_getElem?_getD, h]
theorem get?_toV (s : Sh) (l : List (den s)) (i : Nat) (h : i < l.length) : (l.map (toV s))[i]? = some (toV s (l.getD i (dflt s))) := by
  simp [List.getD_eq_getElem?_getD, h]

theorem nth_eq {α : Type} : ∀ (l : List α) (i : Nat), nth l i = l[i]?
  | [], _ => rfl
  | a :: l, 0 => rfl
  | a :: l, i + 1 => by simp [nth, nth_eq l i]
theorem setNth_eq {α : Type} : ∀ (l : List α) (i : Nat) (x : α), setNth l i x = l.set i x
  | [], _, _ => rfl
  | a :: l, 0, _ => rfl
  | a :: l, i + 1, x => by simp [setNth, setNth_eq l i x]

/-- What the value is, as it is handed on. -/
theorem toV_head {s : Sh} {x : den s} {v : V} (h : toVL s x = [v]) : toV s x = v := by simp [toV, h, headV]

mutual
theorem toV_untag : ∀ (s : Sh) (x : den s), V.untags (toVL s x) = toVL s x
  | .bool, _ => rfl
  | .int _, _ => rfl
  | .byte, _ => rfl
  | .str, _ => rfl
  | .opt t s, x => by
    cases x with
    | none => rfl
    | some x =>
      have := head_untag (toV_untag s x)
      show [V.iface t (V.untag (headV (toVL s x)))] = [V.iface t (headV (toVL s x))]
      rw [this]
  | .sl _ _, _ => rfl
  | .agg t s, x => by simp only [toVL, V.untags, V.untag, toV_untag s x]
  | .arr t s, l => by
    have : ∀ l : List (den s), V.untags (l.map (fun x => headV (toVL s x))) = l.map (fun x => headV (toVL s x)) := by
      intro l
      induction l with
      | nil => rfl
      | cons x l ih => simp only [List.map_cons, V.untags, ih, head_untag (toV_untag s x)]
    simp only [toVL, V.untags, V.untag, this l]
  | .tup s, x => by simp only [toVL, V.untags, V.untag, toV_untag s x]
  | .rp _, _ => rfl
  | .fn _ _, _ => rfl
  | .unit, _ => rfl
  | .pair a b, x => by simp only [toVL, V.untags, toV_untag b x.2, head_untag (toV_untag a x.1)]
theorem head_untag : ∀ {l : List V}, V.untags l = l → V.untag (headV l) = headV l
  | [], _ => rfl
  | v :: l, h => by
    simp only [V.untags, List.cons.injEq] at h
    exact h.1
end

theorem untag_toV (s : Sh) (x : den s) : (toV s x).untag = toV s x := head_untag (toV_untag s x)

mutual
theorem noTag_untag : ∀ {w : W}, noTag w = true → w.toV.untag = w.toV
  | .v s x, _ => untag_toV s x
  | .con c, h => by
    cases c <;> first | rfl | (simp [noTag] at h) | skip
    rename_i tg e es
    cases tg with
    | none => rfl
    | some d => simp [noTag] at h
  | .agg t fs, h => by simp only [W.toV, V.untag, noTags_untag (ws := fs) h]
  | .tup fs, h => by simp only [W.toV, V.untag, noTags_untag (ws := fs) h]
  | .sl _ _ _ _, h => by simp [noTag] at h
  | .rp _, _ => rfl
  | .iface t w, h => by simp only [W.toV, V.untag, noTag_untag (w := w) h]
  | .fn _ _, _ => rfl
  | .itc _ _, _ => rfl
  | .bld _ _ _ _, _ => rfl
theorem noTags_untag : ∀ {ws : List W}, noTags ws = true → V.untags (W.toVs ws) = W.toVs ws
  | [], _ => rfl
  | w :: ws, h => by
    simp only [noTags, Bool.and_eq_true] at h
    simp only [W.toVs, V.untags, noTag_untag h.1, noTags_untag h.2]
end

mutual
theorem untagW_toV : ∀ {w u : W}, untagW w = some u → u.toV = w.toV.untag
  | .sl _ _ _ _, u, h => by cases h; rfl
  | .agg t fs, u, h => by
    simp only [untagW] at h
    split at h
    · rename_i gs hg
      cases h
      simp only [W.toV, V.untag, untagWs_toV hg]
    · cases h
  | .con c, u, h => by
    unfold untagW at h
    split at h
    · rename_i hq; cases hq
    · rename_i hq; cases hq; cases h; rfl
    · rename_i hq; cases hq
    · split at h
      · rename_i hn
        cases h
        exact (noTag_untag hn).symm
      · cases h
  | .v _ _, u, h | .tup _, u, h | .rp _, u, h | .iface _ _, u, h | .fn _ _, u, h | .itc _ _, u, h | .bld _ _ _ _, u, h => by
    simp only [untagW] at h
    split at h
    · rename_i hn
      cases h
      exact (noTag_untag hn).symm
    · cases h
theorem untagWs_toV : ∀ {ws us : List W}, untagWs ws = some us → W.toVs us = V.untags (W.toVs ws)
  | [], us, h => by cases h; rfl
  | w :: ws, us, h => by
    simp only [untagWs] at h
    split at h
    · rename_i u us' h1 h2
      cases h
      simp only [W.toVs, V.untags, untagW_toV h1, untagWs_toV h2]
    · cases h
end

theorem memW_toV {w : W} (h : memW w = true) : w.toV.mem = true := by
  cases w with
  | v s x =>
    cases s <;> first | rfl | (simp [memW] at h; done) | skip
    cases x <;> rfl
  | con c => exact h
  | tup fs => simp [memW] at h
  | itc l p => simp [memW] at h
  | bld _ _ _ _ => simp [memW] at h
  | _ => rfl

theorem isAggW_toV {w : W} (h : isAggW w = false) : w.toV.isAgg = false := by
  cases w with
  | v s x =>
    cases s <;> first | rfl | (simp [isAggW] at h; done) | skip
    cases x <;> rfl
  | con c => exact h
  | agg t fs => simp [isAggW] at h
  | _ => rfl

theorem fitsW_toV {t : Option TypeId} {w : W} (h : fitsW t w = true) : fitsT t w.toV = true := by
  unfold fitsW at h
  split at h
  · exact h
  · exact h
  · exact h
  · exact h
  · rename_i h1 h2 h3 h4
    simp only [Bool.and_eq_true] at h
    have hm := memW_toV h.2
    have hn : isAggW w = false := by
      cases w with
      | v s x =>
        cases s <;> first | rfl | exact (h1 _ _ _ rfl).elim | exact (h2 _ _ _ rfl).elim | exact absurd h.2 (by simp [memW])
      | con c => cases c <;> first | rfl | exact (h4 _ _ rfl).elim
      | agg t fs => exact (h3 _ _ rfl).elim
      | _ => rfl
    have hagg : ∀ t' fs, w.toV ≠ .agg t' fs := by
      intro t' fs he
      have := isAggW_toV hn
      rw [he] at this
      cases this
    revert hm hagg
    generalize w.toV = v
    intro hm hagg
    cases v <;> first | exact absurd rfl (hagg _ _) | (simp only [fitsT, h.1, hm, Bool.and_self])

theorem flat_alike : ∀ (s : Sh) (x y : den s), flat s = true → V.alikes (toVL s x) (toVL s y) = true
  | .bool, _, _, _ => rfl
  | .int _, _, _, _ => rfl
  | .byte, _, _, _ => rfl
  | .str, _, _, _ => rfl
  | .opt t s, x, y, _ => by cases x <;> cases y <;> rfl
  | .sl _ _, _, _, _ => rfl
  | .agg t s, x, y, h => by simp [toVL, V.alikes, V.alike, flat_alike s x y h]
  | .arr _ _, _, _, h => by simp [flat] at h
  | .tup s, x, y, _ => rfl
  | .rp _, _, _, _ => rfl
  | .fn _ _, _, _, _ => rfl
  | .unit, _, _, _ => rfl
  | .pair a b, x, y, h => by
    simp only [flat, Bool.and_eq_true] at h
    have h1 := flat_alike a x.1 y.1 h.1
    have h2 := flat_alike b x.2 y.2 h.2
    simp only [toVL, V.alikes, h2, Bool.and_true]
    revert h1
    generalize toVL a x.1 = p
    generalize toVL a y.1 = q
    intro h1
    cases p with
    | nil => cases q with
      | nil => rfl
      | cons => simp [V.alikes] at h1
    | cons u us => cases q with
      | nil => simp [V.alikes] at h1
      | cons u' us' =>
        simp only [V.alikes, Bool.and_eq_true] at h1
        exact h1.1
theorem flat_alike1 (s : Sh) (x y : den s) (h : flat s = true) : V.alike (toV s x) (toV s y) = true := by
  have h1 := flat_alike s x y h
  unfold toV
  revert h1
  generalize toVL s x = p
  generalize toVL s y = q
  intro h1
  cases p with
  | nil => cases q with
    | nil => rfl
    | cons => simp [V.alikes] at h1
  | cons u us => cases q with
    | nil => simp [V.alikes] at h1
    | cons u' us' =>
      simp only [V.alikes, Bool.and_eq_true] at h1
      exact h1.1

theorem alike_non {u v : V} (h1 : u.isAgg = false) (h2 : v.isAgg = false) : V.alike u v = true := by
  cases u <;> first | (simp [V.isAgg] at h1; done) | simp [V.alike, h2]

theorem like_one {u : V} {gs : List W} {us : List V} (h1 : us = [u]) (h2 : u.isAgg = false) (h : ∃ g, gs = [g] ∧ isAggW g = false) : V.alikes us (W.toVs gs) = true := by
  obtain ⟨g, rfl, hg⟩ := h
  subst h1
  simp only [W.toVs, V.alikes, Bool.and_true]
  exact alike_non h2 (isAggW_toV hg)

mutual
theorem likeS_toV : ∀ {s : Sh} {x : den s} {g : W}, likeS s g = true → V.alike (toV s x) g.toV = true
  | .agg t s, x, g, h => by
    unfold likeS at h
    split at h
    · rename_i s' y
      simp only [Bool.and_eq_true, beq_iff_eq] at h
      obtain ⟨hf, rfl⟩ := h
      exact flat_alike1 (.agg t s) x y hf
    · rename_i t' gs
      simp only [Bool.and_eq_true, beq_iff_eq] at h
      obtain ⟨rfl, hl⟩ := h
      show V.alike (.agg t (toVL s x)) (.agg t (W.toVs gs)) = true
      simp [V.alike, likeSL_toV (s := s) (x := x) hl]
    · simp at h
  | .arr _ _, _, _, h => by simp [likeS] at h
  | .unit, _, _, h => by simp [likeS] at h
  | .pair _ _, _, _, h => by simp [likeS] at h
  | .bool, _, g, h => alike_non rfl (isAggW_toV (by simpa [likeS] using h))
  | .int _, _, g, h => alike_non rfl (isAggW_toV (by simpa [likeS] using h))
  | .byte, _, g, h => alike_non rfl (isAggW_toV (by simpa [likeS] using h))
  | .str, _, g, h => alike_non rfl (isAggW_toV (by simpa [likeS] using h))
  | .opt _ _, x, g, h => alike_non (by cases x <;> rfl) (isAggW_toV (by simpa [likeS] using h))
  | .sl _ _, _, g, h => alike_non rfl (isAggW_toV (by simpa [likeS] using h))
  | .tup _, _, g, h => alike_non rfl (isAggW_toV (by simpa [likeS] using h))
  | .rp _, _, g, h => alike_non rfl (isAggW_toV (by simpa [likeS] using h))
  | .fn _ _, _, g, h => alike_non rfl (isAggW_toV (by simpa [likeS] using h))
theorem likeSL_toV : ∀ {s : Sh} {x : den s} {gs : List W}, likeSL s gs = true → V.alikes (toVL s x) (W.toVs gs) = true
  | .unit, x, gs, h => by
    cases gs with
    | nil => rfl
    | cons => simp [likeSL] at h
  | .pair a b, x, gs, h => by
    cases gs with
    | nil => simp [likeSL] at h
    | cons g gs =>
      simp only [likeSL, Bool.and_eq_true] at h
      have h1 := likeS_toV (x := x.1) h.1
      have h2 := likeSL_toV (x := x.2) h.2
      simp only [toVL, W.toVs, V.alikes, h2, Bool.and_true]
      exact h1
  | .agg t s, x, gs, h => by
    rcases gs with _ | ⟨g, _ | ⟨g', gs⟩⟩
    · simp [likeSL] at h
    · show V.alikes [V.agg t (toVL s x)] [g.toV] = true
      have key : V.alike (toV (.agg t s) x) g.toV = true := by
        unfold likeSL at h
        simp only [] at h
        split at h
        · rename_i s' y
          simp only [Bool.and_eq_true, beq_iff_eq] at h
          obtain ⟨hf, rfl⟩ := h
          exact flat_alike1 (.agg t s) x y hf
        · rename_i t' gs
          simp only [Bool.and_eq_true, beq_iff_eq] at h
          obtain ⟨rfl, hl⟩ := h
          show V.alike (.agg t (toVL s x)) (.agg t (W.toVs gs)) = true
          simp [V.alike, likeSL_toV (s := s) (x := x) hl]
        · simp at h
      have key : V.alike (V.agg t (toVL s x)) g.toV = true := key
      simp only [V.alikes, key, Bool.and_true]
    · simp [likeSL] at h
  | .arr _ _, _, _, h => by simp [likeSL] at h
  | .bool, x, gs, h => like_one rfl rfl (by revert h; rcases gs with _ | ⟨g, _ | ⟨_, _⟩⟩ <;> simp [likeSL])
  | .int _, x, gs, h => like_one rfl rfl (by revert h; rcases gs with _ | ⟨g, _ | ⟨_, _⟩⟩ <;> simp [likeSL])
  | .byte, x, gs, h => like_one rfl rfl (by revert h; rcases gs with _ | ⟨g, _ | ⟨_, _⟩⟩ <;> simp [likeSL])
  | .str, x, gs, h => like_one rfl rfl (by revert h; rcases gs with _ | ⟨g, _ | ⟨_, _⟩⟩ <;> simp [likeSL])
  | .opt _ _, x, gs, h => like_one rfl (by cases x <;> rfl) (by revert h; rcases gs with _ | ⟨g, _ | ⟨_, _⟩⟩ <;> simp [likeSL])
  | .sl _ _, x, gs, h => like_one rfl rfl (by revert h; rcases gs with _ | ⟨g, _ | ⟨_, _⟩⟩ <;> simp [likeSL])
  | .tup _, x, gs, h => like_one rfl rfl (by revert h; rcases gs with _ | ⟨g, _ | ⟨_, _⟩⟩ <;> simp [likeSL])
  | .rp _, x, gs, h => like_one rfl rfl (by revert h; rcases gs with _ | ⟨g, _ | ⟨_, _⟩⟩ <;> simp [likeSL])
  | .fn _ _, x, gs, h => like_one rfl rfl (by revert h; rcases gs with _ | ⟨g, _ | ⟨_, _⟩⟩ <;> simp [likeSL])
end

end Go.Nu
/-
  D, text 4: values of a shape, made and read; the functions that are called.
-/
namespace Go.Nu
open Go Go.RowKit

theorem byteV_of {n : Int} (h0 : 0 ≤ n) (h1 : n < 256) : byteV (UInt8.ofNat n.toNat) = .int .u8 n := by
  unfold byteV
  congr 1
  rw [UInt8.toNat_ofNat']
  omega

theorem ite_gives {α : Type} {c : Prop} [Decidable c] {o : Out α} {a : α} (h : (if c then o else .no).gives a) : c ∧ o.gives a := by
  split at h
  · rename_i hc; exact ⟨hc, h⟩
  · exact h.elim
theorem dite_gives {α : Type} {c : Prop} [Decidable c] {o : c → Out α} {a : α} (h : (if h : c then o h else .no).gives a) : ∃ hc : c, (o hc).gives a := by
  split at h
  · rename_i hc; exact ⟨hc, h⟩
  · exact h.elim
theorem v_gives {s s' : Sh} {y : den s'} {x : den s} {o : Out (den s)} (h : (if h : s' = s then .pure (castD h y) else o).gives x) : toV s x = (toV s' y).untag ∨ (s' ≠ s ∧ o.gives x) := by
  split at h
  · rename_i he
    subst he
    rw [untag_toV]
    exact .inl (congrArg _ (show _ = x from h).symm)
  · rename_i he
    exact .inr ⟨he, h⟩

mutual
theorem pack_toV : ∀ {s : Sh} {w : W} {x : den s}, (pack s w).gives x → toV s x = w.toV.untag
  | .agg t s, w, x, h => by
    cases w with
    | v s' y => exact (v_gives (o := .no) h).resolve_right fun h => h.2
    | agg t' fs =>
      obtain ⟨rfl, h1⟩ := ite_gives (α := den s) (a := x) h
      have := packs_toV h1
      show V.agg _ (toVL s x) = V.agg _ (V.untags (W.toVs fs))
      rw [this]
    | _ => exact False.elim h
  | .rp s, w, x, h => by
    cases w with
    | v s' y => exact (v_gives (o := .no) h).resolve_right fun h => h.2
    | rp w' =>
      obtain ⟨hn, h1⟩ := ite_gives (α := den s) (a := x) h
      have := pack_toV h1
      show V.rp (toV s x) = V.rp (W.toV w')
      rw [this, noTag_untag hn]
    | _ => exact False.elim h
  | .fn f s, w, x, h => by
    cases w with
    | v s' y => exact (v_gives (o := .no) h).resolve_right fun h => h.2
    | fn g caps =>
      obtain ⟨⟨rfl, hn⟩, h1⟩ := ite_gives (α := den s) (a := x) h
      have := packs_toV h1
      show V.fn _ (toVL s x) = V.fn _ (W.toVs caps)
      rw [this, noTags_untag hn]
    | con c =>
      unfold pack at h
      split at h
      · rename_i heq; cases heq
      · rename_i heq; cases heq
      · rename_i g heq
        cases heq
        obtain ⟨rfl, h1⟩ := ite_gives h
        have := packs_toV h1
        show V.fn _ (toVL s x) = V.fn _ []
        rw [this]
        rfl
      · exact h.elim
    | _ => exact False.elim h
  | .tup s, w, x, h => by
    cases w with
    | v s' y => exact (v_gives (o := .no) h).resolve_right fun h => h.2
    | tup fs =>
      have := packs_toV (s := s) (x := x) h
      show V.tup (toVL s x) = V.tup (V.untags (W.toVs fs))
      rw [this]
    | _ => exact False.elim h
  | .byte, w, x, h => by
    cases w with
    | v s' y =>
      cases s' <;> first | exact False.elim h | skip
      · rename_i k
        cases k <;> first | exact False.elim h | skip
        obtain ⟨⟨h0, h1⟩, h2⟩ := (show ((0 : Int) ≤ intD y ∧ intD y < (256 : Int)) ∧ UInt8.ofNat (Int.toNat (intD y)) = x from h)
        rw [← h2]
        exact byteV_of h0 h1
      · rw [← (show y = x from h)]
        rfl
    | _ => exact False.elim h
  | .int k, w, x, h => by
    cases w with
    | v s' y =>
      by_cases he : s' = .int k
      · subst he
        have h' := v_gives (y := y) (x := x) (o := .no) (by unfold pack at h; simpa only [dif_pos] using h)
        exact h'.resolve_right fun h => h.2
      · unfold pack at h
        simp only [dif_neg he] at h
        split at h
        · rw [← (show _ = x from h)]
          rfl
        · exact False.elim h
    | _ => exact False.elim h
  | .sl e s, w, x, h => by
    cases w with
    | v s' y => exact (v_gives (o := .no) h).resolve_right fun h => h.2
    | sl d e' s' l =>
      obtain ⟨⟨rfl, rfl⟩, h1⟩ := dite_gives h
      rw [← (show _ = x from h1)]
      rfl
    | con c =>
      unfold pack at h
      split at h
      · rename_i heq; cases heq
      · rename_i heq; cases heq
      · rename_i e' heq
        cases heq
        obtain ⟨rfl, h1⟩ := ite_gives h
        rw [← (show _ = x from h1)]
        rfl
      · exact h.elim
    | _ => exact False.elim h
  | .opt t s, w, x, h => by
    cases w with
    | v s' y => exact (v_gives (o := .no) h).resolve_right fun h => h.2
    | con c =>
      unfold pack at h
      split at h
      · rename_i heq; cases heq
      · rename_i heq
        cases heq
        rw [← (show _ = x from h)]
        rfl
      · rename_i heq; cases heq
      · exact h.elim
    | iface t' w' =>
      obtain ⟨rfl, h1⟩ := ite_gives h
      obtain ⟨hn, h1⟩ := ite_gives h1
      obtain ⟨y, h1, h2⟩ := bind_gives h1
      have := pack_toV h1
      rw [← (show _ = x from h2)]
      show V.iface _ (toV s y) = V.iface _ (V.untag w'.toV)
      rw [this]
    | _ => exact False.elim h
  | .bool, w, x, h => by
    cases w with
    | v s' y => exact (v_gives (o := .no) h).resolve_right fun h => h.2
    | _ => exact False.elim h
  | .str, w, x, h => by
    cases w with
    | v s' y => exact (v_gives (o := .no) h).resolve_right fun h => h.2
    | _ => exact False.elim h
  | .arr _ _, w, x, h => by
    cases w with
    | v s' y => exact (v_gives (o := .no) h).resolve_right fun h => h.2
    | _ => exact False.elim h
  | .unit, w, x, h => by
    cases w with
    | v s' y => exact (v_gives (o := .no) h).resolve_right fun h => h.2
    | _ => exact False.elim h
  | .pair _ _, w, x, h => by
    cases w with
    | v s' y => exact (v_gives (o := .no) h).resolve_right fun h => h.2
    | _ => exact False.elim h
theorem packs_toV : ∀ {s : Sh} {ws : List W} {x : den s}, (packs s ws).gives x → toVL s x = V.untags (W.toVs ws)
  | .unit, ws, x, h => by
    cases ws with
    | nil => rfl
    | cons => exact False.elim h
  | .pair a b, ws, x, h => by
    cases ws with
    | nil => exact False.elim h
    | cons w ws =>
      obtain ⟨y, h1, h2⟩ := bind_gives (show ((pack a w).bind fun x => (packs b ws).bind fun y => .pure (x, y)).gives x from h)
      obtain ⟨z, h3, h4⟩ := bind_gives h2
      rw [← (show _ = x from h4)]
      have e1 := pack_toV h1
      have e2 := packs_toV h3
      simp only [toVL, W.toVs, V.untags, e2]
      exact congrArg (· :: _) e1
  | .bool, ws, x, h => by
    rcases ws with _ | ⟨w, _ | ⟨w', ws⟩⟩
    · exact False.elim h
    · cases w with
      | v s' y => exact congrArg (fun v => [v]) ((v_gives (o := .no) h).resolve_right fun h => h.2)
      | _ => exact False.elim h
    · exact False.elim h
  | .int _, ws, x, h => by
    rcases ws with _ | ⟨w, _ | ⟨w', ws⟩⟩
    · exact False.elim h
    · cases w with
      | v s' y => exact congrArg (fun v => [v]) ((v_gives (o := .no) h).resolve_right fun h => h.2)
      | _ => exact False.elim h
    · exact False.elim h
  | .byte, ws, x, h => by
    rcases ws with _ | ⟨w, _ | ⟨w', ws⟩⟩
    · exact False.elim h
    · cases w with
      | v s' y => exact congrArg (fun v => [v]) ((v_gives (o := .no) h).resolve_right fun h => h.2)
      | _ => exact False.elim h
    · exact False.elim h
  | .str, ws, x, h => by
    rcases ws with _ | ⟨w, _ | ⟨w', ws⟩⟩
    · exact False.elim h
    · cases w with
      | v s' y => exact congrArg (fun v => [v]) ((v_gives (o := .no) h).resolve_right fun h => h.2)
      | _ => exact False.elim h
    · exact False.elim h
  | .opt _ _, ws, x, h => by
    rcases ws with _ | ⟨w, _ | ⟨w', ws⟩⟩
    · exact False.elim h
    · cases w with
      | v s' y => exact congrArg (fun v => [v]) ((v_gives (o := .no) h).resolve_right fun h => h.2)
      | _ => exact False.elim h
    · exact False.elim h
  | .sl e s, ws, x, h => by
    rcases ws with _ | ⟨w, _ | ⟨w', ws⟩⟩
    · exact False.elim h
    · cases w with
      | v s' y => exact congrArg (fun v => [v]) ((v_gives (o := .no) h).resolve_right fun h => h.2)
      | sl d e' s' l =>
        obtain ⟨⟨rfl, rfl⟩, h1⟩ := dite_gives h
        rw [← (show _ = x from h1)]
        rfl
      | con c =>
        unfold packs at h
        simp only [] at h
        split at h
        · rename_i heq; cases heq
        · rename_i heq; cases heq
        · rename_i e' heq
          cases heq
          obtain ⟨rfl, h1⟩ := ite_gives h
          rw [← (show _ = x from h1)]
          rfl
        · exact h.elim
      | _ => exact False.elim h
    · exact False.elim h
  | .agg t s, ws, x, h => by
    rcases ws with _ | ⟨w, _ | ⟨w', ws⟩⟩
    · exact False.elim h
    · cases w with
      | v s' y => exact congrArg (fun v => [v]) ((v_gives (o := .no) h).resolve_right fun h => h.2)
      | agg t' fs =>
        obtain ⟨rfl, h1⟩ := ite_gives (α := den s) (a := x) h
        have := packs_toV h1
        show [V.agg _ (toVL s x)] = [V.agg _ (V.untags (W.toVs fs))]
        rw [this]
      | _ => exact False.elim h
    · exact False.elim h
  | .arr _ _, ws, x, h => by
    rcases ws with _ | ⟨w, _ | ⟨w', ws⟩⟩
    · exact False.elim h
    · cases w with
      | v s' y => exact congrArg (fun v => [v]) ((v_gives (o := .no) h).resolve_right fun h => h.2)
      | _ => exact False.elim h
    · exact False.elim h
  | .tup _, ws, x, h => by
    rcases ws with _ | ⟨w, _ | ⟨w', ws⟩⟩
    · exact False.elim h
    · cases w with
      | v s' y => exact congrArg (fun v => [v]) ((v_gives (o := .no) h).resolve_right fun h => h.2)
      | _ => exact False.elim h
    · exact False.elim h
  | .rp _, ws, x, h => by
    rcases ws with _ | ⟨w, _ | ⟨w', ws⟩⟩
    · exact False.elim h
    · cases w with
      | v s' y => exact congrArg (fun v => [v]) ((v_gives (o := .no) h).resolve_right fun h => h.2)
      | _ => exact False.elim h
    · exact False.elim h
  | .fn _ _, ws, x, h => by
    rcases ws with _ | ⟨w, _ | ⟨w', ws⟩⟩
    · exact False.elim h
    · cases w with
      | v s' y => exact congrArg (fun v => [v]) ((v_gives (o := .no) h).resolve_right fun h => h.2)
      | _ => exact False.elim h
    · exact False.elim h
end

/-! ### bare nils -/
def nilEq (v v' : V) : Prop := v = v' ∨ ∃ e e', v = .sl none e [] ∧ v' = .sl none e' []

theorem packA_toV {s : Sh} {w : W} {x : den s} (h : (packA s w).gives x) : nilEq w.toV.untag (toV s x) := by
  unfold packA at h
  split at h
  · split at h
    · rw [← (show _ = x from h)]
      exact .inr ⟨_, _, rfl, rfl⟩
    · exact h.elim
  · exact .inl (pack_toV h).symm

def valsL : (as : List Sh) → dens as → List V
  | [], _ => []
  | [a], x => [toV a x]
  | a :: b :: l, x => toV a x.1 :: valsL (b :: l) x.2

theorem packL_toV : ∀ {as : List Sh} {ws : List W} {x : dens as}, (packL as ws).gives x → All2 nilEq (V.untags (ws.map W.toV)) (valsL as x)
  | [], ws, x, h => by
    unfold packL at h
    split at h
    · trivial
    · exact h.elim
  | [a], ws, x, h => by
    rcases ws with _ | ⟨w, _ | ⟨w', ws⟩⟩
    · exact False.elim h
    · exact ⟨packA_toV (s := a) h, trivial⟩
    · exact False.elim h
  | a :: b :: l, ws, x, h => by
    unfold packL at h
    split at h
    · obtain ⟨y, h1, h2⟩ := bind_gives h
      obtain ⟨z, h3, h4⟩ := bind_gives h2
      rw [← (show _ = x from h4)]
      exact ⟨packA_toV h1, packL_toV h3⟩
    · exact h.elim

/-! ### a shape's values are told apart -/
def wf : Sh → Bool
  | .opt _ s | .sl _ s | .arr _ s | .rp s => single s && wf s
  | .agg _ s | .tup s | .fn _ s => wf s
  | .pair a b => single a && wf a && wf b
  | _ => true
theorem single_toVL {s : Sh} (h : single s = true) (x : den s) : toVL s x = [toV s x] := by
  cases s <;> first | rfl | simp [single] at h

theorem toVL_inj : ∀ {s : Sh} {x y : den s}, wf s = true → toVL s x = toVL s y → x = y
  | .bool, x, y, _, h => by injection h with h _; injection h
  | .int _, x, y, _, h => by injection h with h _; injection h
  | .byte, x, y, _, h => by
    injection h with h _
    unfold byteV at h
    injection h with _ h
    exact UInt8.toNat_inj.1 (by omega)
  | .str, x, y, _, h => by injection h with h _; injection h
  | .opt t s, x, y, hw, h => by
    simp only [wf, Bool.and_eq_true] at hw
    injection h with h _
    cases x with
    | none => cases y with
      | none => rfl
      | some y => cases h
    | some x => cases y with
      | none => cases h
      | some y =>
        injection h with _ h
        have : toVL s x = toVL s y := by rw [single_toVL hw.1, single_toVL hw.1]; exact congrArg (fun v => [v]) h
        exact congrArg some (toVL_inj hw.2 this)
  | .sl e s, x, y, hw, h => by
    simp only [wf, Bool.and_eq_true] at hw
    injection h with h _
    injection h with _ _ h
    refine (List.map_inj_right (fun x y h => ?_)).1 h
    have : toVL s x = toVL s y := by rw [single_toVL hw.1, single_toVL hw.1]; exact congrArg (fun v => [v]) h
    exact toVL_inj hw.2 this
  | .agg t s, x, y, hw, h => by
    injection h with h _
    injection h with _ h
    exact toVL_inj (s := s) hw h
  | .arr t s, x, y, hw, h => by
    simp only [wf, Bool.and_eq_true] at hw
    injection h with h _
    injection h with _ h
    refine (List.map_inj_right (fun x y h => ?_)).1 h
    have : toVL s x = toVL s y := by rw [single_toVL hw.1, single_toVL hw.1]; exact congrArg (fun v => [v]) h
    exact toVL_inj hw.2 this
  | .tup s, x, y, hw, h => by
    injection h with h _
    injection h with h
    exact toVL_inj (s := s) hw h
  | .fn f s, x, y, hw, h => by
    injection h with h _
    injection h with _ h
    exact toVL_inj (s := s) hw h
  | .rp s, x, y, hw, h => by
    simp only [wf, Bool.and_eq_true] at hw
    injection h with h _
    injection h with h
    have : toVL s x = toVL s y := (single_toVL (s := s) hw.1 x).trans ((congrArg (fun v => [v]) h).trans (single_toVL (s := s) hw.1 y).symm)
    exact toVL_inj (s := s) hw.2 this
  | .unit, _, _, _, _ => rfl
  | .pair a b, x, y, hw, h => by
    simp only [wf, Bool.and_eq_true] at hw
    injection h with h1 h2
    have e1 : toVL a x.1 = toVL a y.1 := by rw [single_toVL hw.1.1, single_toVL hw.1.1]; exact congrArg (fun v => [v]) h1
    exact Prod.ext (toVL_inj hw.1.2 e1) (toVL_inj hw.2 h2)

theorem toV_inj {s : Sh} {x y : den s} (h1 : single s = true) (h2 : wf s = true) (h : toV s x = toV s y) : x = y :=
  toVL_inj h2 (by rw [single_toVL h1, single_toVL h1, h])

theorem nil_sh {s : Sh} {x : den s} {e : TypeId} (h1 : single s = true) (h : toV s x = .sl none e []) : ∃ s', s = .sl e s' := by
  cases s <;> first | (cases h; done) | (simp [single] at h1; done) | skip
  · cases x <;> cases h
  · rename_i e' s'
    injection h with _ h _
    subst h
    exact ⟨s', rfl⟩

theorem nilEq_inj {s : Sh} {x y : den s} {v : V} (h1 : single s = true) (h2 : wf s = true) (hx : nilEq v (toV s x)) (hy : nilEq v (toV s y)) : x = y := by
  refine toV_inj h1 h2 ?_
  rcases hx with hx | ⟨e, e', hx, hx'⟩ <;> rcases hy with hy | ⟨u, u', hy, hy'⟩
  · rw [← hx, hy]
  · subst hy
    obtain ⟨s', rfl⟩ := nil_sh h1 hx.symm
    rw [← hx, hy']
    obtain ⟨s'', h⟩ := nil_sh h1 hy'
    injection h with h _
    rw [h]
  · subst hx
    obtain ⟨s', rfl⟩ := nil_sh h1 hy.symm
    rw [← hy, hx']
    obtain ⟨s'', h⟩ := nil_sh h1 hx'
    injection h with h _
    rw [h]
  · obtain ⟨s', rfl⟩ := nil_sh h1 hx'
    obtain ⟨s'', h⟩ := nil_sh h1 hy'
    injection h with h _
    rw [hx', hy', h]

def wfA (as : List Sh) : Bool := as.all fun s => single s && wf s
theorem valsL_inj {vs : List V} : ∀ {as : List Sh} {x y : dens as}, wfA as = true → All2 nilEq vs (valsL as x) → All2 nilEq vs (valsL as y) → x = y := by
  intro as
  induction as generalizing vs with
  | nil => intro x y _ _ _; rfl
  | cons a l ih =>
    intro x y hw hx hy
    simp only [wfA, List.all_cons, Bool.and_eq_true] at hw
    cases l with
    | nil =>
      cases vs with
      | nil => exact hx.elim
      | cons v vs => exact nilEq_inj hw.1.1 hw.1.2 hx.1 hy.1
    | cons b l =>
      cases vs with
      | nil => exact hx.elim
      | cons v vs => exact Prod.ext (nilEq_inj hw.1.1 hw.1.2 hx.1 hy.1) (ih (by simpa [wfA] using hw.2) hx.2 hy.2)

/-! ### the functions that are known, as plain code asks them -/
/-- The result where a part is surely nil. -/
def nilVal (i : Nat) (p : List Nat) : V → Option V
  | .tup vs => match vs[i]? with
    | some v => match v.at_ p with
      | some (.sl none e []) => some (.tup (vs.set i (v.setAt p (.sl (some nilT) e []))))
      | _ => none
    | none => none
  | _ => none
theorem setNilW_ok : ∀ {p : List Nat} {x z : W}, (setNilW x p).gives z → ∃ e, x.toV.at_ p = some (.sl none e []) ∧ x.toV.setAt p (.sl (some nilT) e []) = z.toV
  | [], x, z, h => by
    unfold setNilW at h
    split at h
    · rename_i e s l
      obtain ⟨h1, h2⟩ := h
      obtain rfl : l = [] := List.eq_nil_of_length_eq_zero h1
      rw [← (show _ = z from h2)]
      exact ⟨e, rfl, rfl⟩
    · exact h.elim
  | i :: p, x, z, h => by
    unfold setNilW at h
    split at h
    · rename_i t fs ha
      split at h
      · rename_i y hy
        obtain ⟨z', h1, h2⟩ := bind_gives h
        obtain ⟨e, h3, h4⟩ := setNilW_ok h1
        rw [nth_eq] at hy
        have hg : (W.toVs fs)[i]? = some y.toV := by rw [toVs_map, List.getElem?_map, hy]; rfl
        rw [← (show _ = z from h2), asAgg_toV ha]
        refine ⟨e, by simp only [V.at_, hg, h3], ?_⟩
        have hd : (W.toVs fs).getD i .junk = y.toV := by rw [List.getD_eq_getElem?_getD, hg]; rfl
        simp only [V.setAt, hd, h4, W.toV, setNth_eq]
        rw [toVs_map, toVs_map, List.map_set]
      · exact h.elim
    · exact h.elim
theorem nilsW_ok {rs : Sh} {y : den rs} {i : Nat} {p : List Nat} {w : W} (h : (nilsW rs y i p).gives w) : nilVal i p (toV rs y) = some w.toV := by
  unfold nilsW at h
  split at h
  · rename_i s y
    split at h
    · rename_i x hx
      obtain ⟨z, h1, h2⟩ := bind_gives h
      obtain ⟨e, h3, h4⟩ := setNilW_ok h1
      rw [nth_eq] at hx
      have hp : toV (.tup s) y = .tup (W.toVs (parts s y)) := by
        have := parts_toV s y
        show V.tup (toVL s y) = _
        rw [this]
      have hg : (W.toVs (parts s y))[i]? = some x.toV := by rw [toVs_map, List.getElem?_map, hx]; rfl
      rw [← (show _ = w from h2), hp]
      simp only [nilVal, hg, h3, h4, W.toV, setNth_eq]
      rw [toVs_map, toVs_map, List.map_set]
    · exact h.elim
  · exact h.elim
open Classical in
noncomputable def extT (TT : List TEnt) : Ext where
  p := fun f vs => match findT TT f with
    | none => none
    | some t => match t.kd with
      | .plain => if h : ∃ y x, All2 nilEq vs (valsL t.as x) ∧ t.F x = some y then some (toV t.rs h.choose) else none
      | .plainN i p => if h : ∃ y x, All2 nilEq vs (valsL t.as x) ∧ t.F x = some y then nilVal i p (toV t.rs h.choose) else none
      | .may _ => if h : ∃ y x, All2 nilEq vs (valsL t.as x) ∧ t.F x = some y then (match toV t.rs h.choose with
        | .iface _ v => some v
        | _ => none) else none
      | _ => none
  x := fun f vs => match findT TT f with
    | none => none
    | some t => match t.kd with
      | .may T => if h : ∃ y x, All2 nilEq vs (valsL t.as x) ∧ t.F x = some y then (match toV t.rs h.choose with
        | .nili => some T
        | _ => none) else none
      | _ => none
  b := fun f => match findT TT f with
    | none => none
    | some t => match t.kd with
      | .bld ty e => some (ty, e)
      | _ => none
  l := fun f vs ct => match findT TT f with
    | none => none
    | some t => match t.kd with
      | .lent k => if h : ∃ y x, All2 nilEq vs ((valsL t.as x).set k (refTo lentT ct)) ∧ (valsL t.as x)[k]? = some ct ∧ t.F x = some y then (match toVL t.rs h.choose with
        | [r, c] => some (c, r)
        | _ => none) else none
      | _ => none
  n := fun f vs => match findT TT f with
    | none => none
    | some t => match t.kd with
      | .new => if h : ∃ y x, All2 nilEq vs (valsL t.as x) ∧ t.F x = some y then some (toV t.rs h.choose) else none
      | _ => none

structure TEnt.Wf (t : TEnt) : Prop where
  as : wfA t.as = true

def AllT (p : TEnt → Prop) : List TEnt → Prop
  | [] => True
  | t :: l => p t ∧ AllT p l
theorem findT_all {p : TEnt → Prop} {f : FuncId} : ∀ {TT : List TEnt} {t : TEnt}, AllT p TT → findT TT f = some t → p t ∧ t.f = f
  | [], _, _, h => by cases h
  | u :: l, t, hp, h => by
    unfold findT at h
    split at h
    · rename_i hb
      cases h
      exact ⟨hp.1, Nat.eq_of_beq_eq_true hb⟩
    · exact findT_all hp.2 h

theorem extT_eq {TT : List TEnt} {t : TEnt} {f : FuncId} {vs : List V} {x : dens t.as} {y : den t.rs} (hf : findT TT f = some t) (hk : t.kd = .plain) (hw : wfA t.as = true) (hx : All2 nilEq vs (valsL t.as x)) (hy : t.F x = some y) :
    (extT TT).p f vs = some (toV t.rs y) := by
  unfold extT
  simp only [hf, hk]
  have hex : ∃ y x, All2 nilEq vs (valsL t.as x) ∧ t.F x = some y := ⟨y, x, hx, hy⟩
  simp only [dif_pos hex]
  obtain ⟨x', hx', hy'⟩ := hex.choose_spec
  have := valsL_inj hw hx hx'
  subst this
  rw [hy] at hy'
  rw [Option.some.inj hy']

theorem extT_eqP {TT : List TEnt} {t : TEnt} {f : FuncId} {i : Nat} {p : List Nat} {vs : List V} {x : dens t.as} {y : den t.rs} (hf : findT TT f = some t) (hk : t.kd = .plainN i p) (hw : wfA t.as = true) (hx : All2 nilEq vs (valsL t.as x)) (hy : t.F x = some y) :
    (extT TT).p f vs = nilVal i p (toV t.rs y) := by
  unfold extT
  simp only [hf, hk]
  have hex : ∃ y x, All2 nilEq vs (valsL t.as x) ∧ t.F x = some y := ⟨y, x, hx, hy⟩
  simp only [dif_pos hex]
  obtain ⟨x', hx', hy'⟩ := hex.choose_spec
  have := valsL_inj hw hx hx'
  subst this
  rw [hy] at hy'
  rw [Option.some.inj hy']

theorem extT_eqM {TT : List TEnt} {t : TEnt} {f : FuncId} {T u : TypeId} {vs : List V} {x : dens t.as} {y : den t.rs} {v : V} (hf : findT TT f = some t) (hk : t.kd = .may T) (hw : wfA t.as = true) (hx : All2 nilEq vs (valsL t.as x)) (hy : t.F x = some y) (hv : toV t.rs y = .iface u v) :
    (extT TT).p f vs = some v := by
  unfold extT
  simp only [hf, hk]
  have hex : ∃ y x, All2 nilEq vs (valsL t.as x) ∧ t.F x = some y := ⟨y, x, hx, hy⟩
  simp only [dif_pos hex]
  obtain ⟨x', hx', hy'⟩ := hex.choose_spec
  have := valsL_inj hw hx hx'
  subst this
  rw [hy] at hy'
  rw [← Option.some.inj hy', hv]
theorem extT_eqX {TT : List TEnt} {t : TEnt} {f : FuncId} {T : TypeId} {vs : List V} {x : dens t.as} {y : den t.rs} (hf : findT TT f = some t) (hk : t.kd = .may T) (hw : wfA t.as = true) (hx : All2 nilEq vs (valsL t.as x)) (hy : t.F x = some y) (hv : toV t.rs y = .nili) :
    (extT TT).x f vs = some T := by
  unfold extT
  simp only [hf, hk]
  have hex : ∃ y x, All2 nilEq vs (valsL t.as x) ∧ t.F x = some y := ⟨y, x, hx, hy⟩
  simp only [dif_pos hex]
  obtain ⟨x', hx', hy'⟩ := hex.choose_spec
  have := valsL_inj hw hx hx'
  subst this
  rw [hy] at hy'
  rw [← Option.some.inj hy', hv]
theorem extT_eqN {TT : List TEnt} {t : TEnt} {f : FuncId} {vs : List V} {x : dens t.as} {y : den t.rs} (hf : findT TT f = some t) (hk : t.kd = .new) (hw : wfA t.as = true) (hx : All2 nilEq vs (valsL t.as x)) (hy : t.F x = some y) :
    (extT TT).n f vs = some (toV t.rs y) := by
  unfold extT
  simp only [hf, hk]
  have hex : ∃ y x, All2 nilEq vs (valsL t.as x) ∧ t.F x = some y := ⟨y, x, hx, hy⟩
  simp only [dif_pos hex]
  obtain ⟨x', hx', hy'⟩ := hex.choose_spec
  have := valsL_inj hw hx hx'
  subst this
  rw [hy] at hy'
  rw [Option.some.inj hy']

theorem nilEq_refl (v : V) : nilEq v v := .inl rfl
theorem all2_set {α β : Type} {R : α → β → Prop} : ∀ {l : List α} {l' : List β} {k : Nat} {a : α} {b : β}, All2 R l l' → R a b → All2 R (l.set k a) (l'.set k b)
  | [], [], _, _, _, _, _ => trivial
  | _ :: _, _ :: _, 0, _, _, h, hr => ⟨hr, h.2⟩
  | _ :: _, _ :: _, k + 1, _, _, h, hr => ⟨h.1, all2_set h.2 hr⟩
  | [], _ :: _, _, _, _, h, _ => h.elim
  | _ :: _, [], _, _, _, h, _ => h.elim
theorem all2_unset {vs l : List V} {k : Nat} {r ct : V} (h : All2 nilEq vs (l.set k r)) (hk : l[k]? = some ct) : All2 nilEq (vs.set k ct) l := by
  have := all2_set (k := k) h (nilEq_refl ct)
  rw [List.set_set] at this
  have e : l.set k ct = l := by
    apply List.ext_getElem?
    intro i
    rw [List.getElem?_set]
    split
    · rename_i e; subst e
      have := (List.getElem?_eq_some_iff.1 hk).1
      rw [if_pos this, hk]
    · rfl
  rwa [e] at this

theorem extT_eqL {TT : List TEnt} {t : TEnt} {f : FuncId} {k : Nat} {vs : List V} {ct r c : V} {x : dens t.as} {y : den t.rs} (hf : findT TT f = some t) (hk : t.kd = .lent k) (hw : wfA t.as = true) (hx : All2 nilEq vs ((valsL t.as x).set k (refTo lentT ct))) (hc : (valsL t.as x)[k]? = some ct)
    (hy : t.F x = some y) (hr : toVL t.rs y = [r, c]) : (extT TT).l f vs ct = some (c, r) := by
  unfold extT
  simp only [hf, hk]
  have hex : ∃ y x, All2 nilEq vs ((valsL t.as x).set k (refTo lentT ct)) ∧ (valsL t.as x)[k]? = some ct ∧ t.F x = some y := ⟨y, x, hx, hc, hy⟩
  simp only [dif_pos hex]
  obtain ⟨x', hx', hc', hy'⟩ := hex.choose_spec
  have := valsL_inj hw (all2_unset hx hc) (all2_unset hx' hc')
  subst this
  rw [hy] at hy'
  rw [← Option.some.inj hy', hr]

theorem extT_some {TT : List TEnt} {f : FuncId} {vs : List V} {res : V} (h : (extT TT).p f vs = some res) : ∃ t x y, findT TT f = some t ∧ All2 nilEq vs (valsL t.as x) ∧ t.F x = some y ∧ ((t.kd = .plain ∧ res = toV t.rs y) ∨ (∃ i p, t.kd = .plainN i p ∧ nilVal i p (toV t.rs y) = some res) ∨ ∃ T u, t.kd = .may T ∧ toV t.rs y = .iface u res) := by
  unfold extT at h
  simp only [] at h
  split at h
  · cases h
  · rename_i t hf
    split at h
    · rename_i hk
      split at h
      · rename_i hex
        cases h
        obtain ⟨x, hx, hy⟩ := hex.choose_spec
        exact ⟨t, x, _, hf, hx, hy, .inl ⟨hk, rfl⟩⟩
      · cases h
    · rename_i i p hk
      split at h
      · rename_i hex
        obtain ⟨x, hx, hy⟩ := hex.choose_spec
        exact ⟨t, x, _, hf, hx, hy, .inr (.inl ⟨i, p, hk, h⟩)⟩
      · cases h
    · rename_i T hk
      split at h
      · rename_i hex
        obtain ⟨x, hx, hy⟩ := hex.choose_spec
        split at h
        · rename_i u v hv
          cases h
          exact ⟨t, x, _, hf, hx, hy, .inr (.inr ⟨T, u, hk, hv⟩)⟩
        · cases h
      · cases h
    · cases h
theorem extT_someX {TT : List TEnt} {f : FuncId} {vs : List V} {T : TypeId} (h : (extT TT).x f vs = some T) : ∃ t x y, findT TT f = some t ∧ All2 nilEq vs (valsL t.as x) ∧ t.F x = some y ∧ t.kd = .may T ∧ toV t.rs y = .nili := by
  unfold extT at h
  simp only [] at h
  split at h
  · cases h
  · rename_i t hf
    split at h
    · rename_i T hk
      split at h
      · rename_i hex
        obtain ⟨x, hx, hy⟩ := hex.choose_spec
        split at h
        · rename_i hv
          cases h
          exact ⟨t, x, _, hf, hx, hy, hk, hv⟩
        · cases h
      · cases h
    · cases h
theorem extT_someN {TT : List TEnt} {f : FuncId} {vs : List V} {res : V} (h : (extT TT).n f vs = some res) : ∃ t x y, findT TT f = some t ∧ t.kd = .new ∧ All2 nilEq vs (valsL t.as x) ∧ t.F x = some y ∧ res = toV t.rs y := by
  unfold extT at h
  simp only [] at h
  split at h
  · cases h
  · rename_i t hf
    split at h
    · rename_i hk
      split at h
      · rename_i hex
        cases h
        obtain ⟨x, hx, hy⟩ := hex.choose_spec
        exact ⟨t, x, _, hf, hk, hx, hy, rfl⟩
      · cases h
    · cases h
theorem extT_someL {TT : List TEnt} {f : FuncId} {vs : List V} {ct c r : V} (h : (extT TT).l f vs ct = some (c, r)) : ∃ t k x y, findT TT f = some t ∧ t.kd = .lent k ∧ All2 nilEq vs ((valsL t.as x).set k (refTo lentT ct)) ∧ (valsL t.as x)[k]? = some ct ∧ t.F x = some y ∧ toVL t.rs y = [r, c] := by
  unfold extT at h
  simp only [] at h
  split at h
  · cases h
  · rename_i t hf
    split at h
    · rename_i k hk
      split at h
      · rename_i hex
        obtain ⟨x, hx, hc, hy⟩ := hex.choose_spec
        split at h
        · rename_i hr
          cases h
          exact ⟨t, k, x, _, hf, hk, hx, hc, hy, hr⟩
        · cases h
      · cases h
    · cases h

theorem callW_ok {TT : List TEnt} {f : FuncId} {ws : List W} {w : W} (hT : AllT (fun t => wfA t.as = true) TT) (h : (callW TT f ws).gives w) :
    (ws.map W.toV).all V.mem = true ∧ (extT TT).p f (V.untags (ws.map W.toV)) = some w.toV := by
  unfold callW at h
  split at h
  · rename_i t hf
    split at h
    · rename_i hk
      split at h
      · rename_i hm
        obtain ⟨x, h1, y, h2, h3⟩ := bind_gives h
        refine ⟨?_, ?_⟩
        · rw [List.all_map]
          rw [List.all_eq_true] at hm ⊢
          exact fun w hw => memW_toV (hm w hw)
        · rw [← (show _ = w from h3)]
          exact extT_eq hf hk (findT_all hT hf).1 (packL_toV h1) h2
      · exact h.elim
    · rename_i i p hk
      split at h
      · rename_i hm
        obtain ⟨x, h1, y, h2, h3⟩ := bind_gives h
        refine ⟨?_, ?_⟩
        · rw [List.all_map]
          rw [List.all_eq_true] at hm ⊢
          exact fun w hw => memW_toV (hm w hw)
        · rw [extT_eqP hf hk (findT_all hT hf).1 (packL_toV h1) h2]
          exact nilsW_ok h3
      · exact h.elim
    · exact h.elim
  · exact h.elim
theorem cnW_ok {TT : List TEnt} {f : FuncId} {ws : List W} {w : W} (hT : AllT (fun t => wfA t.as = true) TT) (h : (cnW TT f ws).gives w) :
    (ws.map W.toV).all V.mem = true ∧ (extT TT).n f (V.untags (ws.map W.toV)) = some w.toV := by
  unfold cnW at h
  split at h
  · rename_i t hf
    split at h
    · rename_i hk
      split at h
      · rename_i hm
        obtain ⟨x, h1, y, h2, h3⟩ := bind_gives h
        refine ⟨?_, ?_⟩
        · rw [List.all_map]
          rw [List.all_eq_true] at hm ⊢
          exact fun w hw => memW_toV (hm w hw)
        · rw [← (show _ = w from h3)]
          exact extT_eqN hf hk (findT_all hT hf).1 (packL_toV h1) h2
      · exact h.elim
    · exact h.elim
  · exact h.elim

end Go.Nu
/-
  D, text 5: states; each operation does what the plain code's does.
-/
namespace Go.Nu
open Go Go.RowKit

theorem beq_t {i j : Nat} (h : Nat.beq i j = true) : i = j := Nat.eq_of_beq_eq_true h
theorem beq_f {i j : Nat} (h : Nat.beq i j = false) : i ≠ j := fun e => by subst e; simp at h

theorem lu_ins {α : Type} : ∀ (l : List (Nat × α)) (d i : Nat) (a : α), lu (ins l d a) i = if i = d then some a else lu l i
  | [], d, i, a => by
    simp only [ins, lu]
    cases h : Nat.beq i d with
    | true => rw [if_pos (beq_t h)]
    | false => rw [if_neg (beq_f h)]
  | (j, b) :: l, d, i, a => by
    unfold ins
    cases h : Nat.beq d j with
    | true =>
      obtain rfl := beq_t h
      simp only [lu]
      cases h' : Nat.beq i d with
      | true => rw [if_pos (beq_t h')]
      | false => rw [if_neg (beq_f h')]
    | false =>
      have hd := beq_f h
      simp only [lu]
      cases h' : Nat.beq i j with
      | true => rw [if_neg (by rw [beq_t h']; exact hd.symm)]
      | false => exact lu_ins l d i a

def luV (l : List (Nat × W)) (i : Nat) : V := match lu l i with
  | some w => w.toV
  | none => .junk
def toSt (st : WSt) : St := ⟨luV st.s, fun i => (lu st.bx i).map W.toV, lu st.fr⟩

theorem luV_ins (l : List (Nat × W)) (d : Nat) (w : W) : luV (ins l d w) = upd (luV l) d w.toV := by
  funext i
  unfold luV upd
  rw [lu_ins]
  by_cases h : i = d
  · rw [if_pos h, if_pos h]
  · rw [if_neg h, if_neg h]
theorem bx_ins (l : List (Nat × W)) (d : Nat) (w : W) : (fun i => (lu (ins l d w) i).map W.toV) = upd (fun i => (lu l i).map W.toV) d (some w.toV) := by
  funext i
  unfold upd
  rw [lu_ins]
  by_cases h : i = d
  · rw [if_pos h, if_pos h]; rfl
  · rw [if_neg h, if_neg h]
theorem fr_ins {α : Type} (l : List (Nat × α)) (d : Nat) (a : α) : lu (ins l d a) = upd (lu l) d (some a) := by
  funext i
  unfold upd
  exact lu_ins l d i a

theorem evX_toV (st : WSt) (x : X) : x.ev (toSt st) = (evX st x).toV := by
  cases x with
  | t n =>
    show luV st.s n = ((lu st.s n).getD (.con .junk)).toV
    unfold luV
    cases lu st.s n <;> rfl
  | v x => exact (ofC_toV x).symm

theorem evX_map (st : WSt) (xs : List X) : xs.map (X.ev (toSt st)) = (xs.map (evX st)).map W.toV := by
  rw [List.map_map]
  exact List.map_congr_left fun x _ => evX_toV st x

variable {T : List TEnt} {SH : List (TypeId × Sh)} {st : WSt} {δ : Dl} {d : Option Nat} {args : List V}

theorem toSt_putD (w : W) : toSt (st.app (putD d w)) = (toSt st).putO d w.toV := by
  cases d with
  | none => rfl
  | some d =>
    show (⟨luV (ins st.s d w), _, _⟩ : St) = ⟨upd (luV st.s) d w.toV, _, _⟩
    rw [luV_ins]
    rfl

theorem okP {f : List V → Option V} {w : W} (h : f args = some w.toV) : stepK d args (.P f) (toSt st) = some (toSt (st.app (putD d w))) := by
  simp only [stepK, h, toSt_putD]
theorem okLd {f : List V → (Nat → Option V) → Option V} {w : W} (h : f args (toSt st).bx = some w.toV) : stepK d args (.L f) (toSt st) = some (toSt (st.app (putD d w))) := by
  simp only [stepK, h, toSt_putD]

theorem outS_gives {o : Out W} (h : (outS d o).gives δ) : ∃ w, o.gives w ∧ δ = putD d w := by
  obtain ⟨w, h1, h2⟩ := bind_gives h
  exact ⟨w, h1, (show _ = δ from h2).symm⟩

theorem outP {o : Out W} {f : List V → Option V} (h : (outS d o).gives δ) (hf : ∀ w, o.gives w → f args = some w.toV) : stepK d args (.P f) (toSt st) = some (toSt (st.app δ)) := by
  obtain ⟨w, h1, rfl⟩ := outS_gives h
  exact okP (hf w h1)
theorem outL {o : Out W} {f : List V → (Nat → Option V) → Option V} (h : (outS d o).gives δ) (hf : ∀ w, o.gives w → f args (toSt st).bx = some w.toV) : stepK d args (.L f) (toSt st) = some (toSt (st.app δ)) := by
  obtain ⟨w, h1, rfl⟩ := outS_gives h
  exact okLd (hf w h1)

theorem arI_ok {op : BinOp} {k k' : IntKind} {a b : Int} {w : W} (h : (arI op k a k' b).gives w) : binV op (.int k a) (.int k' b) = some w.toV := by
  unfold arI at h
  split at h
  · obtain ⟨h1, h2⟩ := h
    rw [← (show W.v (.int k) (shlI k a b) = w from h2)]
    simp only [binV, if_neg (Int.not_lt.2 h1)]
    unfold shlI; rfl
  · obtain ⟨h1, h2⟩ := h
    rw [← (show W.v (.int k) (shrI k a b) = w from h2)]
    simp only [binV, if_neg (Int.not_lt.2 h1)]
    unfold shrI; rfl
  · replace h := ite_gives h
    obtain ⟨he, h⟩ := h
    subst he
    split at h
    · rw [← (show W.v (.int k) _ = w from h)]; simp [binV]; rfl
    · rw [← (show W.v (.int k) _ = w from h)]; simp [binV]; rfl
    · rw [← (show W.v (.int k) _ = w from h)]; simp [binV]; rfl
    · rw [← (show W.v (.int k) _ = w from h.2)]; simp [binV, h.1]; rfl
    · rw [← (show W.v (.int k) _ = w from h.2)]; simp [binV, h.1]; rfl
    · rw [← (show W.v (.int k) _ = w from h)]; simp [binV, andI]; rfl
    · rw [← (show W.v (.int k) _ = w from h)]; simp [binV, orI]; rfl
    · rw [← (show W.v (.int k) _ = w from h)]; simp [binV, xorI]; rfl
    · rw [← (show W.v (.int k) _ = w from h)]; simp [binV, andNotI]; rfl
    · rw [← (show W.v .bool _ = w from h)]; simp [binV]; rfl
    · rw [← (show W.v .bool _ = w from h)]; simp [binV]; rfl
    · rw [← (show W.v .bool _ = w from h)]; simp [binV]; rfl
    · rw [← (show W.v .bool _ = w from h)]; simp [binV]; rfl
    · rw [← (show W.v .bool _ = w from h)]; simp [binV]; rfl
    · rw [← (show W.v .bool _ = w from h)]; simp [binV]; rfl
    · exact h.elim

theorem beqS (a b : List UInt8) : (a == b) = decide (a = b) := by
  by_cases h : a = b <;> simp [h]
theorem arS_ok {op : BinOp} {a b : List UInt8} {w : W} (h : (arS op a b).gives w) : binV op (.str a) (.str b) = some w.toV := by
  unfold arS at h
  split at h
  · rw [← (show W.v .str _ = w from h.2)]; simp [binV, h.1]; rfl
  · rw [← (show W.v .bool _ = w from h)]; simp only [binV, beqS]; rfl
  · rw [← (show W.v .bool _ = w from h)]; simp only [binV, beqS]; rfl
  · rw [← (show W.v .bool _ = w from h)]; simp only [binV]; rfl
  · rw [← (show W.v .bool _ = w from h)]; simp only [binV, beqS]; rfl
  · rw [← (show W.v .bool _ = w from h)]; simp only [binV, beqS]; rfl
  · rw [← (show W.v .bool _ = w from h)]; simp only [binV]; rfl
  · exact h.elim

theorem arW_ok {op : BinOp} {x y w : W} (h : (arW op x y).gives w) : binV op x.toV y.toV = some w.toV := by
  unfold arW at h
  split at h
  · rename_i k a k' b h1 h2
    rw [asInt_toV h1, asInt_toV h2]
    exact arI_ok h
  · split at h
    · rename_i a b h1 h2
      rw [asStr_toV h1, asStr_toV h2]
      exact arS_ok h
    · exact h.elim

theorem unW_ok {op : UnOp} {x w : W} (h : (unW op x).gives w) : unV op x.toV = some w.toV := by
  unfold unW at h
  split at h
  · split at h
    · rename_i b h1
      rw [asBool_toV h1, ← (show W.v .bool _ = w from h)]; rfl
    · exact h.elim
  · split at h
    · rename_i k n h1
      rw [asInt_toV h1, ← (show W.v (.int k) _ = w from h)]; rfl
    · exact h.elim
  · exact h.elim

theorem bx_arr {d : Nat} {t : TypeId} {a : SlV} (h : (lu st.bx d).bind asArr = some (t, a)) : (toSt st).bx d = some (.agg t (a.l.map (toV a.s))) := by
  obtain ⟨w, h1, h2⟩ := Option.bind_eq_some_iff.1 h
  show (lu st.bx d).map W.toV = _
  rw [h1, ← asArr_toV h2]
  rfl

theorem lenW_ok {e : Option TypeId} {x w : W} (h : (lenW e x st).gives w) : lenB e x.toV (toSt st).bx = some w.toV := by
  unfold lenW at h
  split at h
  · split at h
    · rename_i l h1
      rw [asStr_toV h1, ← (show W.v (.int .i64) _ = w from h)]; rfl
    · exact h.elim
  · split at h
    · split at h
      · rename_i t a h1
        replace h := ite_gives h
        obtain ⟨he, h⟩ := h
        subst he
        rw [← (show W.v (.int .i64) _ = w from h)]
        simp only [W.toV, lenB, bx_arr h1, if_true, List.length_map]
        rfl
      · exact h.elim
    · rw [← (show W.v (.int .i64) _ = w from h)]; rfl
    · split at h
      · rename_i a h1
        obtain ⟨tg, e1⟩ := asSl_toV h1
        rw [e1, ← (show W.v (.int .i64) _ = w from h)]
        simp only [lenB, lenV, Option.isSome_some, if_true, List.length_map]
        rfl
      · exact h.elim

theorem ixW_ok {x i w : W} (h : (ixW x i).gives w) : idxV x.toV i.toV = some w.toV := by
  unfold ixW at h
  split at h
  · rename_i l k i h1 h2
    rw [asStr_toV h1, asInt_toV h2, ← (show W.v .byte _ = w from h.2)]
    simp only [idxV, if_pos h.1]
    rfl
  · exact h.elim

theorem eaW_ok {e : TypeId} {x i w : W} (h : (eaW e x i st).gives w) : eaB e x.toV i.toV (toSt st).bx = some w.toV := by
  unfold eaW at h
  split at h
  · exact h.elim
  · rename_i k i h2
    rw [asInt_toV h2]
    split at h
    · split at h
      · rename_i t a h1
        replace h := ite_gives h
        obtain ⟨he, h⟩ := h
        subst he
        rw [← (show W.con _ = w from h.2)]
        simp only [W.toV, eaB, bx_arr h1, if_true, List.length_map, if_pos h.1]
      · exact h.elim
    · split at h
      · rename_i a h1
        obtain ⟨tg, e1⟩ := asSl_toV h1
        replace h := ite_gives h
        obtain ⟨he, h⟩ := h
        subst he
        rw [e1, ← (show W.rp _ = w from h.2)]
        simp only [eaB, eaV, if_true, List.length_map, if_pos h.1]
        rw [getD_toV _ _ _ (by have := h.1; omega)]
        rfl
      · exact h.elim

theorem openRp_toV {x u : W} (h : openRp x = some u) : x.toV = .rp u.toV := by
  unfold openRp at h
  split at h
  · cases h; rfl
  · cases h; rfl
  · cases h

theorem toVs_get (fs : List W) (i : Nat) : (W.toVs fs)[i]? = (nth fs i).map W.toV := by
  rw [toVs_map, nth_eq, List.getElem?_map]

theorem atW_ok : ∀ {p : List Nat} {c w : W}, (atW c p).gives w → c.toV.at_ p = some w.toV
  | [], c, w, h => by
    rw [← (show c = w from by unfold atW at h; exact h)]
    cases c.toV <;> rfl
  | i :: p, c, w, h => by
    unfold atW at h
    split at h
    · rename_i t fs h1
      split at h
      · rename_i x h2
        rw [asAgg_toV h1]
        simp only [V.at_, toVs_get, h2, Option.map_some]
        exact atW_ok h
      · exact h.elim
    · split at h
      · rename_i t a h1
        rw [asArr_toV h1]
        simp only [V.at_, get?_toV _ _ _ h.1]
        exact atW_ok (c := .v a.s _) h.2
      · exact h.elim

theorem bx_at {d : Nat} {c : W} (h : lu st.bx d = some c) : (toSt st).bx d = some c.toV := by
  show (lu st.bx d).map W.toV = _
  rw [h]; rfl

theorem toVs_length (fs : List W) : (W.toVs fs).length = fs.length := by rw [toVs_map, List.length_map]

theorem faW_ok {t : TypeId} {f : Nat} {x w : W} (h : (faW t f x st).gives w) : faV t f x.toV (toSt st).bx = some w.toV := by
  unfold faW at h
  split at h
  · rename_i u h0
    split at h
    · rename_i t' fs h1
      replace h := ite_gives h
      obtain ⟨he, h⟩ := h
      subst he
      obtain ⟨y, h2, h3⟩ := Option.map_eq_some_iff.1 (ofO_gives h)
      subst h3
      rw [openRp_toV h0, asAgg_toV h1]
      simp only [faV, if_true, toVs_get, h2, Option.map_some]
      rfl
    · exact h.elim
  · split at h
    · rename_i d p
      split at h
      · rename_i c h1
        replace h := bind_gives h
        obtain ⟨u, h2, h⟩ := h
        split at h
        · rename_i t' fs h3
          replace h := ite_gives h
          obtain ⟨he, h⟩ := h
          subst he
          replace h := ite_gives h
          obtain ⟨hf, h⟩ := h
          have e := atW_ok h2
          rw [asAgg_toV h3] at e
          rw [← (show W.con _ = w from h)]
          simp only [W.toV, faV, bx_at h1, e, if_true, toVs_length, if_pos hf]
        · exact h.elim
      · exact h.elim
    · exact h.elim

theorem aaW_ok {t : TypeId} {x i w : W} (h : (aaW t x i st).gives w) : aaV t x.toV i.toV (toSt st).bx = some w.toV := by
  unfold aaW at h
  split at h
  · exact h.elim
  · rename_i k i h9
    rw [asInt_toV h9]
    split at h
    · rename_i u h0
      split at h
      · rename_i t' a h1
        replace h := ite_gives h
        obtain ⟨he, h⟩ := h
        subst he
        rw [openRp_toV h0, asArr_toV h1, ← (show W.rp _ = w from h.2)]
        simp only [aaV, if_true, List.length_map, if_pos h.1]
        rw [getD_toV _ _ _ (by have := h.1; omega)]
        rfl
      · exact h.elim
    · split at h
      · rename_i d p
        split at h
        · rename_i c h1
          replace h := bind_gives h
          obtain ⟨u, h2, h⟩ := h
          split at h
          · rename_i t' a h3
            replace h := ite_gives h
            obtain ⟨he, h⟩ := h
            subst he
            have e := atW_ok h2
            rw [asArr_toV h3] at e
            rw [← (show W.con _ = w from h.2)]
            simp only [W.toV, aaV, bx_at h1, e, if_true, List.length_map, if_pos h.1]
          · exact h.elim
        · exact h.elim
      · exact h.elim

theorem fdW_ok {t : TypeId} {f : Nat} {tt : Option TypeId} {x w : W} (h : (fdW t f tt x).gives w) : fdV t f tt x.toV = some w.toV := by
  unfold fdW at h
  split at h
  · rename_i t' fs h1
    replace h := ite_gives h
    obtain ⟨he, h⟩ := h
    subst he
    split at h
    · rename_i u h2
      replace h := ite_gives h
      obtain ⟨h3, h⟩ := h
      obtain rfl : u = w := h
      rw [asAgg_toV h1]
      simp only [fdV, if_true, toVs_get, h2, Option.map_some, fitsW_toV h3]
    · exact h.elim
  · exact h.elim

theorem ldW_ok {t : Option TypeId} {x w : W} (h : (ldW t x st).gives w) : ldV t x.toV (toSt st).bx = some w.toV := by
  unfold ldW at h
  split at h
  · rename_i u h0
    replace h := ite_gives h
    obtain ⟨h3, h⟩ := h
    obtain rfl : u = w := h
    rw [openRp_toV h0]
    simp only [ldV, fitsW_toV h3, if_true]
  · split at h
    · rename_i d p
      split at h
      · rename_i c h1
        replace h := bind_gives h
        obtain ⟨u, h2, h⟩ := h
        replace h := ite_gives h
        obtain ⟨h3, h⟩ := h
        obtain rfl : u = w := h
        simp only [W.toV, ldV, bx_at h1, atW_ok h2, fitsW_toV h3, if_true]
      · exact h.elim
    · exact h.elim

mutual
theorem likeW_ok : ∀ {w y : W}, likeW w y = true → V.alike w.toV y.toV = true
  | .v s x, y, h => likeS_toV h
  | .con c, y, h => by
    simp only [likeW, Bool.and_eq_true, Bool.not_eq_true'] at h
    exact alike_non h.1 (isAggW_toV h.2)
  | .agg t fs, y, h => by
    cases y with
    | agg t' gs =>
      simp only [likeW, Bool.and_eq_true, beq_iff_eq] at h
      simp only [W.toV, V.alike, h.1, beq_self_eq_true, Bool.true_and]
      exact likeWs_ok h.2
    | v s x =>
      cases s <;> first | (simp [likeW] at h; done) | skip
      rename_i t' s
      simp only [likeW, Bool.and_eq_true, beq_iff_eq] at h
      have := likeWs_ok h.2
      have e := parts_toV s x
      rw [e] at this
      show V.alike (.agg t (W.toVs fs)) (.agg t' (toVL s x)) = true
      simp only [V.alike, h.1, beq_self_eq_true, Bool.true_and]
      exact this
    | _ => simp [likeW] at h
  | .tup _, y, h => alike_non rfl (isAggW_toV (by simpa [likeW] using h))
  | .sl _ _ _ _, y, h => alike_non rfl (isAggW_toV (by simpa [likeW] using h))
  | .rp _, y, h => alike_non rfl (isAggW_toV (by simpa [likeW] using h))
  | .iface _ _, y, h => alike_non rfl (isAggW_toV (by simpa [likeW] using h))
  | .fn _ _, y, h => alike_non rfl (isAggW_toV (by simpa [likeW] using h))
  | .itc _ _, y, h => alike_non rfl (isAggW_toV (by simpa [likeW] using h))
  | .bld _ _ _ _, y, h => alike_non rfl (isAggW_toV (by simpa [likeW] using h))
theorem likeWs_ok : ∀ {fs gs : List W}, likeWs fs gs = true → V.alikes (W.toVs fs) (W.toVs gs) = true
  | [], gs, h => by
    cases gs with
    | nil => rfl
    | cons => simp [likeWs] at h
  | f :: fs, gs, h => by
    cases gs with
    | nil => simp [likeWs] at h
    | cons g gs =>
      simp only [likeWs, Bool.and_eq_true] at h
      simp only [W.toVs, V.alikes, likeW_ok h.1, likeWs_ok h.2, Bool.and_self]
end

/-- What has been made of the shape has no row of the call's own. -/
theorem setAt_nil (v x : V) : V.setAt v [] x = x := by cases v <;> rfl

theorem setW_ok : ∀ {p : List Nat} {c y w : W}, (setW c p y).gives w → ∃ v, c.toV.at_ p = some v ∧ V.alike v y.toV = true ∧ c.toV.setAt p y.toV = w.toV
  | [], c, y, w, h => by
    unfold setW at h
    replace h := ite_gives h
    obtain ⟨h1, h⟩ := h
    obtain rfl : y = w := h
    exact ⟨c.toV, by cases c.toV <;> rfl, likeW_ok h1, setAt_nil _ _⟩
  | i :: p, c, y, w, h => by
    unfold setW at h
    split at h
    · rename_i t fs h1
      split at h
      · rename_i x h2
        obtain ⟨z, h3, h4⟩ := bind_gives h
        obtain ⟨v, e1, e2, e3⟩ := setW_ok h3
        rw [← (show _ = w from h4), asAgg_toV h1]
        refine ⟨v, ?_, e2, ?_⟩
        · simp only [V.at_, toVs_get, h2, Option.map_some, e1]
        · simp only [V.setAt, W.toV, setNth_eq, toVs_map, List.map_set]
          rw [List.getD_eq_getElem?_getD, List.getElem?_map, ← nth_eq, h2, ← e3]
          rfl
      · exact h.elim
    · split at h
      · rename_i t a h1
        obtain ⟨hi, h⟩ := h
        obtain ⟨z, h3, h4⟩ := bind_gives h
        obtain ⟨hn, h4⟩ := ite_gives h4
        obtain ⟨u, h5, h6⟩ := bind_gives h4
        obtain ⟨v, e1, e2, e3⟩ := setW_ok h3
        rw [← (show _ = w from h6), asArr_toV h1]
        refine ⟨v, ?_, e2, ?_⟩
        · simp only [V.at_, get?_toV _ _ _ hi]
          exact e1
        · have e4 := pack_toV h5
          rw [noTag_untag hn] at e4
          show V.agg t ((a.l.map (toV a.s)).set i (V.setAt ((a.l.map (toV a.s)).getD i .junk) p y.toV)) = V.agg t ((a.l.set i u).map (toV a.s))
          rw [getD_toV _ _ _ hi, List.map_set, e4]
          exact congrArg (fun q => V.agg t ((a.l.map (toV a.s)).set i q)) e3
      · exact h.elim

end Go.Nu
/-
  D, text 6: one operation of a run is one of the plain code.
-/
namespace Go.Nu
open Go Go.RowKit

theorem decV_toV {s : Sh} {v : V} {x : den s} (h : decV s v = some x) : toV s x = v := by
  unfold decV at h
  split at h
  · cases h; rfl
  · split at h
    · rename_i hk; subst hk; cases h; rfl
    · cases h
  · split at h
    · rename_i hn
      cases h
      exact byteV_of hn.1 hn.2
    · cases h
  · cases h; rfl
  · split at h
    · rename_i he; subst he; cases h; rfl
    · cases h
  · cases h
theorem decVs_toV {s : Sh} : ∀ {vs : List V} {l : List (den s)}, decVs s vs = some l → l.map (toV s) = vs
  | [], l, h => by cases h; rfl
  | v :: vs, l, h => by
    unfold decVs at h
    split at h
    · rename_i x l' h1 h2
      cases h
      rw [List.map_cons, decV_toV h1, decVs_toV h2]
    · cases h
mutual
theorem cstW_toV (SH : List (TypeId × Sh)) : ∀ v : V, (cstW SH v).toV = v
  | .agg t fs => by
    unfold cstW
    split
    · split
      · split
        · rename_i h3
          exact congrArg (V.agg t) (decVs_toV h3)
        · rfl
      · rfl
    · simp only [W.toV, cstWs_toV SH fs]
  | .sl tg e es => by
    cases tg with
    | none => cases es with
      | nil => rfl
      | cons => rfl
    | some d => exact ofC_toV _
  | .bool b => rfl
  | .int k n => rfl
  | .str l => rfl
  | .fn f caps => rfl
  | .junk => rfl
  | .tup _ => rfl
  | .rp _ => rfl
  | .rf _ _ => rfl
  | .it _ => rfl
  | .itc _ _ => rfl
  | .bld _ _ _ _ => rfl
  | .nilp => rfl
  | .iface _ _ => rfl
  | .nili => rfl
theorem cstWs_toV (SH : List (TypeId × Sh)) : ∀ vs : List V, W.toVs (cstWs SH vs) = vs
  | [] => rfl
  | v :: vs => by simp only [cstWs, W.toVs, cstW_toV SH v, cstWs_toV SH vs]
end

theorem setWs_ok : ∀ {is : List Nat} {fs ws gs : List W}, setWs fs is ws = some gs → setL (W.toVs fs) is (ws.map W.toV) = some (W.toVs gs)
  | [], fs, ws, gs, h => by
    unfold setWs at h
    split at h
    · cases h; rfl
    · cases h
  | i :: is, fs, ws, gs, h => by
    unfold setWs at h
    split at h
    · rename_i x xs
      split at h
      · rename_i f h1
        split at h
        · rename_i h2
          simp only [Bool.and_eq_true] at h2
          have := setWs_ok h
          simp only [List.map_cons, setL, toVs_get, h1, Option.map_some, likeW_ok h2.1, memW_toV h2.2, Bool.and_self, if_true]
          rw [← this, setNth_eq, toVs_map, toVs_map, List.map_set]
        · cases h
      · cases h
    · cases h

theorem packAll_ok {s : Sh} : ∀ {ws : List W} {l : List (den s)}, (packAll s ws).gives l → V.untags (ws.map W.toV) = l.map (toV s)
  | [], l, h => by rw [← (show _ = l from h)]; rfl
  | w :: ws, l, h => by
    obtain ⟨x, h1, h2⟩ := bind_gives (show ((pack s w).bind fun x => (packAll s ws).bind fun l => .pure (x :: l)).gives l from h)
    obtain ⟨l', h3, h4⟩ := bind_gives h2
    rw [← (show _ = l from h4)]
    simp only [List.map_cons, V.untags, pack_toV h1, packAll_ok h3]

theorem bytesOfV_map : ∀ l : List UInt8, bytesOfV (l.map byteV) = some l
  | [] => rfl
  | b :: l => by
    have : byteOf (byteV b) = some b := by
      have := UInt8.toNat_lt b
      simp only [byteOf, byteV]
      rw [if_pos (by omega)]
      simp
    simp only [List.map_cons, bytesOfV, this, bytesOfV_map l]

theorem untags_append : ∀ (as bs : List V), V.untags (as ++ bs) = V.untags as ++ V.untags bs
  | [], _ => rfl
  | a :: as, bs => by simp [V.untags, untags_append as bs]

variable {T : List TEnt} {SH : List (TypeId × Sh)} {st : WSt} {δ : Dl} {args : List V}

theorem fr_at (d : Nat) : (toSt st).fr d = lu st.fr d := rfl
theorem bx_none {d : Nat} (h : lu st.bx d = none) : (toSt st).bx d = none := by
  show (lu st.bx d).map W.toV = none
  rw [h]; rfl

theorem okN {d : Nat} {e : TypeId} {s : Sh} {l : List (den s)} {f : List V → Option (TypeId × List V)} (hf : f args = some (e, l.map (toV s))) (h : (rowD d st e s l).gives δ) :
    stepK (some d) args (.N f) (toSt st) = some (toSt (st.app δ)) := by
  unfold rowD at h
  split at h
  · exact h.elim
  · rename_i hn
    rw [← (show _ = δ from h)]
    have e1 : (toSt st).fr d = none := hn
    simp only [stepK, e1, hf]
    show some (⟨upd (luV st.s) d (.sl (some d) e (l.map (toV s))), _, upd (lu st.fr) d (some (e, (l.map (toV s)).length))⟩ : St) = some ⟨luV (ins st.s d (.sl d e s l)), _, lu (ins st.fr d (e, l.length))⟩
    rw [luV_ins, fr_ins, List.length_map]
    rfl

theorem refW_toV (d : Nat) (c : W) (h : boxOk c = true) : refTo d c.toV = (refW d c).toV := by
  unfold refW
  split
  · rfl
  · show (if _ then _ else _) = _
    split <;> rfl
  · show (if _ then _ else _) = _
    split <;> rfl
  · show (if _ then _ else _) = _
    split <;> rfl
  · show (if _ then _ else _) = _
    split <;> rfl
  · rfl
  · rename_i h1 h2 h3 h4 h5 h6
    cases c with
    | v s x =>
      cases s <;> first | rfl | exact (h2 _ _ _ rfl).elim | exact (h3 _ _ _ rfl).elim | (simp [boxOk, memW] at h; done) | skip
      cases x <;> rfl
    | con c => cases c <;> first | rfl | exact (h5 _ _ rfl).elim | exact (h6 _ _ rfl).elim
    | agg t fs => exact (h4 _ _ rfl).elim
    | itc l p => exact (h1 _ _ rfl).elim
    | _ => rfl

theorem okA {d : Nat} {c : W} {f : List V → Option V} (hf : f args = some c.toV) (h : (boxD d st c).gives δ) : stepK (some d) args (.A f) (toSt st) = some (toSt (st.app δ)) := by
  unfold boxD at h
  split at h
  · exact h.elim
  · rename_i hn
    obtain ⟨hc, h⟩ := ite_gives h
    rw [← (show _ = δ from h)]
    have e1 := bx_none hn
    simp only [stepK, e1, hf]
    show some (⟨upd (luV st.s) d (refTo d c.toV), upd (fun i => (lu st.bx i).map W.toV) d (some c.toV), _⟩ : St) = some ⟨luV (ins st.s d (refW d c)), (fun i => (lu (ins st.bx d c) i).map W.toV), _⟩
    rw [luV_ins, bx_ins, refW_toV d c hc]
    rfl

theorem cut_ok {α : Type} {l : List α} {lo hi : Option Int} {k : List α → W} {w : W} (h : (cutL l lo hi k).gives w) :
    ∃ a b : Int, a = lo.getD 0 ∧ b = hi.getD l.length ∧ (0 ≤ a ∧ a ≤ b ∧ b ≤ l.length) ∧ w = k ((l.take b.toNat).drop a.toNat) := by
  unfold cutL at h
  split at h
  · refine ⟨0, l.length, rfl, rfl, ⟨by omega, by omega, by omega⟩, ?_⟩
    rw [← (show k l = w from h)]
    simp
  · rename_i a
    refine ⟨a, l.length, rfl, rfl, ⟨h.1.1, h.1.2, by omega⟩, ?_⟩
    rw [← (show k _ = w from h.2)]
    simp
  · rename_i b
    refine ⟨0, b, rfl, rfl, ⟨by omega, h.1.1, h.1.2⟩, ?_⟩
    rw [← (show k _ = w from h.2)]
    simp
  · rename_i a b
    exact ⟨a, b, rfl, rfl, h.1, (show k _ = w from h.2).symm⟩

theorem lo_some {x : W} {lo : Option Int} (h : lo? (some x) = some lo) : ∃ k i, x.toV = .int k i ∧ lo = some i := by
  unfold lo? at h
  split at h
  · rename_i heq; cases heq
  · rename_i w heq
    cases heq
    split at h
    · rename_i k i h1
      cases h
      exact ⟨k, i, asInt_toV h1, rfl⟩
    · cases h

/-- A place in a list, as the plain code reads it. -/
def loV (d : Int) (x : Option V) : Option Int := match x with
  | none => some d
  | some (.int _ i) => some i
  | _ => none
theorem lo_ok {x : Option W} {lo : Option Int} (h : lo? x = some lo) (d : Int) : loV d (x.map W.toV) = some (lo.getD d) := by
  cases x with
  | none => cases h; rfl
  | some x =>
    obtain ⟨k, i, h1, rfl⟩ := lo_some h
    simp [loV, h1]

theorem scV_str (l : List UInt8) (lo hi : Option V) : scV none (.str l) lo hi = match loV 0 lo, loV l.length hi with
    | some a, some b => if 0 ≤ a ∧ a ≤ b ∧ b ≤ l.length then some (.str ((l.take b.toNat).drop a.toNat)) else none
    | _, _ => none := rfl
theorem scV_sl (e : TypeId) (tg : Option Nat) (l : List V) (lo hi : Option V) : scV (some e) (.sl tg e l) lo hi = match loV 0 lo, loV l.length hi with
    | some a, some b => if 0 ≤ a ∧ a ≤ b ∧ b ≤ l.length then some (.sl none e ((l.take b.toNat).drop a.toNat)) else none
    | _, _ => none := by
  show (if some e ≠ some e then none else _) = _
  rw [if_neg (by simp)]
  rfl
theorem saV_arr (t e : TypeId) (l : List V) (lo hi : Option V) : saV t e (.rp (.agg t l)) lo hi = match loV 0 lo, loV l.length hi with
    | some a, some b => if 0 ≤ a ∧ a ≤ b ∧ b ≤ l.length then some (.sl none e ((l.take b.toNat).drop a.toNat)) else none
    | _, _ => none := by
  show (if t ≠ t then none else _) = _
  rw [if_neg (by simp)]
  rfl

theorem scW_ok {e : Option TypeId} {x w : W} {lo hi : Option W} (h : (scW e x lo hi).gives w) : scV e x.toV (lo.map W.toV) (hi.map W.toV) = some w.toV := by
  unfold scW at h
  split at h
  · rename_i lo' hi' h1 h2
    split at h
    · split at h
      · rename_i l h3
        obtain ⟨a, b, ha, hb, hc, rfl⟩ := cut_ok h
        rw [asStr_toV h3, scV_str, lo_ok h1, lo_ok h2, ← ha, ← hb]
        simp only [if_pos hc]
        rfl
      · exact h.elim
    · split at h
      · rename_i e a' h3
        replace h := ite_gives h
        obtain ⟨he, h⟩ := h
        subst he
        obtain ⟨a, b, ha, hb, hc, rfl⟩ := cut_ok h
        obtain ⟨tg, e1⟩ := asSl_toV h3
        rw [e1, scV_sl, lo_ok h1, lo_ok h2, List.length_map, ← ha, ← hb]
        simp only [if_pos hc, W.toV, toV, toVL, headV, List.map_take, List.map_drop]
        rfl
      · exact h.elim
  · exact h.elim

theorem saW_ok {t e : TypeId} {x w : W} {lo hi : Option W} (h : (saW t e x lo hi).gives w) : saV t e x.toV (lo.map W.toV) (hi.map W.toV) = some w.toV := by
  unfold saW at h
  split at h
  · rename_i lo' hi' u h1 h2 h0
    split at h
    · rename_i t' a' h3
      replace h := ite_gives h
      obtain ⟨he, h⟩ := h
      subst he
      obtain ⟨a, b, ha, hb, hc, rfl⟩ := cut_ok h
      rw [openRp_toV h0, asArr_toV h3, saV_arr, lo_ok h1, lo_ok h2, List.length_map, ← ha, ← hb]
      simp only [if_pos hc, W.toV, toV, toVL, headV, List.map_take, List.map_drop]
      rfl
    · exact h.elim
  · exact h.elim

end Go.Nu
/-
  D, text 7: one operation of a run is one of the plain code.
-/
namespace Go.Nu
open Go Go.RowKit

variable {T : List TEnt} {SH : List (TypeId × Sh)} {st : WSt}

theorem all_fitsW {t : Option TypeId} {ws : List W} (h : (ws.all fun w => fitsW t w && memW w) = true) : ((ws.map W.toV).all fun x => fitsT t x && x.mem) = true := by
  rw [List.all_map, List.all_eq_true]
  rw [List.all_eq_true] at h
  intro w hw
  have := h w hw
  simp only [Bool.and_eq_true] at this
  simp only [Function.comp, fitsW_toV this.1, memW_toV this.2, Bool.and_self]

theorem ap_elems {e : TypeId} {s : Sh} {y : W} {l2 : List (den s)} (h : ((match y with
            | .con (.sl _ _ []) => .pure ([] : List (den s))
            | y => match asSl y with
              | some b => if h : b.e = e ∧ b.s = s then .pure (castD (s := .sl e b.s) (s' := .sl e s) (by rw [h.2]) b.l) else .no
              | none => .no : Out (List (den s)))).gives l2) : elemsOf e y.toV = some (l2.map (toV s)) := by
  split at h
  · rename_i e'
    rw [← (show _ = l2 from h)]
    show (if e' = e then some [] else some []) = _
    split <;> rfl
  · split at h
    · rename_i b h1
      obtain ⟨tg, e1⟩ := asSl_toV h1
      replace h := dite_gives h
      obtain ⟨he, h⟩ := h
      obtain ⟨be, bs, bl⟩ := b
      obtain ⟨h2, h3⟩ := he
      subst h2
      subst h3
      rw [e1, ← (show bl = l2 from h)]
      simp only [elemsOf, if_true]
    · exact h.elim

/-! ### calls with a variable on loan -/
theorem likeO_ok : ∀ (s : Sh) (x y : den s) {u : Unit}, (likeO s x y).gives u → V.alikes (toVL s x) (toVL s y) = true
  | .bool, _, _, _, _ => rfl
  | .int _, _, _, _, _ => rfl
  | .byte, _, _, _, _ => rfl
  | .str, _, _, _, _ => rfl
  | .opt t s, x, y, _, _ => by cases x <;> cases y <;> rfl
  | .sl _ _, _, _, _, _ => rfl
  | .rp _, _, _, _, _ => rfl
  | .fn _ _, _, _, _, _ => rfl
  | .unit, _, _, _, _ => rfl
  | .tup s, x, y, _, h => h.elim
  | .agg t s, x, y, _, h => by
    have := likeO_ok s x y (show (likeO s x y).gives _ from h)
    simp [toVL, V.alikes, V.alike, this]
  | .arr t s, x, y, _, h => by
    obtain ⟨hf, h⟩ := ite_gives (show (if flat s then Out.gdN (List.length x) (List.length y) (.pure ()) else .no).gives _ from h)
    have hl : List.length x = List.length y := h.1
    have key : ∀ (a b : List (den s)), a.length = b.length → V.alikes (a.map fun x => headV (toVL s x)) (b.map fun x => headV (toVL s x)) = true := by
      intro a
      induction a with
      | nil => intro b hb; cases b with
        | nil => rfl
        | cons => simp at hb
      | cons p a ih => intro b hb; cases b with
        | nil => simp at hb
        | cons q b =>
          simp only [List.map_cons, V.alikes, ih b (by simpa using hb), Bool.and_true]
          exact flat_alike1 s p q hf
    simp [toVL, V.alikes, V.alike, key x y hl]
  | .pair a b, x, y, _, h => by
    obtain ⟨u, h1, h2⟩ := bind_gives (show ((likeO a x.1 y.1).bind fun _ => likeO b x.2 y.2).gives _ from h)
    have e1 := likeO_ok a x.1 y.1 h1
    have e2 := likeO_ok b x.2 y.2 h2
    simp only [toVL, V.alikes, e2, Bool.and_true]
    revert e1
    generalize toVL a x.1 = p
    generalize toVL a y.1 = q
    intro h1
    cases p with
    | nil => cases q with
      | nil => rfl
      | cons => simp [V.alikes] at h1
    | cons u us => cases q with
      | nil => simp [V.alikes] at h1
      | cons u' us' =>
        simp only [V.alikes, Bool.and_eq_true] at h1
        exact h1.1

theorem alike_untag : ∀ (v y : V), V.alike v.untag y = V.alike v y
  | .agg t fs, y => by
    simp only [V.untag]
    cases y <;> first | rfl | (simp only [V.alike]; rw [alikes_untag fs])
  | .junk, _ | .bool _, _ | .int _ _, _ | .str _, _ | .sl _ _ _, _ | .tup _, _ | .rp _, _ | .rf _ _, _ | .it _, _ | .itc _ _, _ | .bld _ _ _ _, _ | .nilp, _ | .iface _ _, _ | .nili, _ | .fn _ _, _ => by simp [V.untag, V.alike]
where
  alikes_untag : ∀ (vs ys : List V), V.alikes (V.untags vs) ys = V.alikes vs ys
    | [], _ => rfl
    | v :: vs, ys => by
      simp only [V.untags]
      cases ys with
      | nil => rfl
      | cons y ys => simp only [V.alikes]; rw [alike_untag v y, alikes_untag vs ys]

theorem isAggW_toV1 {w : W} (h : sureAgg w = true) : w.toV.isAgg = true := by
  cases w with
  | v s x => cases s <;> first | rfl | cases h
  | con c => exact h
  | agg t fs => rfl
  | _ => cases h

theorem argK_ok : ∀ {as : List Sh} {x : dens as} {k : Nat} {w : W}, argK as x k = some w → (valsL as x)[k]? = some w.toV
  | [], _, _, _, h => by cases h
  | [a], x, k, w, h => by
    cases k with
    | zero => cases h; rfl
    | succ => cases h
  | a :: b :: l, x, k, w, h => by
    cases k with
    | zero => cases h; rfl
    | succ k => exact argK_ok (as := b :: l) (x := x.2) (k := k) h

theorem untags_set (vs : List V) (k : Nat) (v : V) : V.untags (vs.set k v) = (V.untags vs).set k v.untag := by
  induction vs generalizing k with
  | nil => rfl
  | cons u vs ih => cases k with
    | zero => rfl
    | succ k => simp only [List.set_cons_succ, V.untags, ih]

theorem lendL_mem : ∀ {vs : List V}, vs.all V.mem = true → lendL vs = some (none, V.untags vs)
  | [], _ => rfl
  | v :: vs, h => by
    simp only [List.all_cons, Bool.and_eq_true] at h
    simp only [lendL, lendL_mem h.2, h.1, if_true, V.untags]
theorem lendL_at {b : Nat} {cr v : V} (hl : lendV v = some (b, cr)) (hm : v.mem = false) : ∀ {vs : List V} {k : Nat}, vs[k]? = some v → (∀ (i : Nat) (u : V), i ≠ k → vs[i]? = some u → u.mem = true) → lendL vs = some (some b, (V.untags vs).set k cr)
  | [], k, h, _ => by simp at h
  | u :: vs, 0, h, ho => by
    simp only [List.getElem?_cons_zero, Option.some.injEq] at h
    subst h
    have hall : vs.all V.mem = true := by
      rw [List.all_eq_true]
      intro y hy
      obtain ⟨i, hi⟩ := List.getElem?_of_mem hy
      exact ho (i + 1) y (by omega) (by simpa using hi)
    simp only [lendL, lendL_mem hall, hm, Bool.false_eq_true, if_false, hl, V.untags, List.set_cons_zero]
  | u :: vs, k + 1, h, ho => by
    have hu := ho 0 u (by omega) rfl
    have ih := lendL_at hl hm (vs := vs) (k := k) (by simpa using h) (fun i y hi hy => ho (i + 1) y (by omega) (by simpa using hy))
    simp only [lendL, ih, hu, if_true, V.untags, List.set_cons_succ]

theorem refTo_row {s : Sh} (hs : single s = true) (x : den s) (ha : (toV s x).isAgg = true) : refTo lentT (toV s x) = if isRowS s then .it lentT else .rf lentT [] := by
  cases s <;> first
    | (simp [single] at hs; done)
    | (simp [toV, toVL, headV, V.isAgg, byteV] at ha; done)
    | skip
  · rename_i t s; cases x <;> simp [toV, toVL, headV, optV, V.isAgg] at ha
  · rename_i t s
    show (if rowT ≤ t then V.it lentT else V.rf lentT []) = _
    by_cases h : rowT ≤ t <;> simp [isRowS, h]
  · rename_i t s
    show (if rowT ≤ t then V.it lentT else V.rf lentT []) = _
    by_cases h : rowT ≤ t <;> simp [isRowS, h]

theorem resL_ok {rs : Sh} {y : den rs} {s : Sh} {x : den s} {b : Nat} {o : Nat × W × W} (h : (resL rs y s x b).gives o) (hs : single s = true) : ∃ c r, toVL rs y = [r, c] ∧ o.1 = b ∧ o.2.1.toV = c ∧ o.2.2.toV = r ∧ (toV s x).alike c = true := by
  unfold resL at h
  split at h
  · rename_i r s' y
    obtain ⟨he, h⟩ := dite_gives h
    subst he
    obtain ⟨u, h1, h2⟩ := bind_gives h
    rw [← (show _ = o from h2)]
    refine ⟨toV s' y.2, toV r y.1, ?_, rfl, rfl, rfl, ?_⟩
    · show headV (toVL r y.1) :: toVL s' y.2 = _
      rw [single_toVL hs]
      rfl
    · have := likeO_ok s' x y.2 h1
      rw [single_toVL hs, single_toVL hs] at this
      simpa [V.alikes] using this
  · exact h.elim

theorem cbW_ok (hT : AllT (fun t => wfA t.as = true) T) {f : FuncId} {ws : List W} {bx : List (Nat × W)} {o : Nat × W × W} (h : (cbW T f ws bx).gives o) :
    (∃ c, lu bx o.1 = some c) ∧ cbV ((extT T).l f) (ws.map W.toV) (fun i => (lu bx i).map W.toV) = some (o.1, o.2.1.toV, o.2.2.toV) := by
  unfold cbW at h
  split at h
  · rename_i t hf
    split at h
    · rename_i k hk
      split at h
      · rename_i b row hl
        split at h
        · rename_i cw hb
          obtain ⟨hc, h⟩ := ite_gives h
          rw [Bool.and_eq_true] at hc
          obtain ⟨hagg, hall⟩ := hc
          obtain ⟨x, h1, h⟩ := bind_gives h
          split at h
          · rename_i s xk hxk
            obtain ⟨hrs, h⟩ := ite_gives h
            rw [Bool.and_eq_true, beq_iff_eq] at hrs
            obtain ⟨hrow, hsg⟩ := hrs
            obtain ⟨y, hy, h⟩ := h
            obtain ⟨c, r, e1, e2, e3, e4, e5⟩ := resL_ok h hsg
            rw [Option.bind_eq_some_iff] at hl
            obtain ⟨wk, hwk, hl⟩ := hl
            rw [nth_eq] at hwk
            have hkl : k < ws.length := (List.getElem?_eq_some_iff.1 hwk).1
            -- the one on loan
            obtain ⟨hlv, hmv⟩ : lendV wk.toV = some (b, if row then .it lentT else .rf lentT []) ∧ wk.toV.mem = false := by
              unfold lendW at hl
              split at hl
              · cases hl; exact ⟨rfl, rfl⟩
              · cases hl; exact ⟨rfl, rfl⟩
              · cases hl
            rw [setNth_eq, List.all_eq_true] at hall
            have hcm : memW cw = true := hall cw (List.mem_of_getElem? (i := k) (by rw [List.getElem?_set_self hkl]))
            have hL := lendL_at hlv hmv (vs := ws.map W.toV) (k := k) (by rw [List.getElem?_map, hwk]; rfl) (fun i u hi hu => by
              rw [List.getElem?_map, Option.map_eq_some_iff] at hu
              obtain ⟨w, hw, rfl⟩ := hu
              exact memW_toV (hall w (List.mem_of_getElem? (i := i) (by rw [List.getElem?_set_ne (Ne.symm hi)]; exact hw))))
            have hp := packL_toV h1
            rw [setNth_eq, List.map_set, untags_set] at hp
            have hkx := argK_ok hxk
            -- the content
            have hct : cw.toV.untag = toV s xk := by
              obtain ⟨v', q1, q2⟩ := hp.get k cw.toV.untag (by rw [List.getElem?_set_self (by rw [untags_len, List.length_map]; exact hkl)])
              rw [hkx] at q1
              cases q1
              rcases q2 with q2 | ⟨e, e', q2, _⟩
              · exact q2
              · have := isAggW_toV1 hagg
                rw [← untag_isAgg, q2] at this
                cases this
            have hax : (toV s xk).isAgg = true := by rw [← hct, untag_isAgg]; exact isAggW_toV1 hagg
            have href := refTo_row hsg xk hax
            have hset := all2_set (k := k) hp (nilEq_refl (refTo lentT (toV s xk)))
            rw [List.set_set, href, hrow] at hset
            have hE := extT_eqL (ct := toV s xk) hf hk (findT_all hT hf).1 (vs := (V.untags (ws.map W.toV)).set k (if row then .it lentT else .rf lentT [])) (by rw [href, hrow]; exact hset) hkx hy e1
            have hal : cw.toV.alike c = true := by rw [← alike_untag, hct]; exact e5
            have hcmem : c.mem = true := by
              have := isAggW_toV1 hagg
              cases hq : cw.toV <;> rw [hq] at this hal <;> simp [V.isAgg] at this
              cases c <;> simp [V.alike] at hal
              rfl
            refine ⟨⟨cw, by rw [e2]; exact hb⟩, ?_⟩
            unfold cbV
            simp only [hL, hb, Option.map_some, memW_toV hcm, if_true, hct, hE, hal, hcmem, Bool.and_self, e2, e3, e4]
          · exact h.elim
        · exact h.elim
      · exact h.elim
    · exact h.elim
  · exact h.elim

set_option maxHeartbeats 1000000 in
/-- ONE OPERATION. -/
theorem isNilI_ok {w : W} {b : Bool} (h : isNilI w = some b) : (b = true ∧ w.toV = .nili) ∨ (b = false ∧ ∃ t v, w.toV = .iface t v) := by
  unfold isNilI at h
  split at h
  · cases h; exact .inl ⟨rfl, rfl⟩
  · rename_i t s o
    cases h
    cases o with
    | none => exact .inl ⟨rfl, rfl⟩
    | some x => exact .inr ⟨rfl, _, _, rfl⟩
  · cases h; exact .inr ⟨rfl, _, _, rfl⟩
  · cases h
theorem isNilP_ok {w : W} {b : Bool} (h : isNilP w = some b) : (b = true ∧ w.toV = .nilp) ∨ (b = false ∧ ((∃ v, w.toV = .rp v) ∨ ∃ d p, w.toV = .rf d p)) := by
  unfold isNilP at h
  split at h
  · cases h; exact .inl ⟨rfl, rfl⟩
  · cases h; exact .inr ⟨rfl, .inr ⟨_, _, rfl⟩⟩
  · cases h; exact .inr ⟨rfl, .inl ⟨_, rfl⟩⟩
  · cases h; exact .inr ⟨rfl, .inl ⟨_, rfl⟩⟩
  · cases h
theorem eq1W_ok {k : Nat} {x y : W} {b : Bool} (h : eq1W k x y = some b) : eq1 k x.toV y.toV = some b := by
  unfold eq1W at h
  split at h
  · split at h
    · rename_i a b h1 h2
      cases h
      rw [asBool_toV h1, asBool_toV h2]; rfl
    · cases h
  · split at h
    · rename_i k a k' b h1 h2
      split at h
      · rename_i hk
        cases h
        rw [asInt_toV h1, asInt_toV h2]
        show (if k = k' then _ else _) = _
        rw [if_pos hk]; rfl
      · cases h
    · cases h
  · split at h
    · rename_i a b h1 h2
      cases h
      rw [asStr_toV h1, asStr_toV h2]
      show some (a == b) = _
      congr 1
      by_cases hab : a = b <;> simp [hab]
    · cases h
  · cases h
theorem eqsW_ok : ∀ {ks : List Nat} {xs ys : List W} {b : Bool}, eqsW ks xs ys = some b → eqsV ks (W.toVs xs) (W.toVs ys) = some b
  | [], [], [], b, h => h
  | k :: ks, x :: xs, y :: ys, b, h => by
    unfold eqsW at h
    split at h
    · rename_i a c h1 h2
      simp only [W.toVs, eqsV, eq1W_ok h1, eqsW_ok h2]
      exact h
    · cases h
  | [], [], _ :: _, _, h => by cases h
  | [], _ :: _, _, _, h => by cases h
  | _ :: _, [], _, _, h => by cases h
  | _ :: _, _ :: _, [], _, h => by cases h
theorem eqW_ok {k : EqK} {x y : W} {b : Bool} (h : eqW k x y = some b) : eqV k x.toV y.toV = some b := by
  unfold eqW at h
  split at h
  · rcases isNilI_ok h with ⟨rfl, e⟩ | ⟨rfl, t, v, e⟩ <;> rw [e] <;> rfl
  · rcases isNilI_ok h with ⟨rfl, e⟩ | ⟨rfl, t, v, e⟩ <;> rw [e] <;> rfl
  · rcases isNilP_ok h with ⟨rfl, e⟩ | ⟨rfl, ⟨v, e⟩ | ⟨d, p, e⟩⟩ <;> rw [e] <;> rfl
  · rcases isNilP_ok h with ⟨rfl, e⟩ | ⟨rfl, ⟨v, e⟩ | ⟨d, p, e⟩⟩ <;> rw [e] <;> rfl
  · split at h
    · rename_i us t vs h1 h2
      rw [asAgg_toV h1, asAgg_toV h2]
      exact eqsW_ok h
    · cases h
  · cases h

theorem byteOf_byteV (c : UInt8) : byteOf (byteV c) = some c := by
  have := UInt8.toNat_lt c
  show (if (0 : Int) ≤ ((c.toNat : Nat) : Int) ∧ ((c.toNat : Nat) : Int) < 256 then some (UInt8.ofNat ((c.toNat : Nat) : Int).toNat) else none) = _
  rw [if_pos (by omega), Int.toNat_natCast, UInt8.ofNat_toNat]

theorem bldW_ok {k : BK} {l : List UInt8} {ws : List W} {x : List UInt8 × W} (h : (bldW k l ws).gives x) : bldR k l (ws.map W.toV) = some (x.1, x.2.toV) := by
  unfold bldW at h
  split at h
  · split at h
    · rename_i w s hs
      obtain ⟨hb, h⟩ := h
      have h : (l ++ s, W.tup [.v (.int .i64) (s.length : Int), .con .nili]) = x := h
      subst h
      simp only [List.map_cons, List.map_nil, asStr_toV hs, bldR, if_pos hb]
      rfl
    · exact h.elim
  · split at h
    · rename_i b
      obtain ⟨hb, h⟩ := h
      have h : (l ++ [byteD b], W.con .nili) = x := h
      subst h
      have hby : byteOf (toV .byte b) = some (byteD b) := byteOf_byteV (byteD b)
      show bldR .wbyte l [toV .byte b] = _
      simp only [bldR, hby, if_pos hb]
      rfl
    · rename_i n
      obtain ⟨hn, hb, h⟩ := h
      have h : (l ++ [UInt8.ofNat (Int.toNat (intD n))], W.con .nili) = x := h
      subst h
      have hby : byteOf (.int .u8 (intD n)) = some (UInt8.ofNat (Int.toNat (intD n))) := if_pos hn
      show bldR .wbyte l [.int .u8 (intD n)] = _
      simp only [bldR, hby, if_pos hb]
      rfl
    · exact h.elim
  · have h : (l, W.v .str l) = x := h
    subst h
    rfl
  · have h : (l, W.v (.int .i64) (l.length : Int)) = x := h
    subst h
    rfl
  · exact h.elim

theorem offW_toV {bs : List Nat} {w : W} (h : offW bs w = true) : offV bs w.toV = true := by
  unfold offW at h
  split at h
  · exact h
  · rfl
  · rfl
  · cases h
theorem opW_ok (hT : AllT (fun t => wfA t.as = true) T) {po : PO} {δ : Dl} (h : (opW T SH po st).gives δ) : step1 (extT T) po (toSt st) = some (toSt (st.app δ)) := by
  unfold step1
  cases po with
  | mv d x =>
    simp only [PO.dst, PO.args, PO.kd, List.map_cons, List.map_nil, evX_toV]
    exact outP h fun w hw => by rw [← (show _ = w from hw)]
  | nl d e => exact okN (s := shOf SH e) (l := []) rfl h
  | pick d c a b =>
    simp only [PO.dst, PO.args, PO.kd, List.map_cons, List.map_nil, evX_toV]
    simp only [opW] at h
    split at h
    · rename_i c h1
      rw [asBool_toV h1]
      rcases h with ⟨rfl, h⟩ | ⟨rfl, h⟩
      · rw [← (show _ = δ from h)]; exact okP rfl
      · rw [← (show _ = δ from h)]; exact okP rfl
    · exact h.elim
  | ar d op x y =>
    simp only [PO.dst, PO.args, PO.kd, List.map_cons, List.map_nil, evX_toV]
    exact outP h fun w hw => arW_ok hw
  | eb d neg x y =>
    simp only [PO.dst, PO.args, PO.kd, List.map_cons, List.map_nil, evX_toV]
    simp only [opW] at h
    split at h
    · rename_i a b h1 h2
      rw [asBool_toV h1, asBool_toV h2]
      exact outP h fun w hw => by rw [← (show W.v .bool _ = w from hw)]; rfl
    · exact h.elim
  | se d k neg x y =>
    simp only [PO.dst, PO.args, PO.kd, List.map_cons, List.map_nil, evX_toV]
    simp only [opW] at h
    split at h
    · rename_i b h1
      have e := eqW_ok h1
      exact outP h fun w hw => by rw [← (show W.v .bool _ = w from hw)]; simp only [e]; rfl
    · exact h.elim
  | mn d mx x y =>
    simp only [PO.dst, PO.args, PO.kd, List.map_cons, List.map_nil, evX_toV]
    simp only [opW] at h
    split at h
    · rename_i k a k' b h1 h2
      obtain ⟨hk, hh⟩ := ite_gives h
      subst hk
      rw [asInt_toV h1, asInt_toV h2]
      exact outP hh fun w hw => by rw [← (show W.v (.int k) _ = w from hw)]; rfl
    · exact h.elim
  | un d op x =>
    simp only [PO.dst, PO.args, PO.kd, List.map_cons, List.map_nil, evX_toV]
    exact outP h fun w hw => unW_ok hw
  | ln d e x =>
    simp only [PO.dst, PO.args, PO.kd, List.map_cons, List.map_nil, evX_toV]
    exact outL h fun w hw => lenW_ok hw
  | ix d x i =>
    simp only [PO.dst, PO.args, PO.kd, List.map_cons, List.map_nil, evX_toV]
    exact outP h fun w hw => ixW_ok hw
  | ea d e x i =>
    simp only [PO.dst, PO.args, PO.kd, List.map_cons, List.map_nil, evX_toV]
    exact outL h fun w hw => eaW_ok hw
  | fa d t f x =>
    simp only [PO.dst, PO.args, PO.kd, List.map_cons, List.map_nil, evX_toV]
    exact outL h fun w hw => faW_ok hw
  | aa d t x i =>
    simp only [PO.dst, PO.args, PO.kd, List.map_cons, List.map_nil, evX_toV]
    exact outL h fun w hw => aaW_ok hw
  | fd d t f tt x =>
    simp only [PO.dst, PO.args, PO.kd, List.map_cons, List.map_nil, evX_toV]
    exact outP h fun w hw => fdW_ok hw
  | ld d t x =>
    simp only [PO.dst, PO.args, PO.kd, List.map_cons, List.map_nil, evX_toV]
    exact outL h fun w hw => ldW_ok hw
  | st t x y =>
    simp only [PO.dst, PO.args, PO.kd, List.map_cons, List.map_nil, evX_toV]
    simp only [opW] at h
    split at h
    · rename_i d p h1
      split at h
      · rename_i c h2
        replace h := ite_gives h
        obtain ⟨h3, h⟩ := h
        simp only [Bool.and_eq_true] at h3
        obtain ⟨c', h4, h5⟩ := bind_gives h
        obtain ⟨v, e1, e2, e3⟩ := setW_ok h4
        rw [← (show _ = δ from h5)]
        simp only [stepK, h1, W.toV, stV, bx_at h2, e1, fitsW_toV h3.1.1, e2, memW_toV h3.1.2, memW_toV h3.2, Bool.and_self, if_true]
        show some (⟨luV st.s, upd (fun i => (lu st.bx i).map W.toV) d _, lu st.fr⟩ : St) = some ⟨luV st.s, (fun i => (lu (ins st.bx d c') i).map W.toV), lu st.fr⟩
        rw [bx_ins, e3]
      · exact h.elim
    · exact h.elim
  | lx bs d t x =>
    simp only [PO.dst, PO.args, PO.kd, List.map_cons, List.map_nil, evX_toV]
    simp only [opW] at h
    replace h := ite_gives h
    obtain ⟨h3, h⟩ := h
    exact outL h fun w hw => by simp only [if_pos (offW_toV h3)]; exact ldW_ok hw
  | fx bs d t f x =>
    simp only [PO.dst, PO.args, PO.kd, List.map_cons, List.map_nil, evX_toV]
    simp only [opW] at h
    replace h := ite_gives h
    obtain ⟨h3, h⟩ := h
    exact outL h fun w hw => by simp only [if_pos (offW_toV h3)]; exact faW_ok hw
  | gx d e x i =>
    simp only [PO.dst, PO.args, PO.kd, List.map_cons, List.map_nil, evX_toV]
    simp only [opW] at h
    split at h
    · rename_i k i a h2 h1
      obtain ⟨tg, e1⟩ := asSl_toV h1
      replace h := ite_gives h
      obtain ⟨he, h⟩ := h
      subst he
      exact outP h fun w hw => by
        rw [asInt_toV h2, e1, ← (show W.rp _ = w from hw.2)]
        simp only [eaV, if_true, List.length_map, if_pos hw.1]
        rw [getD_toV _ _ _ (by have := hw.1; omega)]
        rfl
    · exact h.elim
  | sx b t x y =>
    simp only [PO.dst, PO.args, PO.kd, List.map_cons, List.map_nil, evX_toV]
    simp only [opW] at h
    replace h := ite_gives h
    obtain ⟨h0, h⟩ := h
    split at h
    · rename_i d p h1
      split at h
      · rename_i c h2
        replace h := ite_gives h
        obtain ⟨h3, h⟩ := h
        simp only [Bool.and_eq_true] at h3
        obtain ⟨c', h4, h5⟩ := bind_gives h
        obtain ⟨v, e1, e2, e3⟩ := setW_ok h4
        rw [← (show _ = δ from h5)]
        rw [h1] at h0 ⊢
        have h0' : onV b (W.con (.rf d p)).toV = true := h0
        have h0'' : onV b (V.rf d p) = true := h0'
        simp only [stepK, W.toV, if_pos h0'', stV, bx_at h2, e1, fitsW_toV h3.1.1, e2, memW_toV h3.1.2, memW_toV h3.2, Bool.and_self, if_true]
        show some (⟨luV st.s, upd (fun i => (lu st.bx i).map W.toV) d _, lu st.fr⟩ : St) = some ⟨luV st.s, (fun i => (lu (ins st.bx d c') i).map W.toV), lu st.fr⟩
        rw [bx_ins, e3]
      · exact h.elim
    · exact h.elim
  | bx d t x =>
    simp only [PO.dst, PO.args, PO.kd, List.map_cons, List.map_nil, evX_toV]
    simp only [opW] at h
    replace h := ite_gives h
    obtain ⟨h3, h⟩ := h
    simp only [Bool.and_eq_true] at h3
    refine okA ?_ h
    have h9 : (evX st x).toV.notRow = true := noRow_toV h3.1.2 h3.2
    simp only [fitsW_toV h3.1.1, memW_toV h3.1.2, h9, Bool.and_self, if_true]
  | al d z =>
    simp only [opW] at h
    replace h := ite_gives h
    obtain ⟨h3, h⟩ := h
    refine okA (c := cstW SH z) ?_ h
    have h9 : (cstW SH z).toV.notRow = true := noRow_cst h3
    rw [cstW_toV] at h9 ⊢
    simp only [PO.args, List.map_nil, h9, if_true]
  | bs d e t xs =>
    simp only [opW] at h
    replace h := ite_gives h
    obtain ⟨h3, h⟩ := h
    obtain ⟨l, h4, h5⟩ := bind_gives h
    refine okN ?_ h5
    simp only [PO.args, evX_map, all_fitsW h3, if_true, packAll_ok h4]
  | bd d t z is xs =>
    simp only [opW] at h
    split at h
    · rename_i fs h1
      have := setWs_ok h1
      rw [cstWs_toV] at this
      rw [← (show _ = δ from h)]
      refine okP ?_
      simp only [PO.args, evX_map, this, W.toV]
    · exact h.elim
  | mk d e z n c =>
    simp only [PO.dst, PO.args, PO.kd, List.map_cons, List.map_nil, evX_toV]
    simp only [opW] at h
    split at h
    · rename_i k n k' c h1 h2
      rw [asInt_toV h1, asInt_toV h2]
      obtain ⟨h3, h⟩ := h
      obtain ⟨z', h4, h5⟩ := bind_gives h
      replace h4 := ite_gives h4
      obtain ⟨hn, h4⟩ := h4
      refine okN ?_ h5
      have e4 := (pack_toV h4).trans (noTag_untag hn)
      rw [cstW_toV] at e4
      simp only [if_pos h3, List.map_replicate, e4]
    · exact h.elim
  | ap d e x y =>
    simp only [PO.dst, PO.args, PO.kd, List.map_cons, List.map_nil, evX_toV]
    simp only [opW] at h
    split at h
    · rename_i id e' s l h1
      replace h := ite_gives h
      obtain ⟨⟨hokr, he⟩, h⟩ := h
      subst he
      split at h
      · rename_i e'' n h2
        replace h := ite_gives h
        obtain ⟨he, h⟩ := h
        subst he
        obtain ⟨l2, h3, h4⟩ := bind_gives h
        obtain ⟨hn, hb, h5⟩ := h4
        have e1 := ap_elems h3
        have e2 : (toSt st).fr id = some (e'', n) := h2
        rw [← (show _ = δ from h5)]
        simp only [stepK, h1, W.toV, apV, e2, hokr, and_self, if_true, e1, List.length_map, if_pos hn, if_pos hb]
        show some (⟨upd (luV st.s) d _, _, upd (lu st.fr) id _⟩ : St) = some ⟨luV (ins st.s d (.sl id e'' s (l ++ l2))), _, lu (ins st.fr id (e'', (l ++ l2).length))⟩
        rw [luV_ins, fr_ins, W.toV, List.map_append, List.length_append, List.length_append, List.length_map, List.length_map]
        rfl
      · exact h.elim
    · exact h.elim
  | sc d e x lo hi =>
    simp only [opW] at h
    obtain ⟨w, h1, rfl⟩ := outS_gives h
    have h2 := scW_ok h1
    refine okP ?_
    cases lo <;> cases hi <;> simpa only [PO.args, PO.dst, Option.toList, List.map_cons, List.map_nil, List.cons_append, List.nil_append, evX_toV, Option.isSome_none, Option.isSome_some, Option.map_none, Option.map_some] using h2
  | cvi d k x =>
    simp only [PO.dst, PO.args, PO.kd, List.map_cons, List.map_nil, evX_toV]
    simp only [opW] at h
    split at h
    · rename_i k' n h1
      rw [asInt_toV h1]
      exact outP h fun w hw => by rw [← (show W.v (.int k) _ = w from hw)]; rfl
    · exact h.elim
  | cvs d e x =>
    simp only [PO.dst, PO.args, PO.kd, List.map_cons, List.map_nil, evX_toV]
    simp only [opW] at h
    split at h
    · rename_i l h1
      rw [asStr_toV h1]
      obtain ⟨h2, h3⟩ := h
      rw [← (show _ = δ from h3)]
      exact okP (by simp only [if_pos h2]; rfl)
    · exact h.elim
  | cvb d x =>
    simp only [PO.dst, PO.args, PO.kd, List.map_cons, List.map_nil, evX_toV]
    simp only [opW] at h
    split at h
    · rename_i e l h1
      obtain ⟨tg, e1⟩ := asSl_toV h1
      rw [e1, ← (show _ = δ from h)]
      refine okP ?_
      have := bytesOfV_map l
      simp only []
      show (match bytesOfV (l.map byteV) with | some l => some (V.str l) | none => none) = _
      rw [this]
      rfl
    · exact h.elim
  | cvS d x =>
    simp only [PO.dst, PO.args, PO.kd, List.map_cons, List.map_nil, evX_toV]
    simp only [opW] at h
    split at h
    · rename_i l h1
      rw [asStr_toV h1, ← (show _ = δ from h)]
      exact okP rfl
    · exact h.elim
  | mi d t x =>
    simp only [PO.dst, PO.args, PO.kd, List.map_cons, List.map_nil, evX_toV]
    simp only [opW] at h
    replace h := ite_gives h
    obtain ⟨h1, h⟩ := h
    split at h
    · rename_i w h2
      rw [← (show _ = δ from h)]
      refine okP ?_
      simp only [memW_toV h1, if_true, W.toV, untagW_toV h2]
    · exact h.elim
  | ex d i x =>
    simp only [PO.dst, PO.args, PO.kd, List.map_cons, List.map_nil, evX_toV]
    simp only [opW] at h
    split at h
    · rename_i fs h1
      obtain ⟨w, h2, rfl⟩ := Option.map_eq_some_iff.1 (ofO_gives h)
      refine okP ?_
      rw [h1]
      simp only [W.toV, toVs_get, h2, Option.map_some]
    · rename_i s y h1
      obtain ⟨w, h2, rfl⟩ := Option.map_eq_some_iff.1 (ofO_gives h)
      refine okP ?_
      rw [h1]
      show (toVL s y)[i]? = _
      have e := parts_toV s y
      rw [← e, toVs_get, h2]
      rfl
    · exact h.elim
  | ca d f xs =>
    simp only [opW] at h
    obtain ⟨w, h1, rfl⟩ := outS_gives h
    obtain ⟨h2, h3⟩ := callW_ok hT h1
    refine okP ?_
    simp only [PO.args, evX_map, h2, if_true, h3]
  | cd d f xs =>
    have key : ∀ (g : FuncId) (caps : List W), (evX st f).toV = .fn g (W.toVs caps) → noTags caps = true → (outS d (callW T g (xs.map (evX st) ++ caps))).gives δ → stepK d ((f.ev (toSt st)) :: xs.map (X.ev (toSt st))) (PO.kd (extT T) (.cd d f xs)) (toSt st) = some (toSt (st.app δ)) := by
      intro g caps e1 hn h
      obtain ⟨w, h1, rfl⟩ := outS_gives h
      obtain ⟨h2, h3⟩ := callW_ok hT h1
      refine okP ?_
      rw [List.map_append, List.all_append, Bool.and_eq_true] at h2
      rw [List.map_append, untags_append, ← toVs_map caps, noTags_untag hn] at h3
      simp only [evX_toV, e1, evX_map, h2.1, if_true, h3]
    simp only [opW] at h
    split at h
    · rename_i g caps h1
      replace h := ite_gives h
      exact key g caps (by rw [h1]; rfl) h.1 h.2
    · rename_i g caps h1
      replace h := ite_gives h
      refine key g (caps.map .con) ?_ h.1 h.2
      rw [h1, toVs_map, List.map_map]
      show V.fn g caps = V.fn g (caps.map _)
      congr 1
      exact (List.map_id' caps).symm
    · rename_i g s y h1
      have hnt : ∀ (s : Sh) (y : den s), noTags (parts s y) = true := by
        intro s
        induction s with
        | pair a b _ ihb => intro y; exact ihb y.2
        | _ => intro y; rfl
      exact key g (parts s y) (by rw [h1]; exact congrArg (V.fn g) (parts_toV s y).symm) (hnt s y) h
    · exact h.elim
  | mf d f xs =>
    simp only [opW] at h
    obtain ⟨⟨h1, h2⟩, h3⟩ := ite_gives h
    rw [← (show _ = δ from h3)]
    refine okP ?_
    have hall : ((xs.map (evX st)).map W.toV).all (fun x => x.mem && !x.isAgg) = true := by
      rw [List.all_eq_true] at h1 ⊢
      intro v hv
      obtain ⟨w, hw, rfl⟩ := List.mem_map.1 hv
      have := h1 w hw
      rw [Bool.and_eq_true] at this
      rw [Bool.and_eq_true, memW_toV this.1, isAggW_toV (by simpa using this.2)]
      exact ⟨rfl, rfl⟩
    have hun : V.untags ((xs.map (evX st)).map W.toV) = W.toVs (xs.map (evX st)) := by rw [← toVs_map, noTags_untag h2]
    simp only [PO.args, evX_map, hall, if_true, hun]
    rfl
  | cb d f xs =>
    simp only [opW] at h
    obtain ⟨o, h1, h2⟩ := bind_gives h
    obtain ⟨⟨c, hb⟩, h3⟩ := cbW_ok hT h1
    rw [← (show _ = δ from h2)]
    simp only [PO.dst, PO.args, PO.kd, evX_map]
    have e0 : (toSt st).bx = fun i => (lu st.bx i).map W.toV := rfl
    simp only [stepK, e0, h3, hb, Option.map_some]
    cases d with
    | none =>
      show some (⟨luV st.s, upd (fun i => (lu st.bx i).map W.toV) o.1 _, _⟩ : St) = some ⟨luV st.s, (fun i => (lu (ins st.bx o.1 _) i).map W.toV), _⟩
      rw [bx_ins]
      rfl
    | some d =>
      show some (⟨upd (luV st.s) d _, upd (fun i => (lu st.bx i).map W.toV) o.1 _, _⟩ : St) = some ⟨luV (ins st.s d _), (fun i => (lu (ins st.bx o.1 _) i).map W.toV), _⟩
      rw [luV_ins, bx_ins]
      rfl
  | cn d f xs =>
    simp only [opW] at h
    obtain ⟨w, h1, h2⟩ := bind_gives h
    obtain ⟨h3, h4⟩ := cnW_ok hT h1
    have hm : w.toV.mem = true := by
      unfold boxD at h2
      split at h2
      · exact h2.elim
      · obtain ⟨hc, _⟩ := ite_gives h2
        unfold boxOk at hc
        split at hc
        · exfalso
          unfold cnW at h1
          split at h1
          · split at h1
            · obtain ⟨_, h1⟩ := ite_gives h1
              obtain ⟨x, _, y, _, h1⟩ := bind_gives h1
              cases (show W.v _ _ = _ from h1)
            · exact h1
          · exact h1
        · exact memW_toV hc
    refine okA ?_ h2
    simp only [PO.args, evX_map, h3, if_true, h4, hm]
  | nc d x =>
    simp only [PO.dst, PO.args, PO.kd, List.map_cons, List.map_nil, evX_toV]
    simp only [opW] at h
    split at h
    · rename_i w h1
      rw [h1, ← (show _ = δ from h)]
      exact okP rfl
    · rename_i s y h1
      rw [h1, ← (show _ = δ from h)]
      exact okP rfl
    · rename_i i p h1
      rw [h1, ← (show _ = δ from h)]
      exact okP rfl
    · rename_i f caps h1
      rw [h1, ← (show _ = δ from h)]
      exact okP rfl
    · rename_i f caps h1
      rw [h1, ← (show _ = δ from h)]
      exact okP rfl
    · rename_i f s y h1
      rw [h1, ← (show _ = δ from h)]
      exact okP rfl
    · exact h.elim
  | rg d x =>
    simp only [PO.dst, PO.args, PO.kd, List.map_cons, List.map_nil, evX_toV]
    simp only [opW] at h
    split at h
    · rename_i l h1
      rw [asStr_toV h1]
      exact okA rfl h
    · exact h.elim
  | nx d x =>
    simp only [PO.dst, PO.args, PO.kd, List.map_cons, List.map_nil, evX_toV]
    simp only [opW] at h
    split at h
    · rename_i b h1
      split at h
      · rename_i l pos h2
        have e1 := bx_at h2
        rw [h1]
        rcases h with ⟨hc, h⟩ | ⟨hc, h⟩
        · rw [← (show _ = δ from h)]
          simp only [stepK, W.toV, nextV, e1, if_pos (of_decide_eq_true hc)]
          show some (⟨upd (luV st.s) d _, upd (fun i => (lu st.bx i).map W.toV) b _, _⟩ : St) = some ⟨luV (ins st.s d _), (fun i => (lu (ins st.bx b _) i).map W.toV), _⟩
          rw [luV_ins, bx_ins]
          rfl
        · rw [← (show _ = δ from h)]
          simp only [stepK, W.toV, nextV, e1, if_neg (of_decide_eq_false hc)]
          show some (⟨upd (luV st.s) d _, upd (fun i => (lu st.bx i).map W.toV) b _, _⟩ : St) = some ⟨luV (ins st.s d _), (fun i => (lu (ins st.bx b _) i).map W.toV), _⟩
          rw [luV_ins, bx_ins]
          rfl
      · exact h.elim
    · exact h.elim
  | no d => exact h.elim
  | pn x => exact h.elim
  | zs d e =>
    simp only [opW] at h
    rw [← (show _ = δ from h)]
    simp only [PO.dst, PO.args, PO.kd, List.map_nil]
    exact okP rfl
  | cx d e x y =>
    simp only [PO.dst, PO.args, PO.kd, List.map_cons, List.map_nil, evX_toV]
    simp only [opW] at h
    split at h
    · rename_i t e' h1
      replace h := ite_gives h
      obtain ⟨hc, h⟩ := h
      split at h
      · rename_i b h2
        replace h := ite_gives h
        obtain ⟨he, h3, h4, h5⟩ := h
        obtain ⟨tg, h6⟩ := asSl_toV h2
        refine okA ?_ h5
        rw [h1, h6]
        obtain ⟨be, bs, bl⟩ := b
        simp only at he h3 h4 h5 h6 ⊢
        subst he
        match bl, h3, h4 with
        | z :: l, _, h4 =>
          have hl : (toV bs z :: l.map (toV bs)).length ≤ big := by simpa using h4
          simp only [W.toV, cxV, if_pos hc, elemsOf, if_true, List.map_cons, if_pos hl]
          rfl
      · exact h.elim
    · exact h.elim
  | mm d e z n c =>
    simp only [PO.dst, PO.args, PO.kd, List.map_cons, List.map_nil, evX_toV]
    simp only [opW] at h
    split at h
    · rename_i k n k' c h1 h2
      rw [asInt_toV h1, asInt_toV h2]
      obtain ⟨h3, h⟩ := h
      obtain ⟨z', h4, h5⟩ := bind_gives h
      replace h4 := ite_gives h4
      obtain ⟨hn, h4⟩ := h4
      refine okA ?_ h5
      simp only [if_pos h3]
      show some (V.agg (rowT + e) (List.replicate n.toNat z)) = some (V.agg (rowT + e) ((List.replicate n.toNat z').map (toV (shOf SH e))))
      rw [List.map_replicate, pack_toV h4, noTag_untag hn, cstW_toV]
    · exact h.elim
  | ab d t e =>
    simp only [opW] at h
    split at h
    · rename_i h1 h2
      replace h := ite_gives h
      obtain ⟨hd, h⟩ := h
      rw [← (show _ = δ from h)]
      have e1 : (toSt st).bx d = none := bx_none h1
      have e2 : (toSt st).fr (bldT + d) = none := h2
      simp only [PO.dst, PO.args, PO.kd, List.map_nil, stepK, e1, e2, if_pos hd]
      show some (⟨upd (luV st.s) d _, upd (fun i => (lu st.bx i).map W.toV) d _, upd (lu st.fr) (bldT + d) _⟩ : St) = some ⟨luV (ins st.s d _), fun i => (lu (ins st.bx d _) i).map W.toV, lu (ins st.fr (bldT + d) _)⟩
      rw [bx_ins, luV_ins, fr_ins]
      rfl
    · exact h.elim
  | cw d f k xs =>
    simp only [opW] at h
    unfold cwW at h
    split at h
    · rename_i t hf
      split at h
      · rename_i ty e hk
        split at h
        · rename_i b ws hws
          split at h
          · rename_i tg ty' e' l hbx
            split at h
            · rename_i e2 n hfr
              replace h := ite_gives h
              obtain ⟨⟨⟨rfl, rfl⟩, rfl, hbl, hb⟩, hn, h⟩ := h
              obtain ⟨x, h1, h2⟩ := bind_gives h
              have hR := bldW_ok h1
              have hE : (extT T).b f = some (ty', e2) := by
                unfold extT
                simp only [hf, hk]
              have e1 : (toSt st).bx b = some (.bld tg ty' e2 l) := bx_at hbx
              have e3 : (toSt st).fr tg = some (e2, n) := hfr
              have ea : xs.map (X.ev (toSt st)) = .rf b [] :: ws.map W.toV := by rw [evX_map, hws]; rfl
              rw [← (show _ = δ from h2)]
              simp only [PO.dst, PO.args, PO.kd, stepK, hE, ea, bldV, e1, e3, hn, hbl, hb, hR, ne_eq, not_false_eq_true, and_self, if_true]
              cases d with
              | none =>
                show some (⟨luV st.s, upd (fun i => (lu st.bx i).map W.toV) b _, upd (lu st.fr) tg _⟩ : St) = some ⟨luV st.s, fun i => (lu (ins st.bx b _) i).map W.toV, lu (ins st.fr tg _)⟩
                rw [bx_ins, fr_ins]
                rfl
              | some d =>
                show some (⟨upd (luV st.s) d _, upd (fun i => (lu st.bx i).map W.toV) b _, upd (lu st.fr) tg _⟩ : St) = some ⟨luV (ins st.s d _), fun i => (lu (ins st.bx b _) i).map W.toV, lu (ins st.fr tg _)⟩
                rw [bx_ins, luV_ins, fr_ins]
                rfl
            · exact h.elim
          · exact h.elim
        · exact h.elim
      · exact h.elim
    · exact h.elim
  | sa d t e x lo hi =>
    simp only [opW] at h
    obtain ⟨w, h1, rfl⟩ := outS_gives h
    have h2 := saW_ok h1
    refine okP ?_
    cases lo <;> cases hi <;> simpa only [PO.args, PO.dst, Option.toList, List.map_cons, List.map_nil, List.cons_append, List.nil_append, evX_toV, Option.isSome_none, Option.isSome_some, Option.map_none, Option.map_some] using h2
where
  noRow_toV {w : W} (hm : memW w = true) (h : noRow w = true) : w.toV.notRow = true := by
    cases w with
    | v s x => 
      cases s <;> first | rfl | exact h | (simp [memW] at hm; done) | skip
      cases x <;> rfl
    | con c => cases c <;> first | rfl | exact h
    | agg t fs => exact h
    | _ => rfl
  noRow_cst {z : V} (h : noRow (cstW SH z) = true) : (cstW SH z).toV.notRow = true := by
    have : memW (cstW SH z) = true ∨ (cstW SH z).toV.isAgg = false := by
      rw [cstW_toV]
      cases z <;> first | exact .inr rfl | skip
      left
      unfold cstW
      split
      · split
        · split <;> rfl
        · rfl
      · rfl
    rcases this with hm | hm
    · exact noRow_toV hm h
    · revert hm
      generalize (cstW SH z).toV = v
      intro hm
      cases v <;> first | rfl | simp [V.isAgg] at hm
end Go.Nu
/-
  D, text 8: a run of a code with marks is one of the plain code.
-/
namespace Go.Nu
open Go Go.RowKit

/-- Some slots are known no more. -/
structure Drop (st st' : St) : Prop where
  s : ∀ i, st'.s i = .junk ∨ st'.s i = st.s i
  bx : st'.bx = st.bx
  fr : st'.fr = st.fr

def pwq (E : Ext) : PC → (Ex → St → Prop) → St → Prop
  | .skip, Q, st => Q .normal st
  | .reg l, Q, st => (∃ st', stepL E l st = some st' ∧ Q .normal st') ∨ ∃ T, PanL E T l [] false st ∧ Q (.pan T) st
  | .seq a b, Q, st => pwq E a (fun e st' => match e with
    | .normal => pwq E b Q st' ∨ ∃ st0, Less st' st0 ∧ pwq E b Q st0
    | e => Q e st') st
  | .cond x a b, Q, st => match x.ev st with
    | .bool c => (c = true → pwq E a Q st) ∧ (c = false → pwq E b Q st)
    | _ => False
  | .block id b, Q, st => pwq E b (fun e st' => match e with
    | .exit i => if i = id then Q .normal st' else Q (.exit i) st'
    | e => Q e st') st
  | .loop b, Q, st => ∃ I : Nat → St → Prop, (∃ n st0, Less st st0 ∧ I n st0) ∧ ∀ n st, I n st → pwq E b (fun e st' => match e with
    | .normal => ∃ n' st0, n' < n ∧ Less st' st0 ∧ I n' st0
    | e => Q e st') st
  | .exit id, Q, st => Q (.exit id) st
  | .ret, Q, st => Q .ret st
  | .gh b, Q, st => Q .normal st ∨ (thT ≤ b ∧ ∃ st0, ThawTo (b - thT) st st0 ∧ Q .normal st0) ∨ (∃ st0, nilRow b st = some st0 ∧ Q .normal st0) ∨ match freeze b st with
    | some st' => ∃ st0, Drop st' st0 ∧ Q .normal st0
    | none => False

theorem pwq_mono : ∀ {E : Ext} {pc : PC} {Q Q' : Ex → St → Prop} {st : St}, (∀ e st, Q e st → Q' e st) → pwq E pc Q st → pwq E pc Q' st
    | _, .skip, _, _, _, hq, h => hq _ _ h
    | _, .exit _, _, _, _, hq, h => hq _ _ h
    | _, .ret, _, _, _, hq, h => hq _ _ h
    | E, .gh b, Q, Q', st, hq, h => by
      unfold pwq at h ⊢
      rcases h with h | ⟨h0, st0, h1, h2⟩ | ⟨st0, h1, h2⟩ | h
      · exact .inl (hq _ _ h)
      · exact .inr (.inl ⟨h0, st0, h1, hq _ _ h2⟩)
      · exact .inr (.inr (.inl ⟨st0, h1, hq _ _ h2⟩))
      right
      right
      right
      split at h
      · obtain ⟨st0, h1, h2⟩ := h
        exact ⟨st0, h1, hq _ _ h2⟩
      · exact h.elim
    | E, .reg l, Q, Q', st, hq, h => by
      unfold pwq at h ⊢
      rcases h with ⟨st', h1, h2⟩ | ⟨T, h1, h2⟩
      · exact .inl ⟨st', h1, hq _ _ h2⟩
      · exact .inr ⟨T, h1, hq _ _ h2⟩
    | E, .seq a b, Q, Q', st, hq, h => by
      unfold pwq at h ⊢
      refine pwq_mono (fun e st h => ?_) h
      cases e with
      | normal =>
        rcases h with h | ⟨st0, h1, h2⟩
        · exact .inl (pwq_mono hq h)
        · exact .inr ⟨st0, h1, pwq_mono hq h2⟩
      | exit i => exact hq _ _ h
      | ret => exact hq _ _ h
      | pan T => exact hq _ _ h
    | E, .cond x a b, Q, Q', st, hq, h => by
      unfold pwq at h ⊢
      split at h
      · exact ⟨fun e => pwq_mono hq (h.1 e), fun e => pwq_mono hq (h.2 e)⟩
      · exact h.elim
    | E, .block id b, Q, Q', st, hq, h => by
      unfold pwq at h ⊢
      refine pwq_mono (fun e st h => ?_) h
      cases e with
      | normal => exact hq _ _ h
      | exit i =>
        simp only [] at h ⊢
        split at h
        · rename_i hi; rw [if_pos hi]; exact hq _ _ h
        · rename_i hi; rw [if_neg hi]; exact hq _ _ h
      | ret => exact hq _ _ h
      | pan T => exact hq _ _ h
    | E, .loop b, Q, Q', st, hq, h => by
      unfold pwq at h ⊢
      obtain ⟨I, h0, h1⟩ := h
      refine ⟨I, h0, fun n st hI => pwq_mono (fun e st h => ?_) (h1 n st hI)⟩
      cases e with
      | normal => exact h
      | exit i => exact hq _ _ h
      | ret => exact hq _ _ h
      | pan T => exact hq _ _ h

/-! ### what a run leaves as it was -/
structure AgrL (l : List Wr) (st st' : WSt) : Prop where
  s : ∀ i, inW (.s i) l = false → lu st'.s i = lu st.s i
  b : ∀ i, inW (.b i) l = false → lu st'.bx i = lu st.bx i
  f : ∀ i, inW (.f i) l = false → lu st'.fr i = lu st.fr i
def Agr (st st' : WSt) : Prop := ∃ l, st'.log = l ++ st.log ∧ AgrL l st st'

theorem inW_append (w : Wr) : ∀ a b : List Wr, inW w (a ++ b) = (inW w a || inW w b)
  | [], b => rfl
  | x :: a, b => by simp [inW, inW_append w a b, Bool.or_assoc]
theorem AgrL.trans {l l' : List Wr} {st st' st'' : WSt} (h : AgrL l st st') (h' : AgrL l' st' st'') : AgrL (l' ++ l) st st'' := by
  refine ⟨fun i hi => ?_, fun i hi => ?_, fun i hi => ?_⟩ <;> rw [inW_append, Bool.or_eq_false_iff] at hi
  · rw [h'.s i hi.1, h.s i hi.2]
  · rw [h'.b i hi.1, h.b i hi.2]
  · rw [h'.f i hi.1, h.f i hi.2]
theorem Agr.refl (st : WSt) : Agr st st := ⟨[], rfl, ⟨fun _ _ => rfl, fun _ _ => rfl, fun _ _ => rfl⟩⟩
theorem Agr.trans {st st' st'' : WSt} (h : Agr st st') (h' : Agr st' st'') : Agr st st'' := by
  obtain ⟨l, h1, h2⟩ := h
  obtain ⟨l', h3, h4⟩ := h'
  exact ⟨l' ++ l, by rw [h3, h1, List.append_assoc], h2.trans h4⟩

theorem same_s (i : Nat) : Wr.same (.s i) (.s i) = true := by simp [Wr.same]
theorem insO_agr {α : Type} {l : List (Nat × α)} {o : Option (Nat × α)} {i : Nat} (h : ∀ d a, o = some (d, a) → i ≠ d) : lu (insO l o) i = lu l i := by
  cases o with
  | none => rfl
  | some x =>
    obtain ⟨d, a⟩ := x
    show lu (ins l d a) i = _
    rw [lu_ins, if_neg (h d a rfl)]
theorem agr_app (st : WSt) (δ : Dl) : Agr st (st.app δ) := by
  refine ⟨δ.log, rfl, ⟨fun i hi => insO_agr fun d a h => ?_, fun i hi => insO_agr fun d a h => ?_, fun i hi => insO_agr fun d a h => ?_⟩⟩ <;>
    (rintro rfl; simp [Dl.log, h, inW_append, inW, Wr.same] at hi)

variable {TT : List TEnt} {SH : List (TypeId × Sh)} {β : Type} {r : β}

theorem toSt_log (st : WSt) (l : List Wr) : toSt { st with log := l } = toSt st := rfl

theorem lit_same {st : WSt} {j : Nat} {b : Bool} (h : lu st.s j = some (.v .bool b)) : toSt { st with s := ins st.s j (.v .bool b) } = toSt st ∧ Agr st { st with s := ins st.s j (.v .bool b) } := by
  have e : ∀ i, lu (ins st.s j (.v .bool b)) i = lu st.s i := by
    intro i
    rw [lu_ins]
    split
    · rename_i hi; rw [hi, h]
    · rfl
  refine ⟨?_, [], rfl, ⟨fun i _ => e i, fun _ _ => rfl, fun _ _ => rfl⟩⟩
  unfold toSt
  congr 1
  funext i
  unfold luV
  simp only [e]

theorem evL_ok (hT : AllT (fun t => wfA t.as = true) TT) : ∀ {l : List PG} {K : WSt → Option β} {st : WSt}, evL TT SH l K st = some r → ∃ st', stepL (extT TT) l (toSt st) = some (toSt st') ∧ K st' = some r ∧ Agr st st'
  | [], K, st, h => ⟨st, rfl, h, Agr.refl _⟩
  | pg :: l, K, st, h => by
    have one : ∀ {st : WSt}, ((opW TT SH pg.po st).run fun δ => evL TT SH l K (st.app δ)) = some r → ∃ st1 st', step1 (extT TT) pg.po (toSt st) = some (toSt st1) ∧ stepL (extT TT) l (toSt st1) = some (toSt st') ∧ K st' = some r ∧ Agr st st' := by
      intro st h
      obtain ⟨δ, h1, h2⟩ := run_gives h
      obtain ⟨st', h3, h4, h5⟩ := evL_ok hT h2
      exact ⟨_, st', opW_ok hT h1, h3, h4, (agr_app st δ).trans h5⟩
    have skip : ∀ {st : WSt}, evL TT SH l K (st.app (putD pg.po.dst (.tup []))) = some r → ∃ st1 st', (toSt st).putO pg.po.dst (.tup []) = toSt st1 ∧ stepL (extT TT) l (toSt st1) = some (toSt st') ∧ K st' = some r ∧ Agr st st' := by
      intro st h
      obtain ⟨st', h3, h4, h5⟩ := evL_ok hT h
      exact ⟨_, st', by rw [toSt_putD]; rfl, h3, h4, (agr_app st _).trans h5⟩
    unfold evL at h
    unfold stepL
    split at h
    · rename_i hg
      obtain ⟨st1, st', h1, h2, h3, h4⟩ := one h
      refine ⟨st', ?_, h3, h4⟩
      simp only [stepG, hg, h1, h2]
    · rename_i j want hg
      split at h
      · rename_i b hj
        have e1 : (toSt st).s j = .bool b := by
          show luV st.s j = _
          unfold luV
          rw [hj]
          rfl
        cases b with
        | true =>
          obtain ⟨q1, q2⟩ := lit_same hj
          simp only [cond] at h
          cases want with
          | true =>
            simp only [if_true] at h
            obtain ⟨st1, st', h1, h2, h3, h4⟩ := one h
            rw [q1] at h1
            refine ⟨st', ?_, h3, q2.trans h4⟩
            simp only [stepG, hg, e1, guardV, beq_self_eq_true, h1, h2]
          | false =>
            simp only [Bool.false_eq_true, if_false] at h
            obtain ⟨st1, st', h1, h2, h3, h4⟩ := skip h
            rw [q1] at h1
            refine ⟨st', ?_, h3, q2.trans h4⟩
            simp only [stepG, hg, e1, guardV, show (true == false) = false from rfl, h1, h2]
        | false =>
          obtain ⟨q1, q2⟩ := lit_same hj
          simp only [cond] at h
          cases want with
          | true =>
            simp only [if_true] at h
            obtain ⟨st1, st', h1, h2, h3, h4⟩ := skip h
            rw [q1] at h1
            refine ⟨st', ?_, h3, q2.trans h4⟩
            simp only [stepG, hg, e1, guardV, show (false == true) = false from rfl, h1, h2]
          | false =>
            simp only [Bool.false_eq_true, if_false] at h
            obtain ⟨st1, st', h1, h2, h3, h4⟩ := one h
            rw [q1] at h1
            refine ⟨st', ?_, h3, q2.trans h4⟩
            simp only [stepG, hg, e1, guardV, show (false == false) = true from rfl, h1, h2]
      · rename_i hj
        have e1 : (toSt st).s j = .tup [] := by
          show luV st.s j = _
          unfold luV
          rw [hj]
          rfl
        obtain ⟨st1, st', h1, h2, h3, h4⟩ := skip h
        refine ⟨st', ?_, h3, h4⟩
        simp only [stepG, hg, e1, guardV, h1, h2]
      · cases h

/-! ### regions that may panic -/
theorem callP_gives {t : TEnt} {ws : List W} {p : Option β} {K : W → Option β} (h : callP t ws p K = some r) : ws.all memW = true ∧ ∃ x y, (packL t.as ws).gives x ∧ t.F x = some y ∧ ((toV t.rs y = .nili ∧ p = some r) ∨ ∃ u w, toV t.rs y = .iface u w.toV ∧ K w = some r) := by
  unfold callP at h
  split at h
  · rename_i hm
    obtain ⟨x, h1, h2⟩ := run_gives h
    refine ⟨hm, x, ?_⟩
    unfold mayK at h2
    generalize t.F x = o at h2
    revert h2 o
    cases t.rs with
    | opt u s =>
      intro o h2
      simp only [] at h2
      cases o with
      | none => cases h2
      | some y =>
        refine ⟨y, h1, rfl, ?_⟩
        cases y with
        | none => exact .inl ⟨rfl, h2⟩
        | some z => exact .inr ⟨u, .v s z, rfl, h2⟩
    | _ => intro o h2; cases h2
  · cases h
theorem mayE_ok {T : TypeId} {po : PO} {d : Option Nat} {t : TEnt} {xs : List X} (h : mayE TT T po = some (d, t, xs)) : ∃ f, po = .ca d f xs ∧ findT TT f = some t ∧ t.kd = .may T := by
  unfold mayE at h
  split at h
  · rename_i d' f xs'
    split at h
    · rename_i t' hf
      split at h
      · rename_i T' hk
        split at h
        · rename_i hb
          cases h
          exact ⟨f, rfl, hf, by rw [hk, beq_t hb]⟩
        · cases h
      · cases h
    · cases h
  · cases h
theorem map_evX (st : WSt) (xs : List X) : (xs.map (evX st)).map W.toV = xs.map (X.ev (toSt st)) := by
  rw [List.map_map]
  exact List.map_congr_left fun x _ => (evX_toV st x).symm
theorem may_pan (hT : AllT (fun t => wfA t.as = true) TT) {T : TypeId} {pg : PG} {d : Option Nat} {t : TEnt} {xs : List X} {st : WSt} {x : dens t.as} {y : den t.rs} (hg : pg.g = none) (he : mayE TT T pg.po = some (d, t, xs)) (hm : (xs.map (evX st)).all memW = true)
    (hx : (packL t.as (xs.map (evX st))).gives x) (hy : t.F x = some y) (hv : toV t.rs y = .nili) : panG (extT TT) pg (toSt st) = some T ∧ pg.po.dst = d := by
  obtain ⟨f, hpo, hf, hk⟩ := mayE_ok he
  obtain ⟨g, po⟩ := pg
  simp only at hg hpo
  subst hg
  subst hpo
  refine ⟨?_, rfl⟩
  unfold panG
  simp only []
  have h1 : (xs.map (X.ev (toSt st))).all V.mem = true := by
    rw [← map_evX, List.all_map]
    rw [List.all_eq_true] at hm ⊢
    exact fun w hw => memW_toV (hm w hw)
  rw [if_pos h1]
  refine extT_eqX hf hk (findT_all hT hf).1 ?_ hy hv
  rw [← map_evX]
  exact packL_toV hx
theorem may_step (hT : AllT (fun t => wfA t.as = true) TT) {T u : TypeId} {pg : PG} {d : Option Nat} {t : TEnt} {xs : List X} {st : WSt} {x : dens t.as} {y : den t.rs} {w : W} (hg : pg.g = none) (he : mayE TT T pg.po = some (d, t, xs)) (hm : (xs.map (evX st)).all memW = true)
    (hx : (packL t.as (xs.map (evX st))).gives x) (hy : t.F x = some y) (hv : toV t.rs y = .iface u w.toV) : stepG (extT TT) pg (toSt st) = some (toSt (st.app (putD d w))) ∧ pg.po.dst = d ∧ keepsB pg.po = true := by
  obtain ⟨f, hpo, hf, hk⟩ := mayE_ok he
  obtain ⟨g, po⟩ := pg
  simp only at hg hpo
  subst hg
  subst hpo
  refine ⟨?_, rfl, rfl⟩
  show stepK d (xs.map (X.ev (toSt st))) (PO.kd (extT TT) (.ca d f xs)) (toSt st) = _
  have h1 : (xs.map (X.ev (toSt st))).all V.mem = true := by
    rw [← map_evX, List.all_map]
    rw [List.all_eq_true] at hm ⊢
    exact fun w hw => memW_toV (hm w hw)
  have h2 : (extT TT).p f (V.untags (xs.map (X.ev (toSt st)))) = some w.toV := by
    refine extT_eqM hf hk (findT_all hT hf).1 ?_ hy hv
    rw [← map_evX]
    exact packL_toV hx
  simp only [PO.kd, stepK]
  rw [if_pos h1, h2]
  simp only []
  rw [toSt_putD]
theorem evLQ_ok (hT : AllT (fun t => wfA t.as = true) TT) {T : TypeId} : ∀ {l : List PG} {dead : List Nat} {p : Option β} {st : WSt}, evLQ TT SH T l dead p st = some r → PanL (extT TT) T l dead true (toSt st) ∧ p = some r
  | [], dead, p, st, h => ⟨rfl, h⟩
  | pg :: l, dead, p, st, h => by
    unfold evLQ at h
    split at h
    · rename_i hd
      obtain ⟨h1, h2⟩ := evLQ_ok hT h
      exact ⟨.inl ⟨hd, h1⟩, h2⟩
    · rename_i hd
      split at h
      · cases h
      · rename_i hg
        split at h
        · rename_i d t xs he
          obtain ⟨hm, x, y, h1, h2, h3⟩ := callP_gives h
          rcases h3 with ⟨hv, h3⟩ | ⟨u, w, hv, h3⟩
          · obtain ⟨g1, g2⟩ := may_pan hT hg he hm h1 h2 hv
            obtain ⟨q1, q2⟩ := evLQ_ok hT h3
            rw [← g2] at q1
            exact ⟨.inr (.inl ⟨hd, g1, q1⟩), q2⟩
          · obtain ⟨g1, g2, g3⟩ := may_step hT hg he hm h1 h2 hv
            split at h3
            · rename_i ha
              obtain ⟨q1, q2⟩ := evLQ_ok hT h3
              rw [← g2] at ha
              exact ⟨.inr (.inr ⟨hd, g3, ha, _, g1, q1⟩), q2⟩
            · cases h3
        · split at h
          · rename_i hk
            rw [Bool.and_eq_true] at hk
            obtain ⟨δ, h1, h2⟩ := run_gives h
            obtain ⟨q1, q2⟩ := evLQ_ok hT h2
            refine ⟨.inr (.inr ⟨hd, hk.1, hk.2, _, ?_, q1⟩), q2⟩
            simp only [stepG, hg]
            exact opW_ok hT h1
          · cases h
theorem pnE_ok {T : TypeId} {pg : PG} {st : WSt} {E : Ext} (hg : pg.g = none) (h : pnE T st pg.po = true) : panG E pg (toSt st) = some T ∧ pg.po.dst = none := by
  obtain ⟨g, po⟩ := pg
  simp only at hg h
  subst hg
  unfold pnE at h
  split at h
  · rename_i x
    split at h
    · rename_i u t hw
      refine ⟨?_, rfl⟩
      unfold panG
      simp only []
      rw [evX_toV, hw]
      simp only [W.toV, W.toVs]
      rw [beq_t h]
    · cases h
  · cases h
theorem evLP_ok (hT : AllT (fun t => wfA t.as = true) TT) {T : TypeId} : ∀ {l : List PG} {dirty : Bool} {K : WSt → Option β} {p : Option β} {st : WSt}, evLP TT SH T l dirty K p st = some r →
    (∃ st', stepL (extT TT) l (toSt st) = some (toSt st') ∧ K st' = some r ∧ Agr st st') ∨ (dirty = false ∧ PanL (extT TT) T l [] false (toSt st) ∧ p = some r)
  | [], dirty, K, p, st, h => .inl ⟨st, rfl, h, Agr.refl _⟩
  | pg :: l, dirty, K, p, st, h => by
    have hd0 : deadR [] pg = false := by simp [deadR]
    have ha0 : apartD pg.po.dst [] = true := by cases pg.po.dst <;> rfl
    unfold evLP at h
    split at h
    · cases h
    · rename_i hg
      split at h
      · rename_i d t xs he
        obtain ⟨hm, x, y, h1, h2, h3⟩ := callP_gives h
        rcases h3 with ⟨hv, h3⟩ | ⟨u, w, hv, h3⟩
        · obtain ⟨g1, g2⟩ := may_pan hT hg he hm h1 h2 hv
          split at h3
          · cases h3
          · rename_i hdt
            obtain ⟨q1, q2⟩ := evLQ_ok hT h3
            refine .inr ⟨by simpa using hdt, .inr (.inl ⟨hd0, g1, ?_⟩), q2⟩
            rw [List.append_nil, g2]
            exact q1
        · obtain ⟨g1, g2, g3⟩ := may_step hT hg he hm h1 h2 hv
          rcases evLP_ok hT h3 with ⟨st', q1, q2, q3⟩ | ⟨q1, q2, q3⟩
          · refine .inl ⟨st', ?_, q2, (agr_app st _).trans q3⟩
            simp only [stepL, g1, q1]
          · exact .inr ⟨q1, .inr (.inr ⟨hd0, g3, ha0, _, g1, q2⟩), q3⟩
      · split at h
        · rename_i hp
          obtain ⟨g1, g2⟩ := pnE_ok (E := extT TT) hg hp
          split at h
          · cases h
          · rename_i hdt
            obtain ⟨q1, q2⟩ := evLQ_ok hT h
            refine .inr ⟨by simpa using hdt, .inr (.inl ⟨hd0, g1, ?_⟩), q2⟩
            rw [List.append_nil, g2]
            exact q1
        · obtain ⟨δ, h1, h2⟩ := run_gives h
          have hst : stepG (extT TT) pg (toSt st) = some (toSt (st.app δ)) := by
            simp only [stepG, hg]
            exact opW_ok hT h1
          rcases evLP_ok hT h2 with ⟨st', q1, q2, q3⟩ | ⟨q1, q2, q3⟩
          · refine .inl ⟨st', ?_, q2, (agr_app st _).trans q3⟩
            simp only [stepL, hst, q1]
          · rw [Bool.or_eq_false_iff] at q1
            exact .inr ⟨q1.1, .inr (.inr ⟨hd0, by simpa using q1.2, ha0, _, hst, q2⟩), q3⟩

/-! ### heads -/
theorem sameC_eq {c c' : V} (h : sameC c c' = true) : c = c' := by
  unfold sameC at h
  split at h
  · simp only [Bool.and_eq_true, beq_iff_eq] at h
    rw [beq_t h.1, h.2]
  · rw [beq_t h]
  · rfl
  · rfl
  · rw [Bool.and_eq_true] at h
    rw [beq_t h.1, beq_t h.2]
  · cases h

def RelW (strict : Bool) (u w : W) : Prop := u.toV = w.toV ∨ (strict = false ∧ w.toV.mem = true ∧ u.toV = w.toV.untag)

theorem all2_app {α β : Type} {R : α → β → Prop} : ∀ {a a' : List α} {b b' : List β}, All2 R a b → All2 R a' b' → All2 R (a ++ a') (b ++ b')
  | [], a', [], b', _, h => h
  | x :: a, a', y :: b, b', h, h' => ⟨h.1, all2_app h.2 h'⟩
  | [], _, _ :: _, _, h, _ => h.elim
  | _ :: _, _, [], _, h, _ => h.elim

theorem all2_strict : ∀ {us ws : List W}, All2 (RelW true) us ws → W.toVs us = W.toVs ws
  | [], [], _ => rfl
  | u :: us, w :: ws, h => by
    simp only [W.toVs, all2_strict h.2]
    rcases h.1 with h1 | h1
    · rw [h1]
    · cases h1.1
  | [], _ :: _, h => h.elim
  | _ :: _, [], h => h.elim

theorem rdT_ok {fr : List (Nat × (TypeId × Nat))} : ∀ {strict : Bool} {t : T} {ws : List W} {x : denT t} {rest : List W}, (rdT strict fr t ws).gives (x, rest) →
    ∃ us, ws = us ++ rest ∧ All2 (RelW strict) (mkTs t x) us ∧ ∀ p ∈ rowsT t x, lu fr p.1 = some p.2
  | strict, .lf s, ws, x, rest, h => by
    cases ws with
    | nil => exact False.elim h
    | cons w ws =>
      obtain ⟨h1, h2⟩ := ite_gives (α := den s × List W) (a := (x, rest)) h
      obtain ⟨y, h3, h4⟩ := bind_gives h2
      obtain ⟨rfl, rfl⟩ : y = x ∧ ws = rest := Prod.mk.inj (show (y, ws) = (x, rest) from h4)
      have e := pack_toV h3
      refine ⟨[w], rfl, ⟨?_, trivial⟩, fun p hp => by cases hp⟩
      rw [Bool.or_eq_true] at h1
      by_cases hn : noTag w = true
      · exact .inl (e.trans (noTag_untag hn))
      · rcases h1 with h1 | h1
        · simp only [Bool.and_eq_true, Bool.not_eq_true'] at h1
          exact .inr ⟨h1.1, memW_toV h1.2, e⟩
        · exact absurd h1 hn
  | strict, .row d e s, ws, x, rest, h => by
    rcases ws with _ | ⟨w, ws⟩
    · exact False.elim h
    · cases w with
      | sl d' e' s' l =>
        obtain ⟨⟨⟨rfl, rfl⟩, rfl⟩, h⟩ := dite_gives h
        split at h
        · rename_i e'' n h2
          obtain ⟨rfl, h3, h4⟩ := ite_gives h
          obtain ⟨rfl, rfl⟩ : l = x ∧ ws = rest := Prod.mk.inj (show (l, ws) = (x, rest) from h4)
          refine ⟨[.sl d' e'' s' l], rfl, ⟨.inl rfl, trivial⟩, fun p hp => ?_⟩
          obtain rfl : p = (d', (e'', List.length l)) := by simpa [rowsT] using hp
          simp only [h2, h3]
        · exact h.elim
      | _ => exact False.elim h
  | strict, .agg t ts, ws, x, rest, h => by
    rcases ws with _ | ⟨w, ws⟩
    · exact False.elim h
    · unfold rdT at h
      split at h
      · rename_i w' ws' heq
        cases heq
        split at h
        · rename_i t' fs h1
          obtain ⟨rfl, h⟩ := ite_gives h
          obtain ⟨y, h2, h3⟩ := bind_gives h
          obtain ⟨y, rest'⟩ := y
          split at h3
          · rename_i h4
            simp only [] at h4
            subst h4
            obtain ⟨rfl, rfl⟩ : y = x ∧ ws = rest := Prod.mk.inj (show (y, ws) = (x, rest) from h3)
            obtain ⟨us, e1, e2, e3⟩ := rdT_ok h2
            rw [List.append_nil] at e1
            subst e1
            refine ⟨[w], rfl, ⟨.inl ?_, trivial⟩, e3⟩
            rw [asAgg_toV h1]
            show V.agg _ (W.toVs (mkTs ts y)) = _
            rw [all2_strict e2]
          · exact False.elim h3
        · exact False.elim h
      · exact False.elim h
  | strict, .con c, ws, x, rest, h => by
    rcases ws with _ | ⟨w, ws⟩
    · exact False.elim h
    · cases w with
      | con c' =>
        obtain ⟨h1, h2⟩ := ite_gives (α := Unit × List W) (a := (x, rest)) h
        obtain ⟨_, rfl⟩ : () = x ∧ ws = rest := Prod.mk.inj (show ((), ws) = (x, rest) from h2)
        exact ⟨[.con c'], rfl, ⟨.inl (sameC_eq h1), trivial⟩, fun p hp => by cases hp⟩
      | _ => exact False.elim h
  | strict, .itc, ws, x, rest, h => by
    rcases ws with _ | ⟨w, ws⟩
    · exact False.elim h
    · cases w with
      | itc l pos =>
        obtain ⟨e, rfl⟩ : (l, pos) = x ∧ ws = rest := Prod.mk.inj (show ((l, pos), ws) = (x, rest) from h)
        subst e
        exact ⟨[.itc l pos], rfl, ⟨.inl rfl, trivial⟩, fun p hp => by cases hp⟩
      | _ => exact False.elim h
  | strict, .bld g t e, ws, x, rest, h => by
    rcases ws with _ | ⟨w, ws⟩
    · exact False.elim h
    · cases w with
      | bld g' t' e' l =>
        obtain ⟨⟨⟨rfl, rfl⟩, rfl⟩, h⟩ := ite_gives h
        split at h
        · rename_i e'' n h2
          obtain ⟨rfl, h3, h4⟩ := ite_gives h
          obtain ⟨rfl, rfl⟩ : l = x ∧ ws = rest := Prod.mk.inj (show (l, ws) = (x, rest) from h4)
          refine ⟨[.bld g' t' e'' l], rfl, ⟨.inl rfl, trivial⟩, fun p hp => ?_⟩
          obtain rfl : p = (g', (e'', List.length l)) := by simpa [rowsT] using hp
          simp only [h2, h3]
        · exact h.elim
      | _ => exact False.elim h
  | strict, .unit, ws, x, rest, h => by
    obtain ⟨_, rfl⟩ : () = x ∧ ws = rest := Prod.mk.inj (show ((), ws) = (x, rest) from h)
    exact ⟨[], rfl, trivial, fun p hp => by cases hp⟩
  | strict, .pair a b, ws, x, rest, h => by
    obtain ⟨y, h1, h2⟩ := bind_gives (show ((rdT strict fr a ws).bind fun x => (rdT strict fr b x.2).bind fun y => .pure ((x.1, y.1), y.2)).gives (x, rest) from h)
    obtain ⟨z, h3, h4⟩ := bind_gives h2
    obtain ⟨e, rfl⟩ : (y.1, z.1) = x ∧ z.2 = rest := Prod.mk.inj (show ((y.1, z.1), z.2) = (x, rest) from h4)
    subst e
    obtain ⟨us, e1, e2, e3⟩ := rdT_ok (x := y.1) (rest := y.2) h1
    obtain ⟨us', f1, f2, f3⟩ := rdT_ok (x := z.1) (rest := z.2) h3
    refine ⟨us ++ us', by rw [e1, f1, List.append_assoc], all2_app e2 f2, fun p hp => ?_⟩
    rcases List.mem_append.1 (show p ∈ rowsT a y.1 ++ rowsT b z.1 from hp) with hp | hp
    · exact e3 p hp
    · exact f3 p hp

theorem rd1_ok {strict : Bool} {fr : List (Nat × (TypeId × Nat))} {t : T} {o : Option W} {x : denT t} (h : (rd1 strict fr t o).gives x) :
    (∃ w, o = some w ∧ RelW strict (mkT t x) w) ∧ ∀ p ∈ rowsT t x, lu fr p.1 = some p.2 := by
  unfold rd1 at h
  split at h
  · rename_i w
    obtain ⟨y, h1, h2⟩ := bind_gives h
    obtain ⟨y, rest⟩ := y
    split at h2
    · rename_i h3
      simp only [] at h3
      subst h3
      obtain rfl : y = x := h2
      obtain ⟨us, e1, e2, e3⟩ := rdT_ok h1
      rw [List.append_nil] at e1
      subst e1
      refine ⟨⟨w, rfl, ?_⟩, e3⟩
      unfold mkT
      generalize mkTs t y = q at e2
      rcases q with _ | ⟨u, _ | ⟨u', q⟩⟩
      · exact e2.elim
      · exact e2.1
      · exact e2.2.elim
    · exact h2.elim
  · exact h.elim

def RelO (u : W) (bw : Bool × Option W) : Prop := ∃ w, bw.2 = some w ∧ RelW bw.1 u w

theorem rdP_ok {fr : List (Nat × (TypeId × Nat))} : ∀ {ts : List T} {ws : List (Bool × Option W)} {x : denTs ts}, (rdP fr ts ws).gives x →
    All2 RelO (mkP ts x) ws ∧ ∀ p ∈ rowsP ts x, lu fr p.1 = some p.2
  | [], ws, x, h => by
    cases ws with
    | nil => exact ⟨trivial, fun p hp => by cases hp⟩
    | cons => exact False.elim h
  | [t], ws, x, h => by
    rcases ws with _ | ⟨w, _ | ⟨w', ws⟩⟩
    · exact False.elim h
    · obtain ⟨h1, h2⟩ := rd1_ok (show (rd1 w.1 fr t w.2).gives x from h)
      exact ⟨⟨h1, trivial⟩, h2⟩
    · exact False.elim h
  | t :: u :: l, ws, x, h => by
    rcases ws with _ | ⟨w, ws⟩
    · exact False.elim h
    · obtain ⟨y, h1, h2⟩ := bind_gives (show ((rd1 w.1 fr t w.2).bind fun x => (rdP fr (u :: l) ws).bind fun y => .pure (x, y)).gives x from h)
      obtain ⟨z, h3, h4⟩ := bind_gives h2
      obtain rfl : (y, z) = x := h4
      obtain ⟨e1, e2⟩ := rd1_ok h1
      obtain ⟨f1, f2⟩ := rdP_ok h3
      refine ⟨⟨e1, f1⟩, fun p hp => ?_⟩
      rcases List.mem_append.1 (show p ∈ rowsT t y ++ rowsP (u :: l) z from hp) with hp | hp
      · exact e2 p hp
      · exact f2 p hp

theorem lu_append {α : Type} : ∀ (a b : List (Nat × α)) (i : Nat), lu (a ++ b) i = match lu a i with
    | some x => some x
    | none => lu b i
  | [], b, i => rfl
  | (j, x) :: a, b, i => by
    simp only [List.cons_append, lu]
    cases Nat.beq i j with
    | true => rfl
    | false => exact lu_append a b i
theorem lu_mem {α : Type} : ∀ {l : List (Nat × α)} {i : Nat} {a : α}, lu l i = some a → (i, a) ∈ l
  | (j, x) :: l, i, a, h => by
    unfold lu at h
    split at h
    · rename_i hb
      cases h
      rw [beq_t hb]
      simp
    · exact List.mem_cons_of_mem _ (lu_mem h)
theorem lu_keep {α : Type} (f : Nat → Wr) (k : List Wr) : ∀ (l : List (Nat × α)) (i : Nat), lu (keep f k l) i = if inW (f i) k = true then none else lu l i
  | [], i => by split <;> rfl
  | (j, x) :: l, i => by
    unfold keep
    split
    · rename_i hk
      rw [lu_keep f k l i]
      split
      · rfl
      · rename_i hi
        simp only [lu]
        cases hb : Nat.beq i j with
        | true => rw [beq_t hb] at hi; exact absurd hk hi
        | false => rfl
    · rename_i hk
      simp only [lu]
      cases hb : Nat.beq i j with
      | true =>
        rw [if_neg]
        rw [beq_t hb, hk]
        simp
      | false => exact lu_keep f k l i

theorem lu_zip {b : Bool} {g : Nat → Option W} {i : Nat} {u : W} : ∀ {l : List (Nat × T)} {us : List W} {us' : List W} {ws' : List (Bool × Option W)}, All2 RelO (us ++ us') (l.map (fun x => (b, g x.1)) ++ ws') → us.length = l.length →
    lu (zipI (l.map (·.1)) us) i = some u → RelO u (b, g i)
  | [], us, _, _, _, hl, h => by cases h
  | (j, t) :: l, [], _, _, _, hl, h => by cases h
  | (j, t) :: l, v :: us, us', ws', ha, hl, h => by
    simp only [List.map_cons, zipI, lu] at h
    cases hb : Nat.beq i j with
    | true =>
      rw [hb] at h
      cases h
      rw [beq_t hb]
      exact ha.1
    | false =>
      rw [hb] at h
      exact lu_zip ha.2 (by simpa using hl) h

theorem zipI_append {α : Type} : ∀ (is : List Nat) (us us' : List α), us.length = is.length → zipI is (us ++ us') = zipI is us
  | [], us, us', _ => by cases us <;> cases us' <;> rfl
  | i :: is, [], _, h => by simp at h
  | i :: is, u :: us, us', h => by simp [zipI, zipI_append is us us' (by simpa using h)]

theorem mkP_length : ∀ (ts : List T) (x : denTs ts), (mkP ts x).length = ts.length
  | [], _ => rfl
  | [t], _ => rfl
  | t :: u :: l, x => by simp [mkP, mkP_length (u :: l) x.2]

theorem any_beq {d : Nat} {l : List Nat} (h : l.any (Nat.beq d) = true) : d ∈ l := by
  obtain ⟨x, h1, h2⟩ := List.any_eq_true.1 h
  rw [beq_t h2]
  exact h1
theorem lu_isSome {α : Type} : ∀ {l : List (Nat × α)} {d : Nat}, d ∈ l.map (·.1) → (lu l d).isSome = true
  | (j, x) :: l, d, h => by
    unfold lu
    split
    · rfl
    · rename_i hb
      have := beq_f hb
      simp only [List.map_cons, List.mem_cons] at h
      exact lu_isSome (h.resolve_left this)

mutual
theorem okW_okT {bs fs : List Nat} {fr : Nat → Option (TypeId × Nat)} (hf : ∀ d, d ∈ fs → (fr d).isSome = true) : ∀ {w : W}, okW bs fs w = true → okT fr w.toV
  | .v s x, _ => (okT_toV s x)
  | .con c, h => by
    cases c <;> first | exact trivial | (simp [okW, okC] at h; done) | skip
    rename_i tg e es
    cases tg with
    | none => exact trivial
    | some d =>
      simp only [okW, okC, Bool.or_eq_true] at h
      rcases h with h | h
      · rcases h with h | h
        · exact .inl (.inl (beq_t h))
        · exact .inl (.inr (beq_t h))
      · exact .inr (hf d (any_beq h))
  | .agg t fs, h => okWs_okT hf (by simpa [okW] using h)
  | .tup fs, h => okWs_okT hf (by simpa [okW] using h)
  | .sl d e s l, h => .inr (hf d (any_beq (by simpa [okW] using h)))
  | .bld d t e l, h => hf d (any_beq (by simpa [okW] using h))
  | .rp _, _ => trivial
  | .iface t w, h => okW_okT hf (w := w) (by simpa [okW] using h)
  | .fn _ _, _ => trivial
  | .itc _ _, _ => trivial
theorem okWs_okT {bs fs : List Nat} {fr : Nat → Option (TypeId × Nat)} (hf : ∀ d, d ∈ fs → (fr d).isSome = true) : ∀ {ws : List W}, okWs bs fs ws = true → okTs fr (W.toVs ws)
  | [], _ => trivial
  | w :: ws, h => by
    simp only [okWs, Bool.and_eq_true] at h
    exact ⟨okW_okT hf h.1, okWs_okT hf h.2⟩
theorem okT_toV {fr : Nat → Option (TypeId × Nat)} (s : Sh) (x : den s) : okT fr (toV s x) := okT_head (okTs_toVL s x)
theorem okTs_toVL {fr : Nat → Option (TypeId × Nat)} : ∀ (s : Sh) (x : den s), okTs fr (toVL s x)
  | .bool, _ => ⟨trivial, trivial⟩
  | .int _, _ => ⟨trivial, trivial⟩
  | .byte, _ => ⟨trivial, trivial⟩
  | .str, _ => ⟨trivial, trivial⟩
  | .opt t s, x => by
    cases x with
    | none => exact ⟨trivial, trivial⟩
    | some x => exact ⟨okT_head (okTs_toVL s x), trivial⟩
  | .sl _ _, _ => ⟨trivial, trivial⟩
  | .agg t s, x => ⟨okTs_toVL s x, trivial⟩
  | .arr t s, l => by
    have : ∀ l : List (den s), okTs fr (l.map (fun x => headV (toVL s x))) := by
      intro l
      induction l with
      | nil => exact trivial
      | cons x l ih => exact ⟨okT_head (okTs_toVL s x), ih⟩
    exact ⟨this l, trivial⟩
  | .tup s, x => ⟨okTs_toVL s x, trivial⟩
  | .rp _, _ => ⟨trivial, trivial⟩
  | .fn _ _, _ => ⟨trivial, trivial⟩
  | .unit, _ => trivial
  | .pair a b, x => ⟨okT_head (okTs_toVL a x.1), okTs_toVL b x.2⟩
theorem okT_head {fr : Nat → Option (TypeId × Nat)} : ∀ {l : List V}, okTs fr l → okT fr (headV l)
  | [], _ => trivial
  | v :: l, h => h.1
end

theorem okL_lu {bs fs : List Nat} : ∀ {l : List (Nat × W)} {i : Nat} {w : W}, okL bs fs l = true → lu l i = some w → okW bs fs w = true
  | (j, x) :: l, i, w, h, hw => by
    simp only [okL, Bool.and_eq_true] at h
    unfold lu at hw
    split at hw
    · cases hw; exact h.1
    · exact okL_lu h.2 hw

theorem toV_ref (s : Sh) (x : den s) : ∀ d p, toV s x ≠ .rf d p ∧ toV s x ≠ .it d := by
  intro d p
  have key : ∀ (s : Sh) (x : den s), headV (toVL s x) ≠ .rf d p ∧ headV (toVL s x) ≠ .it d := by
    intro s
    induction s with
    | opt t s ih => intro x; cases x <;> exact ⟨by simp [toVL, headV, optV], by simp [toVL, headV, optV]⟩
    | pair a b iha ihb => intro x; exact iha x.1
    | _ => intro x; exact ⟨by simp [toVL, headV, byteV], by simp [toVL, headV, byteV]⟩
  exact key s x

theorem okW_ref {bs fs : List Nat} {w : W} {d : Nat} {p : List Nat} (h : okW bs fs w = true) (hr : w.toV = .rf d p ∨ w.toV = .it d) : d ∈ bs := by
  cases w with
  | v s x => rcases hr with hr | hr <;> first | exact ((toV_ref s x d p).1 hr).elim | exact ((toV_ref s x d p).2 hr).elim
  | con c =>
    simp only [W.toV] at hr
    rcases hr with rfl | rfl
    · exact any_beq (by simpa [okW, okC] using h)
    · exact any_beq (by simpa [okW, okC] using h)
  | _ => rcases hr with hr | hr <;> simp [W.toV] at hr

theorem head_kept {ls : LS} {st : WSt} {x : ls.den} {log : List Wr} : (∀ i, inW (.s i) ls.all = false → lu (ls.head st x log).s i = lu st.s i) ∧ (∀ i, inW (.b i) ls.all = false → lu (ls.head st x log).bx i = lu st.bx i) ∧
    (∀ i, inW (.f i) ls.all = false → lu (ls.head st x log).fr i = lu st.fr i) := by
  have none_zip : ∀ (f : Nat → Wr) (is : List Nat) (us : List W) (i : Nat), (∀ j ∈ is, inW (f j) ls.all = true) → inW (f i) ls.all = false → lu (zipI is us) i = none := by
    intro f is
    induction is with
    | nil => intro us i _ _; rfl
    | cons j is ih =>
      intro us i h1 h2
      cases us with
      | nil => rfl
      | cons u us =>
        simp only [zipI, lu]
        cases hb : Nat.beq i j with
        | true =>
          have := h1 j (by simp)
          rw [← beq_t hb, h2] at this
          cases this
        | false => exact ih us i (fun k hk => h1 k (List.mem_cons_of_mem _ hk)) h2
  have inS : ∀ j ∈ ls.s.map (·.1), inW (.s j) ls.all = true := by
    intro j hj
    unfold LS.all
    rw [inW_append, inW_append, inW_append]
    have : inW (.s j) (ls.s.map (fun x => Wr.s x.1)) = true := by
      revert hj
      generalize ls.s = l
      intro hj
      induction l with
      | nil => simp at hj
      | cons y l ih =>
        simp only [List.map_cons, List.mem_cons] at hj
        simp only [List.map_cons, inW, Bool.or_eq_true]
        rcases hj with rfl | hj
        · exact .inl (by simp [Wr.same])
        · exact .inr (ih hj)
    rw [this]; rfl
  have inB : ∀ j ∈ ls.b.map (·.1), inW (.b j) ls.all = true := by
    intro j hj
    unfold LS.all
    rw [inW_append, inW_append, inW_append]
    have : inW (.b j) (ls.b.map (fun x => Wr.b x.1)) = true := by
      revert hj
      generalize ls.b = l
      intro hj
      induction l with
      | nil => simp at hj
      | cons y l ih =>
        simp only [List.map_cons, List.mem_cons] at hj
        simp only [List.map_cons, inW, Bool.or_eq_true]
        rcases hj with rfl | hj
        · exact .inl (by simp [Wr.same])
        · exact .inr (ih hj)
    rw [this]; simp
  refine ⟨fun i hi => ?_, fun i hi => ?_, fun i hi => ?_⟩
  · show lu (zipI _ _ ++ keep .s ls.all st.s) i = _
    rw [lu_append, none_zip .s _ _ i inS hi, lu_keep, hi]
    rfl
  · show lu (zipI _ _ ++ keep .b ls.all st.bx) i = _
    rw [lu_append, none_zip .b _ _ i inB hi, lu_keep, hi]
    rfl
  · show lu (rowsP ls.ts x ++ keep .f ls.all st.fr) i = _
    have : lu (rowsP ls.ts x) i = none := by
      cases h : lu (rowsP ls.ts x) i with
      | none => rfl
      | some v =>
        exfalso
        have hm := rows_ids ls.ts x _ (lu_mem h)
        have : inW (.f i) ls.all = true := by
          unfold LS.all
          rw [inW_append, inW_append]
          have : inW (.f i) ((ls.ts.flatMap rowIds).map Wr.f) = true := by
            revert hm
            generalize ls.ts.flatMap rowIds = l
            intro hm
            induction l with
            | nil => simp at hm
            | cons y l ih =>
              simp only [List.mem_cons] at hm
              simp only [List.map_cons, inW, Bool.or_eq_true]
              rcases hm with rfl | hm
              · exact .inl (by simp [Wr.same])
              · exact .inr (ih hm)
          rw [this]; simp
        rw [hi] at this
        cases this
    rw [lu_append, this, lu_keep, hi]
    rfl
where
  rows_t : ∀ (t : T) (x : denT t) (p : Nat × (TypeId × Nat)), p ∈ rowsT t x → p.1 ∈ rowIds t
    | .lf _, _, _, h => by cases h
    | .row d e s, l, p, h => by
      obtain rfl : p = (d, (e, List.length l)) := by simpa [rowsT] using h
      simp [rowIds]
    | .bld d t e, l, p, h => by
      obtain rfl : p = (d, (e, List.length l)) := by simpa [rowsT] using h
      simp [rowIds]
    | .agg t ts, x, p, h => rows_t ts x p h
    | .con _, _, _, h => by cases h
    | .itc, _, _, h => by cases h
    | .unit, _, _, h => by cases h
    | .pair a b, x, p, h => by
      rcases List.mem_append.1 (show p ∈ rowsT a x.1 ++ rowsT b x.2 from h) with h | h
      · exact List.mem_append.2 (.inl (rows_t a _ p h))
      · exact List.mem_append.2 (.inr (rows_t b _ p h))
  rows_ids : ∀ (ts : List T) (x : denTs ts) (p : Nat × (TypeId × Nat)), p ∈ rowsP ts x → p.1 ∈ ts.flatMap rowIds
    | [], _, _, h => by cases h
    | [t], x, p, h => by
      simp only [List.flatMap_cons, List.flatMap_nil, List.append_nil]
      exact rows_t t x p h
    | t :: u :: l, x, p, h => by
      simp only [List.flatMap_cons]
      rcases List.mem_append.1 (show p ∈ rowsT t x.1 ++ rowsP (u :: l) x.2 from h) with h | h
      · exact List.mem_append.2 (.inl (rows_t t _ p h))
      · exact List.mem_append.2 (.inr (by simpa only [List.flatMap_cons] using rows_ids (u :: l) x.2 p h))

theorem less_head {ls : LS} {st st' : WSt} {x : ls.den} {log : List Wr} (ha : AgrL ls.all st st') (ht : (ls.take st').gives x) (hok : ls.ok st x = true) : Less (toSt st') (toSt (ls.head st x log)) := by
  obtain ⟨h1, h2⟩ := rdP_ok ht
  have hlen : (mkP ls.ts x).length = ls.s.length + ls.b.length := by rw [mkP_length]; simp
  have hsplit : mkP ls.ts x = (mkP ls.ts x).take ls.s.length ++ (mkP ls.ts x).drop ls.s.length := (List.take_append_drop _ _).symm
  have hok' := hok
  unfold LS.ok at hok'
  simp only [Bool.and_eq_true] at hok'
  obtain ⟨k1, k2⟩ := hok'
  have hfr : ∀ d, d ∈ (ls.head st x []).fr.map (·.1) → ((toSt (ls.head st x log)).fr d).isSome = true := fun d hd => lu_isSome hd
  have hs : ∀ i w, lu (ls.head st x log).s i = some w → ∃ w', lu st'.s i = some w' ∧ RelW false w w' := by
    intro i w hw
    have hw' : lu (zipI (ls.s.map (·.1)) (mkP ls.ts x) ++ keep .s ls.all st.s) i = some w := hw
    rw [lu_append] at hw'
    split at hw'
    · rename_i u hu
      cases hw'
      rw [hsplit, zipI_append _ _ _ (by rw [List.length_take, hlen]; simp)] at hu
      rw [hsplit] at h1
      obtain ⟨w', e1, e2⟩ := lu_zip (g := lu st'.s) (b := false) h1 (by rw [List.length_take, hlen]; omega) hu
      exact ⟨w', e1, e2⟩
    · rw [lu_keep] at hw'
      split at hw'
      · cases hw'
      · rename_i hi
        rw [← ha.s i (by simpa using hi)] at hw'
        exact ⟨w, hw', .inl rfl⟩
  have hb : ∀ i w, lu (ls.head st x log).bx i = some w → ∃ w', lu st'.bx i = some w' ∧ w.toV = w'.toV := by
    intro i w hw
    have hw' : lu (zipI (ls.b.map (·.1)) ((mkP ls.ts x).drop ls.s.length) ++ keep .b ls.all st.bx) i = some w := hw
    rw [lu_append] at hw'
    split at hw'
    · rename_i u hu
      cases hw'
      have h1' : All2 RelO ((mkP ls.ts x).drop ls.s.length ++ []) (ls.b.map (fun x => (true, lu st'.bx x.1)) ++ []) := by
        rw [List.append_nil, List.append_nil]
        have := all2_drop ls.s.length h1
        rwa [List.drop_left' (by simp)] at this
      obtain ⟨w', e1, e2⟩ := lu_zip (g := lu st'.bx) (b := true) h1' (by rw [List.length_drop, hlen]; omega) hu
      exact ⟨w', e1, e2.resolve_right fun h => by cases h.1⟩
    · rw [lu_keep] at hw'
      split at hw'
      · cases hw'
      · rename_i hi
        rw [← ha.b i (by simpa using hi)] at hw'
        exact ⟨w, hw', rfl⟩
  refine ⟨fun i => ?_, fun d v hv => ?_, fun d v hv => ?_, fun i d p hr => ?_⟩
  · show luV (ls.head st x log).s i = .junk ∨ _
    cases hw : lu (ls.head st x log).s i with
    | none => left; unfold luV; rw [hw]
    | some w =>
      right
      obtain ⟨w', e1, e2⟩ := hs i w hw
      have q1 : (toSt (ls.head st x log)).s i = w.toV := by show luV _ i = _; unfold luV; rw [hw]
      have q2 : (toSt st').s i = w'.toV := by show luV _ i = _; unfold luV; rw [e1]
      rcases e2 with e2 | ⟨_, e3, e4⟩
      · left
        refine ⟨by rw [q1, q2, e2], ?_⟩
        rw [q2, ← e2]
        exact okW_okT hfr (okL_lu k1 hw)
      · right
        exact ⟨by rw [q2]; exact e3, by rw [q1, q2, e4]⟩
  · have hv' : (lu (ls.head st x log).bx d).map W.toV = some v := hv
    obtain ⟨w, hw, rfl⟩ := Option.map_eq_some_iff.1 hv'
    obtain ⟨w', e1, e2⟩ := hb d w hw
    refine ⟨?_, okW_okT hfr (okL_lu k2 hw)⟩
    show (lu st'.bx d).map W.toV = _
    rw [e1, e2]
    rfl
  · have hv' : lu (rowsP ls.ts x ++ keep .f ls.all st.fr) d = some v := hv
    show lu st'.fr d = some v
    rw [lu_append] at hv'
    split at hv'
    · rename_i u hu
      cases hv'
      exact h2 _ (lu_mem hu)
    · rw [lu_keep] at hv'
      split at hv'
      · cases hv'
      · rename_i hi
        rw [ha.f d (by simpa using hi)]
        exact hv'
  · have hr' : luV (ls.head st x log).s i = .rf d p ∨ luV (ls.head st x log).s i = .it d := hr
    cases hw : lu (ls.head st x log).s i with
    | none => unfold luV at hr'; rw [hw] at hr'; rcases hr' with h | h <;> cases h
    | some w =>
      unfold luV at hr'
      rw [hw] at hr'
      have := okW_ref (okL_lu k1 hw) hr'
      show ((lu (ls.head st x log).bx d).map W.toV).isSome = true
      rw [Option.isSome_map]
      exact lu_isSome this
where
  all2_drop {α β : Type} {R : α → β → Prop} : ∀ (n : Nat) {a : List α} {b : List β}, All2 R a b → All2 R (a.drop n) (b.drop n)
    | 0, _, _, h => h
    | n + 1, [], [], _ => trivial
    | n + 1, x :: a, y :: b, h => all2_drop n h.2
    | _ + 1, [], _ :: _, h => h.elim
    | _ + 1, _ :: _, [], h => h.elim

end Go.Nu
