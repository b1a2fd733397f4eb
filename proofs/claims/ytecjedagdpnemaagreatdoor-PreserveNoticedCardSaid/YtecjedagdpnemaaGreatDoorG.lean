/-
  Chapter 47: what the functions on objects give, as plain functions. No condition.
-/
import Derived.Test.YtecjedagdpnemaaGreatDoorDefs
namespace Go.Proofs.YtecjedagdpnemaaGreatDoor
open Go Go.Nu
abbrev Edn := Int × Int × Int × List UInt8 × List (List UInt8 × List UInt8)
abbrev Fix := Int × Int × Int × List UInt8 × List UInt8 × Bool
abbrev Rts := Int × Int × Int × Int
abbrev Obj := Int × Int × List Edn × List Fix × Rts
abbrev Fmt := Int × Int × Int × Int × List UInt8 × List UInt8 × List Int
def dayB (n : Int) : Bool := decide (0 ≤ n ∧ n ≤ 109572)
def idB (n : Int) : Bool := decide (1 ≤ n ∧ n ≤ 9999)
def lvB (n : Int) : Bool := decide (1 ≤ n ∧ n ≤ 4)
def rgtP (r : Rts) : Int :=
  if lvB r.1 = false ∨ (r.2.2.1 = 0 ∧ r.2.2.2 ≠ 0) ∨ (r.2.2.1 ≠ 0 ∧ lvB r.2.2.2 = false) then 1
  else if dayB r.2.2.1 = false ∨ ¬ (0 ≤ r.2.1 ∧ r.2.1 ≤ 99) then 2
  else if decide (0 < r.2.1) = (decide (r.1 = 2) || decide (r.2.2.2 = 2)) then 0 else 1
def bodyP (x : Fix) : List UInt8 := Lib.itoa x.1 ++ 32 :: (Lib.itoa x.2.1 ++ 32 :: (Lib.itoa x.2.2.1 ++ 32 :: ((if x.2.2.2.2.2 = true then 49 else 48) :: 32 :: x.2.2.2.1)))
def lastC (l : List Fix) : List UInt8 := match l.getLast? with | some x => x.2.2.2.2.1 | none => []
def chainP (b : List UInt8) (x : Fix) : List UInt8 := dig (b ++ bodyP x)
def chainedB : List UInt8 → List Fix → Bool
  | _, [] => true
  | b, x :: l => decide (x.2.2.2.2.1 = chainP b x) && chainedB x.2.2.2.2.1 l
def fixP (l : List Fix) (day kind ed : Int) (root : List UInt8) (good : Bool) : Fix := (day, kind, ed, root, chainP (lastC l) (day, kind, ed, root, [], good), good)
def addP (o : Obj) (day kind ed : Int) (root : List UInt8) (good : Bool) : Obj := (o.1, o.2.1, o.2.2.1, o.2.2.2.1 ++ [fixP o.2.2.2.1 day kind ed root good], o.2.2.2.2)
def ednP (i : Nat) (x : Edn) : Int :=
  if idB x.1 = false ∨ dayB x.2.2.1 = false then 2
  else if (i = 0 ∧ x.2.1 ≠ -1) ∨ (0 < i ∧ ¬ (0 ≤ x.2.1 ∧ x.2.1 < i)) then 1
  else if isDig x.2.2.2.1 = false then 3 else rightP x.2.2.2.2
def ednsP : Nat → List Edn → Int
  | _, [] => 0
  | i, x :: l => if ednP i x = 0 then ednsP (i + 1) l else ednP i x
def entsB (n : Nat) : Int → List Fix → Bool
  | _, [] => true
  | d, x :: l => decide (1 ≤ x.2.1 ∧ x.2.1 ≤ 4 ∧ 0 ≤ x.2.2.1 ∧ x.2.2.1 < n) && (dayB x.1 && (decide (d ≤ x.1) && (isDig x.2.2.2.1 && entsB n x.1 l)))
def madeB (e : List Edn) : Nat → List Fix → Bool
  | n, [] => decide (n = e.length)
  | n, x :: l => if x.2.1 = 1 ∨ x.2.1 = 3 then
      (match e[n]? with
      | some d => decide (x.2.2.1 = n ∧ (x.2.1 = 1 ↔ n = 0) ∧ x.2.2.2.2.2 = true ∧ x.2.2.2.1 = d.2.2.2.1 ∧ x.1 = d.2.2.1) && madeB e (n + 1) l
      | none => false)
    else madeB e n l
def objP (o : Obj) : Int :=
  if idB o.1 = false ∨ idB o.2.1 = false then 2
  else if o.2.2.1.length = 0 then 8
  else if 8 < o.2.2.1.length ∨ 64 < o.2.2.2.1.length then 13
  else if ednsP 0 o.2.2.1 ≠ 0 then ednsP 0 o.2.2.1
  else if rgtP o.2.2.2.2 ≠ 0 then rgtP o.2.2.2.2
  else if entsB o.2.2.1.length 0 o.2.2.2.1 = false then 1
  else if chainedB [] o.2.2.2.1 = false ∨ madeB o.2.2.1 0 o.2.2.2.1 = false then 19 else 0
def O0 : Obj := (0, 0, [], [], 0, 0, 0, 0)
def ingestP (n r f d : Int) (l : List (List UInt8 × List UInt8)) (rt : Rts) : Obj × Int :=
  if idB n = false ∨ idB r = false ∨ idB f = false ∨ dayB d = false then (O0, 2)
  else if rightP l ≠ 0 then (O0, rightP l)
  else if rgtP rt ≠ 0 then (O0, rgtP rt)
  else (addP (n, r, [(f, -1, d, rootP l, l)], [], rt) d 1 0 (rootP l) true, 0)
def lateP (o : Obj) (day : Int) : Int := if dayB day = false then 2 else match o.2.2.2.1.getLast? with | some x => if day < x.1 then 12 else 0 | none => 0
def intactB (x : Edn) : Bool := decide (rootP x.2.2.2.2 = x.2.2.2.1)
def checkG (day : Int) : Nat → List Edn → Obj → Obj
  | _, [], o => o
  | i, x :: l, o => checkG day (i + 1) l (addP o day 2 i (rootP x.2.2.2.2) (intactB x))
def badG : Nat → List Edn → List Int
  | _, [] => []
  | i, x :: l => (if intactB x = true then [] else [(i : Int)]) ++ badG (i + 1) l
def checkP (o : Obj) (day : Int) : Obj × List Int × Int :=
  if objP o ≠ 0 then (O0, [], 1)
  else if lateP o day ≠ 0 then (O0, [], lateP o day)
  else if 64 < o.2.2.2.1.length + o.2.2.1.length then (O0, [], 13)
  else (checkG day 0 o.2.2.1 o, badG 0 o.2.2.1, 0)
def getF (l : List Fmt) (n : Int) : Option Fmt := l.find? fun f => decide (f.1 = n)
def convP (f t : Fmt) (s : List UInt8) : List UInt8 × Int := if Lib.hasPrefix s f.2.2.2.2.2.1 = true then (t.2.2.2.2.2.1 ++ s.drop f.2.2.2.2.2.1.length, 0) else ([], 3)
def convsP (f t : Fmt) : List (List UInt8 × List UInt8) → Option (List (List UInt8 × List UInt8))
  | [] => some []
  | x :: l => if (convP f t x.2).2 = 0 then (convsP f t l).map fun r => (x.1, (convP f t x.2).1) :: r else none
def lastE (o : Obj) : Edn := o.2.2.1.getD (o.2.2.1.length - 1) (0, 0, 0, [], [])
def migrateP (o : Obj) (l : List Fmt) (tg day : Int) : Obj × Int :=
  if objP o ≠ 0 then (O0, 1)
  else if lateP o day ≠ 0 then (O0, lateP o day)
  else match getF l (lastE o).1, getF l tg with
  | some f, some t =>
    if tg ∉ f.2.2.2.2.2.2 then (O0, 1)
    else if intactB (lastE o) = false then (O0, 19)
    else match convsP f t (lastE o).2.2.2.2 with
    | none => (O0, 3)
    | some r =>
      if rightP r ≠ 0 then (O0, rightP r)
      else if 8 ≤ o.2.2.1.length ∨ 64 ≤ o.2.2.2.1.length then (O0, 13)
      else (addP (o.1, o.2.1, o.2.2.1 ++ [(tg, (o.2.2.1.length : Int) - 1, day, rootP r, r)], o.2.2.2.1, o.2.2.2.2) day 3 o.2.2.1.length (rootP r) true, 0)
  | _, _ => (O0, 9)
def withP (o : Obj) (i : Nat) (l : List (List UInt8 × List UInt8)) : Obj :=
  (o.1, o.2.1, o.2.2.1.set i ((o.2.2.1.getD i (0, 0, 0, [], [])).1, (o.2.2.1.getD i (0, 0, 0, [], [])).2.1, (o.2.2.1.getD i (0, 0, 0, [], [])).2.2.1, (o.2.2.1.getD i (0, 0, 0, [], [])).2.2.2.1, l), o.2.2.2.1, o.2.2.2.2)
def damageP (o : Obj) (e f a : Int) : Obj × Int :=
  if objP o ≠ 0 then (O0, 1)
  else if ¬ (0 ≤ e ∧ e < o.2.2.1.length) then (O0, 2)
  else
    let l := (o.2.2.1.getD e.toNat (0, 0, 0, [], [])).2.2.2.2
    if ¬ (0 ≤ f ∧ f < l.length) then (O0, 2)
    else
      let x := l.getD f.toNat ([], [])
      if ¬ (0 ≤ a ∧ a < x.2.length) then (O0, 2)
      else (withP o e.toNat (l.set f.toNat (x.1, x.2.set a.toNat (x.2.getD a.toNat 0 ^^^ 1))), 0)
def repairP (o : Obj) (e : Int) (l : List (List UInt8 × List UInt8)) (day : Int) : Obj × Int :=
  if objP o ≠ 0 then (O0, 1)
  else if ¬ (0 ≤ e ∧ e < o.2.2.1.length) then (O0, 2)
  else if lateP o day ≠ 0 then (O0, lateP o day)
  else if rightP l ≠ 0 then (O0, rightP l)
  else if rootP l ≠ (o.2.2.1.getD e.toNat (0, 0, 0, [], [])).2.2.2.1 then (O0, 19)
  else if 64 ≤ o.2.2.2.1.length then (O0, 13)
  else (addP (withP o e.toNat l) day 4 e (rootP l) true, 0)
def fitL (l : List (List UInt8 × List UInt8)) : Bool := decide (l.length ≤ 1000) && l.all fun f => decide (f.1.length ≤ 50000 ∧ f.2.length ≤ 50000)
def fitO (o : Obj) : Bool := (decide (o.2.2.1.length ≤ 1000 ∧ o.2.2.2.1.length ≤ 1000) && o.2.2.1.all fun x => decide (x.2.2.2.1.length ≤ 1000) && fitL x.2.2.2.2) && o.2.2.2.1.all fun x => decide (x.2.2.2.1.length ≤ 1000 ∧ x.2.2.2.2.1.length ≤ 1000)
def fitC (l : List (List UInt8 × List UInt8)) : Bool := decide (l.length ≤ 1000) && l.all fun f => decide (f.1.length ≤ 50000 ∧ f.2.length ≤ 40000)
def fitF (l : List Fmt) : Bool := decide (l.length ≤ 1000000) && l.all fun f => decide (f.2.2.2.2.2.1.length ≤ 10000 ∧ f.2.2.2.2.2.2.length ≤ 1000000)
def fitM (o : Obj) (l : List Fmt) : Bool := fitO o && ((o.2.2.1.all fun x => fitC x.2.2.2.2) && fitF l)
abbrev shFile : Sh := .agg 70 (.pair .str .str)
abbrev shEdn : Sh := .agg 63 (.pair (.int .i64) (.pair (.int .i64) (.pair (.int .i64) (.pair .str (.sl 70 shFile)))))
abbrev shFix : Sh := .agg 65 (.pair (.int .i64) (.pair (.int .i64) (.pair (.int .i64) (.pair .str (.pair .str .bool)))))
abbrev shRts : Sh := .agg 24 (.pair (.int .i64) (.pair (.int .i64) (.pair (.int .i64) (.int .i64))))
abbrev shObj : Sh := .agg 32 (.pair (.int .i64) (.pair (.int .i64) (.pair (.sl 63 shEdn) (.pair (.sl 65 shFix) shRts))))
abbrev shFmt : Sh := .agg 72 (.pair (.int .i64) (.pair (.int .i64) (.pair (.int .i64) (.pair (.int .i64) (.pair .str (.pair .str (.sl 3 (.int .i64))))))))
def fIngest (n r f d : Int) (l : List (List UInt8 × List UInt8)) (rt : Rts) : Option (Obj × Int) := if fitL l = true then some (ingestP n r f d l rt) else none
def fCheck (o : Obj) (day : Int) : Option (Obj × List Int × Int) := if fitO o = true then some (checkP o day) else none
def fMigrate (o : Obj) (l : List Fmt) (tg day : Int) : Option (Obj × Int) := if fitM o l = true then some (migrateP o l tg day) else none
def fDamage (o : Obj) (e f a : Int) : Option (Obj × Int) := if fitO o = true then some (damageP o e f a) else none
def fRepair (o : Obj) (e : Int) (l : List (List UInt8 × List UInt8)) (day : Int) : Option (Obj × Int) := if fitO o = true ∧ fitL l = true then some (repairP o e l day) else none
def entIngest : TEnt := ⟨12, [.int .i64, .int .i64, .int .i64, .int .i64, .sl 70 shFile, shRts], .tup (.pair shObj (.int .i64)), fun x => fIngest x.1 x.2.1 x.2.2.1 x.2.2.2.1 x.2.2.2.2.1 x.2.2.2.2.2, .plain⟩
def entCheck : TEnt := ⟨17, [shObj, .int .i64], .tup (.pair shObj (.pair (.sl 3 (.int .i64)) (.int .i64))), fun x => fCheck x.1 x.2, .plain⟩
def entMigrate : TEnt := ⟨23, [shObj, .sl 72 shFmt, .int .i64, .int .i64], .tup (.pair shObj (.int .i64)), fun x => fMigrate x.1 x.2.1 x.2.2.1 x.2.2.2, .plain⟩
def entDamage : TEnt := ⟨25, [shObj, .int .i64, .int .i64, .int .i64], .tup (.pair shObj (.int .i64)), fun x => fDamage x.1 x.2.1 x.2.2.1 x.2.2.2, .plain⟩
def entRepair : TEnt := ⟨27, [shObj, .int .i64, .sl 70 shFile, .int .i64], .tup (.pair shObj (.int .i64)), fun x => fRepair x.1 x.2.1 x.2.2.1 x.2.2.2, .plain⟩
end Go.Proofs.YtecjedagdpnemaaGreatDoor
