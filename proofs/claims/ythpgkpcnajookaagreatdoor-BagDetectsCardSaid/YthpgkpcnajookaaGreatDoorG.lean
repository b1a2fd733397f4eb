/-
  What bag.Verify gives, as a plain function. No condition.
-/
import Derived.Test.YthpgkpcnajookaaGreatDoorDefs
namespace Go.Proofs.YthpgkpcnajookaaGreatDoor
open Go Go.Nu

/-- The lines of a manifest: (digest, path); none if it is no manifest. -/
def entsG : Nat → List UInt8 → List UInt8 → Option (List (List UInt8 × List UInt8))
  | 0, _, _ => none
  | k + 1, s, last => if s = [] then some [] else
    if (Lib.cut s [10]).2.2 = false ∨ (Lib.cut (Lib.cut s [10]).1 [32]).2.2 = false ∨ isDig (Lib.cut (Lib.cut s [10]).1 [32]).1 = false ∨ pathB (Lib.cut (Lib.cut s [10]).1 [32]).2.1 = false ∨
        (Op.bytesLess (Lib.cut (Lib.cut s [10]).1 [32]).2.1 last || decide ((Lib.cut (Lib.cut s [10]).1 [32]).2.1 = last)) = true then none
    else (entsG k (Lib.cut s [10]).2.1 (Lib.cut (Lib.cut s [10]).1 [32]).2.1).map fun l => ((Lib.cut (Lib.cut s [10]).1 [32]).1, (Lib.cut (Lib.cut s [10]).1 [32]).2.1) :: l
def entsP (s : List UInt8) : Option (List (List UInt8 × List UInt8)) := entsG (s.length + 1) s []
/-- The digest that the first entry with the path has. -/
def sumOf : List (List UInt8 × List UInt8) → List UInt8 → Option (List UInt8)
  | [], _ => none
  | x :: m, p => if x.2 = p then some x.1 else sumOf m p
def matchB (m : List (List UInt8 × List UInt8)) (f : List UInt8 × List UInt8) : Bool := match sumOf m f.1 with | some d => decide (d = dig f.2) | none => false
def surplusB (m l : List (List UInt8 × List UInt8)) : Bool := m.any fun x => !(l.any fun f => decide (f.1 = x.2))
/-- The places of what is not held by g, from n on. -/
def missL (g : List UInt8 × List UInt8 → Bool) : Int → List (List UInt8 × List UInt8) → List Int
  | _, [] => []
  | n, f :: l => (if g f = true then [] else [n]) ++ missL g (n + 1) l
def verifyP (l : List (List UInt8 × List UInt8)) (s : List UInt8) : List Int := match entsP s with
  | none => missL (fun _ => false) 0 l ++ [(l.length : Int)]
  | some m => missL (matchB m) 0 l ++ (if surplusB m l = true then [(l.length : Int)] else [])
def fVerify (l : List (List UInt8 × List UInt8)) (s : List UInt8) : Option (List Int) :=
  if l.length ≤ 1000 ∧ s.length ≤ 1000000 ∧ (l.all fun f => decide (f.1.length ≤ 50000) && decide (f.2.length ≤ 50000)) = true then some (verifyP l s) else none
def entVerify : TEnt := ⟨20, [.sl 39 (.agg 39 (.pair .str .str)), .str], .sl 3 (.int .i64), fun x => fVerify x.1 x.2, .plain⟩
end Go.Proofs.YthpgkpcnajookaaGreatDoor
