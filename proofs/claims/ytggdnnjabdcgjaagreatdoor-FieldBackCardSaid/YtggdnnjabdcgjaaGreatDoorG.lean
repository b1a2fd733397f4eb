/-
  What field.Set gives, as a plain function. No condition.
-/
import Derived.Test.YtggdnnjabdcgjaaGreatDoorE
namespace Go.Proofs.YtggdnnjabdcgjaaGreatDoor
open Go Go.Nu

abbrev shSub : Sh := .agg 46 (.pair .byte .str)
abbrev shField : Sh := .agg 24 (.pair .str (.pair .str (.pair (.sl 46 shSub) (.int .i64))))
/-- The first subfield with the code gets the value; if there is none, one is appended. -/
def setS (c : UInt8) (v : List UInt8) : List (UInt8 × List UInt8) → List (UInt8 × List UInt8)
  | [] => [(c, v)]
  | s :: l => if s.1 = c then (s.1, v) :: l else s :: setS c v l
def setL (l : List (UInt8 × List UInt8)) (c : UInt8) (v : List UInt8) : List (UInt8 × List UInt8) := if v = [] then l.filter (fun s => s.1 != c) else setS c v l
def setF (f : List UInt8 × List UInt8 × List (UInt8 × List UInt8) × Int) (c : UInt8) (v : List UInt8) : List UInt8 × List UInt8 × List (UInt8 × List UInt8) × Int := (f.1, f.2.1, setL f.2.2.1 c v, f.2.2.2)
def fSet (f : List UInt8 × List UInt8 × List (UInt8 × List UInt8) × Int) (c : UInt8) (v : List UInt8) : Option (List UInt8 × List UInt8 × List (UInt8 × List UInt8) × Int) := if List.length f.2.2.1 ≤ 1000000 then some (setF f c v) else none
def entSet : TEnt := ⟨20, [shField, .byte, .str], shField, fun x => fSet x.1 x.2.1 x.2.2, .plain⟩
end Go.Proofs.YtggdnnjabdcgjaaGreatDoor
