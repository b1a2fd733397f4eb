/-
  Chapter 47: the plain notions: digests, paths, files (turned from chapter 44). No condition.
-/
import Derived.Test.YtecjedagdpnemaaGreatDoorE
namespace Go.Proofs.YtecjedagdpnemaaGreatDoor
open Go Go.Nu
def dg (n : Nat) : UInt8 := ([48, 49, 50, 51, 52, 53, 54, 55, 56, 57, 97, 98, 99, 100, 101, 102] : List UInt8).getD n 0
def hexPad : Nat → Nat → List UInt8
  | 0, _ => []
  | n + 1, u => hexPad n (u / 16) ++ [dg (u % 16)]
def stp (h : Int) (b : UInt8) : Int := IntKind.u64.wrap (xorI .u64 h (IntKind.u64.wrap (b.toNat : Int)) * 1099511628211)
def fnv (h : Int) (l : List UInt8) : Int := l.foldl stp h
def fin (h : Int) : Int :=
  let a := xorI .u64 h (shrI .u64 h 33)
  let b := IntKind.u64.wrap (a * 18397679294719823053)
  let c := xorI .u64 b (shrI .u64 b 33)
  let d := IntKind.u64.wrap (c * 14181476777654086739)
  xorI .u64 d (shrI .u64 d 33)
def dig (l : List UInt8) : List UInt8 := hexPad 16 (fin (fnv 14695981039346656037 l)).toNat
def isHex (b : UInt8) : Bool := decide (48 ≤ b.toNat ∧ b.toNat ≤ 57 ∨ 97 ≤ b.toNat ∧ b.toNat ≤ 102)
def isDig (l : List UInt8) : Bool := decide (l.length = 16) && l.all isHex
def findN (s : List UInt8) (c : UInt8) : Nat := (s.takeWhile (fun x => !(x == c))).length
def pcB (n : Nat) : Bool := decide (97 ≤ n ∧ n ≤ 122 ∨ 48 ≤ n ∧ n ≤ 57 ∨ n = 46 ∨ n = 95 ∨ n = 45)
def partB (s : List UInt8) : Bool := (s.all fun c => pcB c.toNat) && (decide (s ≠ []) && (decide (s ≠ [46]) && decide (s ≠ [46, 46])))
def segs (s : List UInt8) : List (List UInt8) := if findN s 47 < s.length then s.take (findN s 47) :: segs (s.drop (findN s 47 + 1)) else [s]
termination_by s.length
decreasing_by rw [List.length_drop]; omega
def pathB (s : List UInt8) : Bool := decide (s.length ≤ 60) && (segs s).all partB
theorem hexPad_len : ∀ n u, (hexPad n u).length = n
  | 0, _ => rfl
  | n + 1, u => by rw [hexPad, List.length_append, hexPad_len n]; rfl
theorem dig_len (l : List UInt8) : (dig l).length = 16 := hexPad_len 16 _
def join (a b : List UInt8) : List UInt8 := dig (49 :: (a ++ b))
def leaf (s : List UInt8) : List UInt8 := dig (48 :: s)
def up : List (List UInt8) → List (List UInt8)
  | [] => []
  | [a] => [a]
  | a :: b :: l => join a b :: up l
theorem join_len (a b : List UInt8) : (join a b).length = 16 := dig_len _
theorem up_len : ∀ l, (up l).length = (l.length + 1) / 2
  | [] => rfl
  | [a] => by simp [up]
  | a :: b :: l => by simp [up, up_len l]; omega
def top (l : List (List UInt8)) : List UInt8 := if l.length ≤ 1 then l.getD 0 [] else top (up l)
termination_by l.length
decreasing_by rw [up_len]; omega
def root (l : List (List UInt8)) : List UInt8 := if l.length = 0 then dig [] else top (l.map leaf)
abbrev File := List UInt8 × List UInt8
def badO (q : Option (List UInt8)) (p : List UInt8) : Bool := match q with | some r => Op.bytesLess p r || decide (p = r) | none => false
def rightL : Option (List UInt8) → List File → Int
  | _, [] => 0
  | q, f :: l => if pathB f.1 = false then 3 else if badO q f.1 = true then 7 else if 2000 < f.2.length then 4 else rightL (some f.1) l
def rightP (l : List File) : Int := if l.length = 0 then 8 else if 16 < l.length then 13 else rightL none l
def leafF (f : File) : List UInt8 := dig (f.1 ++ [0] ++ f.2)
def rootP (l : List File) : List UInt8 := root (l.map leafF)
end Go.Proofs.YtecjedagdpnemaaGreatDoor
