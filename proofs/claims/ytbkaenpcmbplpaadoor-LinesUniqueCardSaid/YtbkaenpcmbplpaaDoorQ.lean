/-
  Chapter 11: the reference's checks of fields, numbers in decimal. No condition.
-/
import Derived.Test.YtbkaenpcmbplpaaDoorP
namespace Go.Proofs.YtbkaenpcmbplpaaDoor
open Go Go.Nu

theorem dT {p : Prop} [Decidable p] (h : p) : decide p = true := decide_eq_true h
theorem dF {p : Prop} [Decidable p] (h : ¬ p) : decide p = false := decide_eq_false h
theorem toNat1 (i : Nat) : ((i : Int) + 1).toNat = i + 1 := by omega
theorem toNat2 (i : Nat) : ((i : Int) + 2).toNat = i + 2 := by omega

theorem ind_two {a b : UInt8} : indB [a, b] = ((decide (a = 32) || isD a) && (decide (b = 32) || isD b)) := by
  unfold indB
  simp
theorem by32 {a : UInt8} : a.toNat = 32 ↔ a = 32 := by rw [← UInt8.toNat_inj]; rfl
end Go.Proofs.YtbkaenpcmbplpaaDoor
