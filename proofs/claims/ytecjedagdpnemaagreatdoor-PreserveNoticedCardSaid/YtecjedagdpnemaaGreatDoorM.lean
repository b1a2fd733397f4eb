/-
  Chapter 47: the reference's Right; days; sound objects. No condition beyond what each line says.
-/
import Derived.Test.YtecjedagdpnemaaGreatDoorJ
namespace Go.Proofs.YtecjedagdpnemaaGreatDoor
open Go Go.Nu
set_option linter.unusedVariables false
theorem entsB_cons (n : Nat) (d : Int) (x : Fix) (l : List Fix) : entsB n d (x :: l) = (decide (1 ≤ x.2.1 ∧ x.2.1 ≤ 4 ∧ 0 ≤ x.2.2.1 ∧ x.2.2.1 < n) && (dayB x.1 && (decide (d ≤ x.1) && (isDig x.2.2.2.1 && entsB n x.1 l)))) := rfl
end Go.Proofs.YtecjedagdpnemaaGreatDoor
