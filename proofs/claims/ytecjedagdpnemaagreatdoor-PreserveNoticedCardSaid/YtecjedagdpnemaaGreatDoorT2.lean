/-
  Chapter 47: the laws on new objects, checks, damages, repairs. No condition.
-/
import Derived.Test.YtecjedagdpnemaaGreatDoorU
namespace Go.Proofs.YtecjedagdpnemaaGreatDoor
open Go Go.Nu
set_option linter.unusedVariables false
end Go.Proofs.YtecjedagdpnemaaGreatDoor
