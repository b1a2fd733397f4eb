/-
  Chapter 47: what a reading tells of the numbers of a history. No condition.
-/
import Derived.Test.YtecjedagdpnemaaGreatDoorT3
namespace Go.Proofs.YtecjedagdpnemaaGreatDoor
open Go Go.Nu
set_option linter.unusedVariables false
end Go.Proofs.YtecjedagdpnemaaGreatDoor
