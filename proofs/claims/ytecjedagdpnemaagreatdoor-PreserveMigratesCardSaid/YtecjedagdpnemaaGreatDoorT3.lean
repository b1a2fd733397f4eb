/-
  Chapter 47: the laws on restoring and on changed entries. No condition.
-/
import Derived.Test.YtecjedagdpnemaaGreatDoorT2
namespace Go.Proofs.YtecjedagdpnemaaGreatDoor
open Go Go.Nu
set_option linter.unusedVariables false
end Go.Proofs.YtecjedagdpnemaaGreatDoor
