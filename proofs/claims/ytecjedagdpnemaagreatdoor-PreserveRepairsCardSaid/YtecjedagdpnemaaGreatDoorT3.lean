/-
  Chapter 47: the laws on restoring and on changed entries. No condition beyond what each line says.
-/
import Derived.Test.YtecjedagdpnemaaGreatDoorT2
namespace Go.Proofs.YtecjedagdpnemaaGreatDoor
open Go Go.Nu
set_option linter.unusedVariables false
end Go.Proofs.YtecjedagdpnemaaGreatDoor
