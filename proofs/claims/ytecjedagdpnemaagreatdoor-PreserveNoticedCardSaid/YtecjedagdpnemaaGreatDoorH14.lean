/-
  the reference's Damage walked where it damages a byte. No condition beyond what each line says.
-/
import Derived.Test.YtecjedagdpnemaaGreatDoorH13
namespace Go.Proofs.YtecjedagdpnemaaGreatDoor
open Go Go.Nu Go.RowKit Go.Sort
set_option linter.unusedVariables false
end Go.Proofs.YtecjedagdpnemaaGreatDoor
