/-
  Chapter 47: sizes of what is made; the laws on new objects, checks, damages, repairs. No condition beyond what each line says.
-/
import Derived.Test.YtecjedagdpnemaaGreatDoorZ
namespace Go.Proofs.YtecjedagdpnemaaGreatDoor
open Go Go.Nu
set_option linter.unusedVariables false
theorem FitO.add {o : Obj} {d k e : Int} {r : List UInt8} {g : Bool} (h : FitO o) (hn : o.2.2.2.1.length + 1 ≤ 1000) (hr : r.length ≤ 1000) : FitO (addP o d k e r g) := by
  refine ⟨h.e, by rw [add_len]; exact hn, h.el, fun x hx => ?_⟩
  rcases List.mem_append.1 (show x ∈ o.2.2.2.1 ++ [fixP o.2.2.2.1 d k e r g] from hx) with hx | hx
  · exact h.hl x hx
  · rw [List.mem_singleton] at hx; subst hx
    exact ⟨hr, by show (dig _).length ≤ 1000; rw [dig_len]; omega⟩
end Go.Proofs.YtecjedagdpnemaaGreatDoor
