/-
  Chapter 47: the laws on new objects, checks, damages, repairs. No condition.
-/
import Derived.Test.YtecjedagdpnemaaGreatDoorU
namespace Go.Proofs.YtecjedagdpnemaaGreatDoor
open Go Go.Nu
set_option linter.unusedVariables false
theorem law7 (o : Obj) (c : Int × Int × List File) : F7 o c = some true := by
  unfold F7
  rw [f10, bindO_some, Bool.not_true, cond_false, c16, bindO_some]
  cases hs : smallO o
  · rfl
  rw [Bool.not_true, cond_false, c11, bindO_some]
  cases hs2 : smallF c.2.2
  · rfl
  have hf := smallO_fit hs
  have hl := (smallF_fit hs2).fit
  have e1 : fRepair o c.1 c.2.2 c.2.1 = some (repairP o c.1 c.2.2 c.2.1) := by unfold fRepair; rw [if_pos ⟨fitO_small hs, fitL_small hs2⟩]
  have hf2 := fit_repair (e := c.1) (d := c.2.1) hf hl
  have hr := fun h => repair_right (o := o) (e := c.1) (l := c.2.2) (d := c.2.1) h
  rw [Bool.not_true, cond_false, e1, bindO_some, c28 _ _ _ _ hf hl, bindO_some]
  generalize repairP o c.1 c.2.2 c.2.1 = p at *
  rw [dT rfl, cond_true, c14 _ hf2.len, bindO_some, cond_true]
  by_cases h : p.2 = 0
  · rw [dT h, Bool.not_true, cond_false, c15 _ hf2, bindO_some, dT (hr h).to]
  · rw [dF h, Bool.not_false, cond_true]
end Go.Proofs.YtecjedagdpnemaaGreatDoor
