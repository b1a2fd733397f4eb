/-
  Chapter 47: the laws on new objects, checks, damages, repairs. No condition.
-/
import Derived.Test.YtecjedagdpnemaaGreatDoorU
namespace Go.Proofs.YtecjedagdpnemaaGreatDoor
open Go Go.Nu
set_option linter.unusedVariables false
theorem law6 (o : Obj) (s : Int × Int × Int) : F6 o s = some true := by
  unfold F6
  rw [f10, bindO_some, Bool.not_true, cond_false, c16, bindO_some]
  cases hs : smallO o
  · rfl
  have hf := smallO_fit hs
  have e1 : fDamage o s.1 s.2.1 s.2.2 = some (damageP o s.1 s.2.1 s.2.2) := by unfold fDamage; rw [if_pos (fitO_small hs)]
  have hf2 := fit_damage (e := s.1) (f := s.2.1) (a := s.2.2) hf
  have hr := fun h => damage_right (o := o) (e := s.1) (f := s.2.1) (a := s.2.2) h
  rw [Bool.not_true, cond_false, e1, bindO_some, bindO_some]
  generalize damageP o s.1 s.2.1 s.2.2 = p at *
  rw [dT rfl, cond_true, c14 _ hf2.len, bindO_some, cond_true]
  by_cases h : p.2 = 0
  · rw [dT h, Bool.not_true, cond_false, c15 _ hf2, bindO_some, dT (hr h).to]
  · rw [dF h, Bool.not_false, cond_true]
end Go.Proofs.YtecjedagdpnemaaGreatDoor
