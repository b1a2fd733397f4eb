/-
  Chapter 47: the laws on new objects, checks, damages, repairs. No condition.
-/
import Derived.Test.YtecjedagdpnemaaGreatDoorU
namespace Go.Proofs.YtecjedagdpnemaaGreatDoor
open Go Go.Nu
set_option linter.unusedVariables false
theorem law3 (a : Int × Int × Int × Int × List File × Int × Int × Int × Int) : F3 a = some true := by
  unfold F3
  rw [f10, bindO_some, Bool.not_true, cond_false, c11, bindO_some]
  cases hs : smallF a.2.2.2.2.1
  · rfl
  have hl := (smallF_fit hs).fit
  have e1 : fIngest a.1 a.2.1 a.2.2.1 a.2.2.2.1 a.2.2.2.2.1 a.2.2.2.2.2 = some (ingestP a.1 a.2.1 a.2.2.1 a.2.2.2.1 a.2.2.2.2.1 a.2.2.2.2.2) := by unfold fIngest; rw [if_pos (fitL_small hs)]
  have hf := fit_ingest (n := a.1) (r := a.2.1) (f := a.2.2.1) (d := a.2.2.2.1) (t := a.2.2.2.2.2) hl
  have hr := fun h => ingest_right (n := a.1) (r := a.2.1) (f := a.2.2.1) (d := a.2.2.2.1) (l := a.2.2.2.2.1) (t := a.2.2.2.2.2) h
  rw [Bool.not_true, cond_false, e1, bindO_some, c13 _ _ _ _ _ _ hl, bindO_some]
  generalize ingestP a.1 a.2.1 a.2.2.1 a.2.2.2.1 a.2.2.2.2.1 a.2.2.2.2.2 = p at *
  rw [dT rfl, cond_true, c14 _ hf.len, bindO_some, cond_true]
  by_cases h : p.2 = 0
  · rw [dT h, Bool.not_true, cond_false, c15 _ hf, bindO_some, dT (hr h).to]
  · rw [dF h, Bool.not_false, cond_true]
end Go.Proofs.YtecjedagdpnemaaGreatDoor
