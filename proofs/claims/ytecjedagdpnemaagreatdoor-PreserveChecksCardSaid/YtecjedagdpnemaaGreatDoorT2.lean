/-
  Chapter 47: the laws on new objects, checks, damages, repairs. No condition.
-/
import Derived.Test.YtecjedagdpnemaaGreatDoorU
namespace Go.Proofs.YtecjedagdpnemaaGreatDoor
open Go Go.Nu
set_option linter.unusedVariables false
theorem law4 (o : Obj) (d : Int) : F4 o d = some true := by
  unfold F4
  rw [f10, bindO_some, Bool.not_true, cond_false, c16, bindO_some]
  cases hs : smallO o
  · rfl
  have hf := smallO_fit hs
  have e1 : fCheck o d = some (checkP o d) := by unfold fCheck; rw [if_pos (fitO_small hs)]
  have hf2 := fit_check (d := d) hf
  have hr := fun h => check_right (o := o) (d := d) h
  have hok := fun h => check_ok (o := o) (d := d) h
  have hbl : (checkP o d).2.1.length ≤ 1000 := by
    unfold checkP
    split
    · exact Nat.zero_le _
    split
    · exact Nat.zero_le _
    split
    · exact Nat.zero_le _
    exact Nat.le_trans (bad_len o.2.2.1 0) hf.e
  rw [Bool.not_true, cond_false, e1, bindO_some, c18 _ _ hf, bindO_some]
  generalize hp : checkP o d = p at *
  rw [dT rfl, cond_true, c14 _ hf2.len, bindO_some, cond_true, c19 _ (by omega), bindO_some, cond_true]
  by_cases h : p.2.2 = 0
  rotate_left
  · rw [dF h, Bool.not_false, cond_true]
  rw [dT h, Bool.not_true, cond_false, c15 _ hf2, bindO_some, dT (hr h).to, cond_true, c20 _ hf, bindO_some]
  have hE := hf.e
  rw [bad_sound _ 0, beq_dec, (hok h).2.2.2]
  dsimp only
  rw [dT (by omega), cond_true, c21 _ (by omega), bindO_some, bnd_eq, i64_wrap (by omega), dT rfl]
end Go.Proofs.YtecjedagdpnemaaGreatDoor
