/-
  Chapter 47: the chapter's examples. No condition.
-/
import Derived.Test.YtecjedagdpnemaaGreatDoorT
import Derived.KernelRfl
namespace Go.Proofs.YtecjedagdpnemaaGreatDoor
open Go Go.Nu
set_option linter.unusedVariables false
set_option maxRecDepth 100000
def L0 : List File := [([97], [84, 58, 120])]
def L1 : List File := [([97], [84, 58, 121])]
def rt0 : Rts := (1, 0, 0, 0)
def X1 : Fix := fixP [] 5 1 0 (rootP L0) true
def B0 : Edn := (1, -1, 5, rootP L0, L0)
def B1 : Edn := (1, -1, 5, rootP L0, L1)
def O1 : Obj := (1, 1, [B0], [X1], rt0)
def D1 : Obj := (1, 1, [B1], [X1], rt0)
theorem segs97 : segs [97] = [[97]] := by
  rw [segs, if_neg (by decide)]
theorem path97 : pathB [97] = true := by
  unfold pathB
  rw [segs97]; rfl
theorem right_L (s : List UInt8) (h : s.length ≤ 2000) : rightP [([97], s)] = 0 := by
  show (if pathB [97] = false then (3 : Int) else if false = true then 7 else if 2000 < s.length then 4 else 0) = 0
  rw [path97, if_neg (by simp), if_neg (by simp), if_neg (by omega)]
theorem root_one (f : File) : rootP [f] = leaf (leafF f) := by
  show (if 1 = 0 then dig [] else top [leaf (leafF f)]) = _
  rw [if_neg (by omega), top_one (by simp)]; rfl
theorem root_ne : rootP L1 ≠ rootP L0 := by
  unfold L0 L1
  rw [root_one, root_one]
  have h : decide (leaf (leafF ([97], [84, 58, 121])) = leaf (leafF ([97], [84, 58, 120]))) = false := by kernel_rfl
  exact of_decide_eq_false h
theorem rgt0 : rgtP rt0 = 0 := by decide
theorem ing1 : ingestP 1 1 1 5 L0 rt0 = (O1, 0) := by
  unfold ingestP
  rw [if_neg (by decide), if_neg (by rw [show L0 = [([97], [84, 58, 120])] from rfl, right_L _ (by simp)]; simp), if_neg (by rw [rgt0]; simp)]
  rfl
theorem right1 : RightO O1 := by
  have := ingest_right (n := 1) (r := 1) (f := 1) (d := 5) (l := L0) (t := rt0) (by rw [ing1])
  rwa [ing1] at this
theorem rightD1 : RightO D1 := with_right (o := O1) (i := 0) (l := L1) right1 (by show 0 < 1; omega) (right_L _ (by simp))
theorem fitL0 : fitL L0 = true := by decide
theorem fitL1 : fitL L1 = true := by decide
theorem fix1 : X1.2.2.2.1.length ≤ 1000 ∧ X1.2.2.2.2.1.length ≤ 1000 := ⟨by show (rootP L0).length ≤ 1000; rw [root_len]; omega, by show (dig _).length ≤ 1000; rw [dig_len]; omega⟩
theorem fitE (l : List File) (h : fitL l = true) : fitO (1, 1, [(1, -1, 5, rootP L0, l)], [X1], rt0) = true := by
  unfold fitO
  simp only [List.all_cons, List.all_nil, Bool.and_true, List.length_singleton]
  rw [h, dT (by omega), dT (by rw [root_len]; omega), dT fix1]; rfl
theorem fitO1 : fitO O1 = true := fitE L0 fitL0
theorem fitD1 : fitO D1 = true := fitE L1 fitL1
theorem lateO {o : Obj} {d : Int} (ho : o.2.2.2.1 = [X1]) (hd : dayB d = true) (h5 : 5 ≤ d) : lateP o d = 0 := by
  unfold lateP
  rw [if_neg (by rw [hd]; simp), ho]
  show (if d < 5 then (12 : Int) else 0) = 0
  rw [if_neg (by omega)]
theorem intB0 : intactB B0 = true := dT rfl
theorem intB1 : intactB B1 = false := dF root_ne
def C1 : Obj := addP O1 5 2 0 (rootP L0) true
theorem chk1 : checkP O1 5 = (C1, [], 0) := by
  unfold checkP
  rw [if_neg (by rw [right1.to]; simp), if_neg (by rw [lateO rfl rfl (by omega)]; simp), if_neg (by show ¬ 64 < 1 + 1; omega)]
  show (checkG 5 0 [B0] O1, badG 0 [B0], (0 : Int)) = _
  rw [checkG_cons, badG_cons, intB0, if_pos rfl]; rfl
theorem chkD : (checkP D1 5).2 = ([0], 0) := by
  unfold checkP
  rw [if_neg (by rw [rightD1.to]; simp), if_neg (by rw [lateO rfl rfl (by omega)]; simp), if_neg (by show ¬ 64 < 1 + 1; omega)]
  show (badG 0 [B1], (0 : Int)) = _
  rw [badG_cons, intB1, if_neg (by simp)]; rfl
theorem chk4 : checkP O1 4 = (O0, [], 12) := by
  have h : lateP O1 4 = 12 := by
    unfold lateP
    rw [if_neg (by rw [show dayB 4 = true from rfl]; simp)]
    show (if (4 : Int) < 5 then (12 : Int) else 0) = 12
    rw [if_pos (by omega)]
  unfold checkP
  rw [if_neg (by rw [right1.to]; simp), if_pos (by rw [h]; simp), h]
theorem dmg1 : damageP O1 0 0 2 = (D1, 0) := by
  rcases damage_two O1 0 0 2 right1.to with ⟨h, _⟩ | ⟨_, h⟩
  · exact absurd ⟨⟨by omega, by show (0 : Int) < 1; omega⟩, ⟨by omega, by show (0 : Int) < 1; omega⟩, ⟨by omega, by show (2 : Int) < 3; omega⟩⟩ h
  · rw [h]; rfl
def R1 : Obj := addP O1 6 4 0 (rootP L0) true
theorem rep1 : repairP D1 0 L0 6 = (R1, 0) := by
  unfold repairP
  rw [if_neg (by rw [rightD1.to]; simp), if_neg (by show ¬ ¬ ((0 : Int) ≤ 0 ∧ (0 : Int) < 1); omega), if_neg (by rw [lateO rfl rfl (by omega)]; simp), if_neg (by rw [show L0 = [([97], [84, 58, 120])] from rfl, right_L _ (by simp)]; simp), if_neg (by show ¬ (rootP L0 ≠ rootP L0); simp), if_neg (by show ¬ 64 ≤ 1; omega)]
  rfl
theorem rep2 : repairP D1 0 L1 6 = (O0, 19) := by
  unfold repairP
  rw [if_neg (by rw [rightD1.to]; simp), if_neg (by show ¬ ¬ ((0 : Int) ≤ 0 ∧ (0 : Int) < 1); omega), if_neg (by rw [lateO rfl rfl (by omega)]; simp), if_neg (by rw [show L1 = [([97], [84, 58, 121])] from rfl, right_L _ (by simp)]; simp), if_pos (by show rootP L1 ≠ rootP L0; exact root_ne)]
theorem rightR1 : RightO R1 := by
  have := repair_right (o := D1) (e := 0) (l := L0) (d := 6) (by rw [rep1])
  rwa [rep1] at this
def M0l : List Fmt := [(1, 1990, 0, 0, [116, 120, 116], [84, 58], []), (2, 1990, 0, 0, [112, 100, 102], [37, 80], [])]
theorem mig1 : migrateP O1 M0l 2 6 = (O0, 1) := by
  unfold migrateP
  rw [if_neg (by rw [right1.to]; simp), if_neg (by rw [lateO rfl rfl (by omega)]; simp)]
  show (if (2 : Int) ∉ ([] : List Int) then (O0, (1 : Int)) else _) = _
  rw [if_pos (by simp)]
theorem mig2 : migrateP O1 M0l 3 6 = (O0, 9) := by
  unfold migrateP
  rw [if_neg (by rw [right1.to]; simp), if_neg (by rw [lateO rfl rfl (by omega)]; simp)]
  rfl
theorem fitM1 : fitM O1 M0l = true := by
  unfold fitM
  rw [fitO1]
  decide
theorem f10 : F10 = some true := by
  have a1 : fIngest 1 1 1 5 L0 rt0 = some (O1, 0) := by unfold fIngest; rw [if_pos fitL0, ing1]
  have a2 : fCheck O1 5 = some (C1, [], 0) := by unfold fCheck; rw [if_pos fitO1, chk1]
  have a3 : F20 O1 = some true := by rw [c20 _ (fitO_of fitO1)]; show some (soundB [B0]) = _; unfold soundB; rw [List.all_cons, intB0]; rfl
  have a4 : F21 O1 = some 0 := by rw [c21 _ (by show 1 ≤ 1000000; omega)]; rfl
  have a5 : fDamage O1 0 0 2 = some (D1, 0) := by unfold fDamage; rw [if_pos fitO1, dmg1]
  have a6 : fCheck D1 5 = some ((checkP D1 5).1, [0], 0) := by unfold fCheck; rw [if_pos fitD1]; show some ((checkP D1 5).1, (checkP D1 5).2) = _; rw [chkD]
  have a7 : fRepair D1 0 L0 6 = some (R1, 0) := by unfold fRepair; rw [if_pos ⟨fitD1, fitL0⟩, rep1]
  have a8 : fRepair D1 0 L1 6 = some (O0, 19) := by unfold fRepair; rw [if_pos ⟨fitD1, fitL1⟩, rep2]
  have a9 : fMigrate O1 M0l 2 6 = some (O0, 1) := by unfold fMigrate; rw [if_pos fitM1, mig1]
  have a10 : fMigrate O1 M0l 3 6 = some (O0, 9) := by unfold fMigrate; rw [if_pos fitM1, mig2]
  have a11 : fCheck O1 4 = some (O0, [], 12) := by unfold fCheck; rw [if_pos fitO1, chk4]
  have b1 : F20 D1 = some false := by rw [c20 _ (fitO_of fitD1)]; show some (soundB [B1]) = _; unfold soundB; rw [List.all_cons, intB1]; rfl
  have fR : FitO R1 := (fitO_of fitO1).add (by show 1 + 1 ≤ 1000; omega) (by rw [root_len]; omega)
  have b2 : F20 R1 = some true := by rw [c20 _ fR]; show some (soundB [B0]) = _; unfold soundB; rw [List.all_cons, intB0]; rfl
  have b3 : F33 R1 = some true := by rw [c33 _ (rightR1.inx fR) (by show 2 ≤ 1000000; omega), rightR1.chd]
  have e1 : ((O1.2.2.2.1.length : Nat) : Int) = 1 := rfl
  have e2 : ((C1.2.2.2.1.length : Nat) : Int) = 2 := rfl
  unfold F10
  change bindO (fIngest 1 1 1 5 L0 rt0) _ = _
  rw [a1, bindO_some]
  change bindO (fCheck O1 5) _ = _
  rw [a2, bindO_some]
  change cond (!decide ((0 : Int) = 0)) _ _ = _
  rw [dT rfl, Bool.not_true, cond_false]
  change cond (!decide ((0 : Int) = 0)) _ _ = _
  rw [dT rfl, Bool.not_true, cond_false]
  change cond (!decide (((O1.2.2.2.1.length : Nat) : Int) = 1)) _ _ = _
  rw [dT e1, Bool.not_true, cond_false]
  change bindO (F20 O1) _ = _
  rw [a3, bindO_some, Bool.not_true, cond_false]
  change cond (!decide (((C1.2.2.2.1.length : Nat) : Int) = 2)) _ _ = _
  rw [dT e2, Bool.not_true, cond_false]
  change cond (!decide (((([] : List Int).length : Nat) : Int) = 0)) _ _ = _
  rw [dT (show ((([] : List Int).length : Nat) : Int) = 0 from rfl), Bool.not_true, cond_false]
  change bindO (F21 O1) _ = _
  rw [a4, bindO_some, dT rfl, Bool.not_true, cond_false]
  change bindO (fDamage O1 0 0 2) _ = _
  rw [a5, bindO_some]
  change bindO (fCheck D1 5) _ = _
  rw [a6, bindO_some]
  change bindO (fRepair D1 0 L0 6) _ = _
  rw [a7, bindO_some]
  change bindO (fRepair D1 0 L1 6) _ = _
  rw [a8, bindO_some]
  change bindO (fMigrate O1 M0l 2 6) _ = _
  rw [a9, bindO_some]
  change bindO (fMigrate O1 M0l 3 6) _ = _
  rw [a10, bindO_some]
  change bindO (fCheck O1 4) _ = _
  rw [a11, bindO_some]
  change cond (decide ((0 : Int) = 0)) (bindO (F20 D1) _) _ = _
  rw [dT rfl, cond_true, b1, bindO_some]
  change cond (decide ((0 : Int) = 0)) (cond (decide (((([0] : List Int).length : Nat) : Int) = 1)) _ _) _ = _
  rw [dT rfl, cond_true, dT (show ((([0] : List Int).length : Nat) : Int) = 1 from rfl), cond_true]
  change gd ((0 : Int) ≤ 0 ∧ (0 : Int) < ((([0] : List Int).length : Nat) : Int)) _ = _
  rw [gd_pos (by decide)]
  change cond (decide (([0] : List Int).getD 0 0 = 0)) (cond true (bindO (F20 R1) _) _) _ = _
  rw [dT (show ([0] : List Int).getD 0 0 = 0 from rfl), cond_true, cond_true, b2, bindO_some, cond_true]
  change bindO (F33 R1) _ = _
  rw [b3, bindO_some, cond_true]
  rfl
end Go.Proofs.YtecjedagdpnemaaGreatDoor
