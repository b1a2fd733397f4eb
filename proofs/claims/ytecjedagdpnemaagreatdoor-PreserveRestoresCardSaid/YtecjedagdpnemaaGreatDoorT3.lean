/-
  Chapter 47: the laws on restoring and on changed entries. No condition beyond what each line says.
-/
import Derived.Test.YtecjedagdpnemaaGreatDoorT2
namespace Go.Proofs.YtecjedagdpnemaaGreatDoor
open Go Go.Nu
set_option linter.unusedVariables false
theorem fitL_to {l : List File} (h : Fit l) : fitL l = true := by
  unfold fitL
  rw [Bool.and_eq_true, decide_eq_true_eq, List.all_eq_true]
  exact ⟨h.1, fun f hf => by rw [decide_eq_true_eq]; exact h.2 f hf⟩
theorem fitO_to {o : Obj} (h : FitO o) : fitO o = true := by
  unfold fitO
  rw [Bool.and_eq_true, Bool.and_eq_true, decide_eq_true_eq, List.all_eq_true, List.all_eq_true]
  refine ⟨⟨⟨h.e, h.h⟩, fun x hx => ?_⟩, fun x hx => ?_⟩
  · rw [Bool.and_eq_true, decide_eq_true_eq]
    exact ⟨(h.el x hx).1, fitL_to (h.el x hx).2⟩
  · rw [decide_eq_true_eq]
    exact h.hl x hx
theorem set_self {l : List Edn} {i : Nat} (h : i < l.length) : l.set i (l.getD i E0) = l := by
  rw [List.getD_eq_getElem?_getD, List.getElem?_eq_getElem h]
  exact List.set_getElem_self h
theorem with_back (o : Obj) (i : Nat) (l : List File) (h : i < o.2.2.1.length) : withP (withP o i l) i (o.2.2.1.getD i E0).2.2.2.2 = o := by
  have h1 : (withP o i l).2.2.1.getD i E0 = ((o.2.2.1.getD i E0).1, (o.2.2.1.getD i E0).2.1, (o.2.2.1.getD i E0).2.2.1, (o.2.2.1.getD i E0).2.2.2.1, l) := by rw [with_at o i i l h, if_pos rfl]
  have h2 : (withP (withP o i l) i (o.2.2.1.getD i E0).2.2.2.2).2.2.1 = o.2.2.1 := by
    show (withP o i l).2.2.1.set i (((withP o i l).2.2.1.getD i E0).1, ((withP o i l).2.2.1.getD i E0).2.1, ((withP o i l).2.2.1.getD i E0).2.2.1, ((withP o i l).2.2.1.getD i E0).2.2.2.1, (o.2.2.1.getD i E0).2.2.2.2) = o.2.2.1
    rw [h1]
    show (o.2.2.1.set i _).set i (o.2.2.1.getD i E0) = o.2.2.1
    rw [List.set_set]
    exact set_self h
  show (o.1, o.2.1, (withP (withP o i l) i (o.2.2.1.getD i E0).2.2.2.2).2.2.1, o.2.2.2.1, o.2.2.2.2) = o
  rw [h2]
theorem late_own {o : Obj} (h : RightO o) : lateP o (o.2.2.2.1.getD (o.2.2.2.1.length - 1) X0).1 = 0 := by
  have h1 := h.h1
  have hd : ∀ (l : List Fix) (n : Nat) (d : Int) (i : Nat), entsB n d l = true → i < l.length → dayB (l.getD i X0).1 = true := by
    intro l
    induction l with
    | nil => intro n d i _ hi; simp at hi
    | cons x l ih =>
      intro n d i he hi
      rw [entsB_cons] at he
      simp only [Bool.and_eq_true] at he
      cases i with
      | zero => exact he.2.1
      | succ i => exact ih n x.1 i he.2.2.2.2 (by simpa using hi)
  unfold lateP
  rw [if_neg (by rw [hd _ _ _ _ h.ents (show o.2.2.2.1.length - 1 < _ by omega)]; simp), last_get (by omega)]
  dsimp only
  rw [if_neg (by omega)]
set_option maxHeartbeats 1000000 in
theorem law8 (o : Obj) (s : Int × Int × Int) : F8 o s = some true := by
  unfold F8
  rw [f10, bindO_some, Bool.not_true, cond_false, c16, bindO_some]
  cases hs : smallO o
  · rfl
  have hf := smallO_fit hs
  rw [Bool.not_true, cond_false, c29 _ hf, bindO_some]
  by_cases h0 : objP o = 0
  rotate_left
  · rw [dF h0, Bool.not_false, cond_true]
  have hr := rightO_of h0
  have r1 := hr.h1
  have r8 := hr.e8
  have r64 := hr.h64
  rw [dT h0, Bool.not_true, cond_false, show fDamage o s.1 s.2.1 s.2.2 = some (damageP o s.1 s.2.1 s.2.2) by unfold fDamage; rw [if_pos (fitO_small hs)], bindO_some]
  rcases damage_two o s.1 s.2.1 s.2.2 h0 with ⟨_, h2⟩ | ⟨hsp, h2⟩
  · rw [h2]; rfl
  rw [h2]
  dsimp only
  have hsp1 := hsp.1
  have hi : s.1.toNat < o.2.2.1.length := by omega
  have hsl := fit_spot hf hsp
  have hrl := spot_right hr hsp
  generalize spotL o s.1 s.2.1 s.2.2 = L at *
  generalize hD : withP o s.1.toNat L = D
  have d1 : D.2.2.2.1 = o.2.2.2.1 := by rw [← hD]; rfl
  have d2 : D.2.2.1.length = o.2.2.1.length := by rw [← hD]; exact withE_len _ _ _
  have d3 : ∀ j : Nat, j ≠ s.1.toNat → D.2.2.1.getD j E0 = o.2.2.1.getD j E0 := fun j hj => by rw [← hD, with_at o _ j L hi, if_neg (fun e => hj e.symm)]
  have d4 : (D.2.2.1.getD s.1.toNat E0).2.2.2.1 = (o.2.2.1.getD s.1.toNat E0).2.2.2.1 := by rw [← hD, with_at o _ _ L hi, if_pos rfl]
  have d5 : withP D s.1.toNat (o.2.2.1.getD s.1.toNat E0).2.2.2.2 = o := by rw [← hD]; exact with_back o _ L hi
  have dR : RightO D := by rw [← hD]; exact with_right hr hi hrl
  have dF' : FitO D := by rw [← hD]; exact hf.with _ hi hsl
  clear hD
  rw [dT rfl, Bool.not_true, cond_false, d1, c30 _ (by omega), bindO_some, Bool.not_true, cond_false, d2, dT rfl, Bool.not_true, cond_false]
  have hx := (hf.el _ (getD_mem E0 hi)).2
  refine loopK_rule (fun p : Int => ∃ i : Nat, p = (i : Int) ∧ i ≤ o.2.2.1.length) (fun p => o.2.2.1.length - p.toNat) ⟨0, rfl, by omega⟩ rfl ?_
  rintro _ again ⟨j, rfl, hj⟩ hag
  by_cases hjl : j < o.2.2.1.length
  · rw [dT (by omega), cond_true]
    have hag' := hag ((j : Int) + 1) ⟨j + 1, by omega, by omega⟩ (by omega)
    by_cases hje : (j : Int) = s.1
    · rw [dT hje, Bool.not_true, cond_false, bnd_eq, i64_wrap (by omega)]
      exact hag'
    · rw [dF hje, Bool.not_false, cond_true, gd_pos (by omega), gd_pos (by omega), toNat_nat]
      have e3 := d3 j (by omega)
      have e4 : F31 (D.2.2.1.getD j E0).2.2.2.2 (o.2.2.1.getD j E0).2.2.2.2 = some true := by
        rw [e3]; exact g26 _ (by have := (hf.el _ (getD_mem E0 hjl)).2.1; omega)
      change bindO (F31 (D.2.2.1.getD j E0).2.2.2.2 (o.2.2.1.getD j E0).2.2.2.2) _ = _
      rw [e4, bindO_some, Bool.not_true, cond_false, bnd_eq, i64_wrap (by omega)]
      exact hag'
  rw [dF (by omega), cond_false, gd_pos (by omega), bnd_eq, i64_wrap (by omega), gd_pos (by omega), show ((o.2.2.2.1.length : Int) - 1).toNat = o.2.2.2.1.length - 1 by omega]
  have hlate : lateP D (o.2.2.2.1.getD (o.2.2.2.1.length - 1) X0).1 = 0 := by
    have := late_own hr
    unfold lateP at this ⊢
    rw [d1]; exact this
  have hfr : rightP (o.2.2.1.getD s.1.toNat E0).2.2.2.2 = 0 := (edn_files ((edns_all _ 0).1 hr.eds s.1.toNat hi)).1
  have e5 : fRepair D s.1 (o.2.2.1.getD s.1.toNat E0).2.2.2.2 (o.2.2.2.1.getD (o.2.2.2.1.length - 1) X0).1 = some (repairP D s.1 (o.2.2.1.getD s.1.toNat E0).2.2.2.2 (o.2.2.2.1.getD (o.2.2.2.1.length - 1) X0).1) := by
    unfold fRepair; rw [if_pos ⟨fitO_to dF', fitL_to hx⟩]
  change bindO (fRepair D s.1 (o.2.2.1.getD s.1.toNat E0).2.2.2.2 (o.2.2.2.1.getD (o.2.2.2.1.length - 1) X0).1) _ = _
  rw [e5, bindO_some]
  change bindO (F32 (o.2.2.1.getD s.1.toNat E0).2.2.2.2) _ = _
  rw [g16 _ hx, bindO_some]
  have e6 : repairP D s.1 (o.2.2.1.getD s.1.toNat E0).2.2.2.2 (o.2.2.2.1.getD (o.2.2.2.1.length - 1) X0).1 =
      (if rootP (o.2.2.1.getD s.1.toNat E0).2.2.2.2 ≠ (o.2.2.1.getD s.1.toNat E0).2.2.2.1 then (O0, 19) else if 64 ≤ o.2.2.2.1.length then (O0, 13) else (addP o (o.2.2.2.1.getD (o.2.2.2.1.length - 1) X0).1 4 s.1 (rootP (o.2.2.1.getD s.1.toNat E0).2.2.2.2) true, 0)) := by
    unfold repairP
    rw [if_neg (by rw [dR.to]; simp), if_neg (by rw [d2]; simpa using hsp1), if_neg (by rw [hlate]; simp), if_neg (by rw [hfr]; simp), d1, d5]
    rw [show (D.2.2.1.getD s.1.toNat (0, 0, 0, [], [])).2.2.2.1 = (o.2.2.1.getD s.1.toNat E0).2.2.2.1 from d4]
  rw [e6]
  change cond (!decide (rootP (o.2.2.1.getD s.1.toNat E0).2.2.2.2 = (o.2.2.1.getD s.1.toNat E0).2.2.2.1)) _ _ = _
  by_cases h3 : rootP (o.2.2.1.getD s.1.toNat E0).2.2.2.2 = (o.2.2.1.getD s.1.toNat E0).2.2.2.1
  rotate_left
  · rw [dF h3, Bool.not_false, cond_true, if_pos h3]; rfl
  rw [dT h3, Bool.not_true, cond_false, if_neg (by simpa using h3)]
  by_cases h4 : 64 ≤ o.2.2.2.1.length
  · rw [dT (by omega), cond_true, if_pos h4]; rfl
  rw [dF (by omega), cond_false, if_neg h4]
  generalize (o.2.2.2.1.getD (o.2.2.2.1.length - 1) X0).1 = day at *
  have hro := root_len (o.2.2.1.getD s.1.toNat E0).2.2.2.2
  generalize rootP (o.2.2.1.getD s.1.toNat E0).2.2.2.2 = ro at *
  have hlo : lateP o day = 0 := by
    unfold lateP at hlate ⊢
    rw [d1] at hlate; exact hlate
  have hdd := day_in (late_day hlo)
  dsimp only
  rw [dT rfl, cond_true]
  change bindO (F14 o o) _ = _
  rw [c14 _ hf.len, bindO_some, cond_true, bnd_eq, i64_wrap (by omega), add_len, dT (by norm_cast), cond_true, gd_pos (by omega), bnd_eq]
  have e7 : (addP o day 4 s.1 ro true).2.2.2.1.take ((o.2.2.2.1.length : Int)).toNat = o.2.2.2.1 := by
    rw [toNat_nat]
    exact List.take_left
  rw [e7, c30 _ (by omega), bindO_some, cond_true]
  have hin : ∀ x ∈ (addP o day 4 s.1 ro true).2.2.2.1, inX x := add_in (hr.inx hf) ⟨hdd, by unfold inR; omega, by unfold inR; omega, by omega⟩
  have hfa : FitO (addP o day 4 s.1 ro true) := hf.add (by omega) (by omega)
  rw [c33 _ hin (by rw [add_len]; omega), bindO_some]
  rw [show chainedB [] (addP o day 4 s.1 ro true).2.2.2.1 = true from chd_fix _ _ _ _ _ _ hr.chd, cond_true, c20 _ hfa, bindO_some, c20 _ hf, bindO_some]
  show some (soundB o.2.2.1 == soundB o.2.2.1) = some true
  rw [beq_self_eq_true]
end Go.Proofs.YtecjedagdpnemaaGreatDoor
