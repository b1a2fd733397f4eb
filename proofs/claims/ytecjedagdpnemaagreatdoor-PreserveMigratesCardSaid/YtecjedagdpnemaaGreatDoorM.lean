/-
  Chapter 47: the reference's Right; days; sound objects. No condition.
-/
import Derived.Test.YtecjedagdpnemaaGreatDoorJ
namespace Go.Proofs.YtecjedagdpnemaaGreatDoor
open Go Go.Nu
set_option linter.unusedVariables false
def lastD (l : List Fix) (i : Nat) : Int := if i = 0 then 0 else (l.getD (i - 1) X0).1
theorem entsB_cons (n : Nat) (d : Int) (x : Fix) (l : List Fix) : entsB n d (x :: l) = (decide (1 ≤ x.2.1 ∧ x.2.1 ≤ 4 ∧ 0 ≤ x.2.2.1 ∧ x.2.2.1 < n) && (dayB x.1 && (decide (d ≤ x.1) && (isDig x.2.2.2.1 && entsB n x.1 l)))) := rfl
theorem c29 (o : Obj) (hf : FitO o) : F29 o = some (objP o) := by
  have he := hf.e
  have hh := hf.h
  unfold F29 objP
  by_cases a1 : o.1 < 1
  · rw [dT a1, cond_true, if_pos (.inl (dF (by omega)))]
  rw [dF a1, cond_false]
  by_cases a2 : 9999 < o.1
  · rw [dT a2, cond_true, if_pos (.inl (dF (by omega)))]
  rw [dF a2, cond_false]
  by_cases a3 : o.2.1 < 1
  · rw [dT a3, cond_true, if_pos (.inr (dF (by omega)))]
  rw [dF a3, cond_false]
  by_cases a4 : 9999 < o.2.1
  · rw [dT a4, cond_true, if_pos (.inr (dF (by omega)))]
  rw [dF a4, cond_false, if_neg (by
    have h1 : idB o.1 = true := dT (by omega)
    have h2 : idB o.2.1 = true := dT (by omega)
    rw [h1, h2]; simp)]
  by_cases h3 : o.2.2.1.length = 0
  · rw [dT (by omega), cond_true, if_pos h3]
  rw [dF (by omega), cond_false, if_neg h3]
  by_cases h4 : 8 < o.2.2.1.length
  · rw [dT (by omega), cond_true, if_pos (.inl h4)]
  rw [dF (by omega), cond_false]
  by_cases h5 : 64 < o.2.2.2.1.length
  · rw [dT (by omega), cond_true, if_pos (.inr h5)]
  rw [dF (by omega), cond_false, if_neg (by omega)]
  refine loopK_rule (fun p : Int => ∃ i : Nat, p = (i : Int) ∧ i ≤ o.2.2.1.length ∧ ednsP i (o.2.2.1.drop i) = ednsP 0 o.2.2.1) (fun p => o.2.2.1.length - p.toNat) ⟨0, rfl, by omega, rfl⟩ rfl ?_
  rintro _ again ⟨i, rfl, hi, hed⟩ hag
  by_cases hlt : i < o.2.2.1.length
  · have hfx := (all_at hf.el E0 hlt).2
    rw [edns_step hlt] at hed
    rw [dT (by omega), cond_true, gd_pos (by omega), toNat_nat]
    have key : ∀ v : Int, ednP i (o.2.2.1.getD i E0) = v → v ≠ 0 → (if ednsP 0 o.2.2.1 ≠ 0 then ednsP 0 o.2.2.1 else if rgtP o.2.2.2.2 ≠ 0 then rgtP o.2.2.2.2 else if entsB o.2.2.1.length 0 o.2.2.2.1 = false then 1 else if chainedB [] o.2.2.2.1 = false ∨ madeB o.2.2.1 0 o.2.2.2.1 = false then 19 else 0) = v := by
      intro v hv h0
      rw [hv, if_neg h0] at hed
      rw [if_pos (by rw [← hed]; exact h0), ← hed]
    generalize (if ednsP 0 o.2.2.1 ≠ 0 then ednsP 0 o.2.2.1 else if rgtP o.2.2.2.2 ≠ 0 then rgtP o.2.2.2.2 else if entsB o.2.2.1.length 0 o.2.2.2.1 = false then (1 : Int) else if chainedB [] o.2.2.2.1 = false ∨ madeB o.2.2.1 0 o.2.2.2.1 = false then 19 else 0) = W at *
    generalize o.2.2.1.getD i E0 = x at *
    by_cases b1 : x.1 < 1
    · rw [dT b1, cond_true, key 2 (by unfold ednP; rw [if_pos (.inl (dF (by omega)))]) (by omega)]
    rw [dF b1, cond_false]
    by_cases b2 : 9999 < x.1
    · rw [dT b2, cond_true, key 2 (by unfold ednP; rw [if_pos (.inl (dF (by omega)))]) (by omega)]
    rw [dF b2, cond_false, c44, bindO_some]
    cases b3 : dayB x.2.2.1
    · rw [Bool.not_false, cond_true, key 2 (by unfold ednP; rw [if_pos (.inr b3)]) (by omega)]
    rw [Bool.not_true, cond_false]
    have hid : idB x.1 = true := dT (by omega)
    have e1 : ∀ v : Int, (if (i = 0 ∧ x.2.1 ≠ -1) ∨ (0 < i ∧ ¬ (0 ≤ x.2.1 ∧ x.2.1 < i)) then (1 : Int) else if isDig x.2.2.2.1 = false then 3 else rightP x.2.2.2.2) = v → ednP i x = v := by
      intro v hv
      unfold ednP
      rw [hid, b3, if_neg (by simp), hv]
    refine jn_rule (fun _ => ¬ ((i = 0 ∧ x.2.1 ≠ -1) ∨ (0 < i ∧ ¬ (0 ≤ x.2.1 ∧ x.2.1 < i)))) (fun next hnx => ?_) (fun _ hc => ?_)
    · by_cases h6 : (i : Int) = 0
      · rw [dT h6, cond_true]
        by_cases h7 : x.2.1 = -1
        · rw [dT h7, Bool.not_true, cond_false, dF (by omega), cond_false]
          exact hnx _ (by omega)
        · rw [dF h7, Bool.not_false, cond_true, key 1 (e1 1 (if_pos (by omega))) (by omega)]
      · rw [dF h6, cond_false, dT (by omega), cond_true]
        by_cases h7 : x.2.1 < 0
        · rw [dT h7, cond_true, key 1 (e1 1 (if_pos (by omega))) (by omega)]
        · rw [dF h7, cond_false]
          by_cases h8 : (i : Int) ≤ x.2.1
          · rw [dT h8, cond_true, key 1 (e1 1 (if_pos (by omega))) (by omega)]
          · rw [dF h8, cond_false]
            exact hnx _ (by omega)
    · rw [f16, bindO_some]
      cases h9 : isDig x.2.2.2.1
      · rw [Bool.not_false, cond_true, key 3 (e1 3 (by rw [if_neg hc, if_pos h9])) (by omega)]
      rw [Bool.not_true, cond_false, g14 _ hfx, bindO_some]
      have e2 : ednP i x = rightP x.2.2.2.2 := e1 _ (by rw [if_neg hc, if_neg (by rw [h9]; simp)])
      by_cases h10 : rightP x.2.2.2.2 = 0
      · rw [dT h10, Bool.not_true, cond_false, bnd_eq, i64_wrap (by omega)]
        rw [e2, if_pos h10] at hed
        exact hag _ ⟨i + 1, by omega, by omega, hed⟩ (by omega)
      · rw [dF h10, Bool.not_false, cond_true, key _ e2 h10]
  · rw [dF (by omega), cond_false]
    rw [List.drop_eq_nil_of_le (by omega)] at hed
    rw [if_neg (by rw [← hed]; simp [ednsP]), c46, bindO_some]
    by_cases h7 : rgtP o.2.2.2.2 = 0
    rotate_left
    · rw [dF h7, Bool.not_false, cond_true, if_pos h7]
    rw [dT h7, Bool.not_true, cond_false, if_neg (by simp [h7])]
    clear hag hed
    generalize hl : o.2.2.2.1 = l at *
    generalize hn : o.2.2.1.length = n at *
    refine loopK_rule (fun p : Int => ∃ i : Nat, p = (i : Int) ∧ i ≤ l.length ∧ entsB n (lastD l i) (l.drop i) = entsB n 0 l) (fun p => l.length - p.toNat) ⟨0, rfl, by omega, rfl⟩ rfl ?_
    rintro _ again2 ⟨j, rfl, hj, hen⟩ hag2
    by_cases hlt2 : j < l.length
    · rw [dT (by omega), cond_true, gd_pos (by omega), toNat_nat]
      rw [drop_getD X0 hlt2, entsB_cons] at hen
      have hnext : lastD l (j + 1) = (l.getD j X0).1 := by unfold lastD; rw [if_neg (by omega), Nat.add_sub_cancel]
      have hld : 0 < j → lastD l j = (l.getD (j - 1) X0).1 := fun h => if_neg (by omega)
      have hl0 : j = 0 → lastD l j = 0 := fun h => if_pos h
      generalize l.getD j X0 = x at *
      have bad : entsB n 0 l = false → some (if entsB n 0 l = false then (1 : Int) else if chainedB [] l = false ∨ madeB o.2.2.1 0 l = false then 19 else 0) = some 1 := fun h => by rw [if_pos h]
      by_cases b1 : x.2.1 < 1
      · rw [dT b1, cond_true, bad (by rw [← hen, dF (by omega)]; rfl)]
      rw [dF b1, cond_false]
      by_cases b2 : 4 < x.2.1
      · rw [dT b2, cond_true, bad (by rw [← hen, dF (by omega)]; rfl)]
      rw [dF b2, cond_false]
      by_cases b3 : x.2.2.1 < 0
      · rw [dT b3, cond_true, bad (by rw [← hen, dF (by omega)]; rfl)]
      rw [dF b3, cond_false]
      by_cases b4 : (n : Int) ≤ x.2.2.1
      · rw [dT b4, cond_true, bad (by rw [← hen, dF (by omega)]; rfl)]
      rw [dF b4, cond_false, c44, bindO_some]
      rw [dT (by omega), Bool.true_and] at hen
      cases b5 : dayB x.1
      · rw [Bool.not_false, cond_true, bad (by rw [← hen, b5]; rfl)]
      rw [b5, Bool.true_and] at hen
      rw [Bool.not_true, cond_false]
      have hx0 : 0 ≤ x.1 := (of_decide_eq_true b5).1
      have tail : ¬ x.1 < lastD l j → ∀ K : Option Int, K = cond (!isDig x.2.2.2.1) (some (1 : Int)) (bnd (IntKind.wrap .i64 ((j : Int) + 1)) fun y => again2 y) → K = some (if entsB n 0 l = false then (1 : Int) else if chainedB [] l = false ∨ madeB o.2.2.1 0 l = false then 19 else 0) := by
        rintro hle _ rfl
        rw [dT (by omega), Bool.true_and] at hen
        cases b7 : isDig x.2.2.2.1
        · rw [Bool.not_false, cond_true, bad (by rw [← hen, b7]; rfl)]
        rw [b7, Bool.true_and] at hen
        rw [Bool.not_true, cond_false, bnd_eq, i64_wrap (by omega)]
        exact hag2 _ ⟨j + 1, by omega, by omega, by rw [hnext]; exact hen⟩ (by omega)
      by_cases hj0 : 0 < j
      · rw [dT (by omega), cond_true, bnd_eq, i64_wrap (by omega), gd_pos (by omega), show ((j : Int) - 1).toNat = j - 1 by omega, ← hld hj0]
        by_cases b6 : x.1 < lastD l j
        · rw [dT b6, cond_true, bad (by rw [← hen, dF (by omega)]; rfl)]
        · rw [dF b6, cond_false, f16, bindO_some]
          exact tail b6 _ rfl
      · rw [dF (by omega), cond_false, f16, bindO_some]
        exact tail (by rw [hl0 (by omega)]; omega) _ rfl
    · rw [dF (by omega), cond_false]
      rw [List.drop_eq_nil_of_le (by omega)] at hen
      have h8 : entsB n 0 l = true := by rw [← hen]; rfl
      have hin := ents_in _ _ _ he h8 (hl ▸ hf.hl)
      rw [if_neg (by rw [h8]; simp), c34 o (hl ▸ hin) (by rw [hl]; omega), bindO_some, c70 o (by rw [hl]; omega), bindO_some, hl]
      cases h9 : chainedB [] l
      · rfl
      cases h10 : madeB o.2.2.1 0 l
      · rfl
      · rfl
end Go.Proofs.YtecjedagdpnemaaGreatDoor
