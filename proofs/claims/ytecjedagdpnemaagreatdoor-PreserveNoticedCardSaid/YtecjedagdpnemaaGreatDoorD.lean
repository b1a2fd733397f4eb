/-
  Chapter 47: the history, editions, Right. No condition beyond what each line says.
-/
import Derived.Test.YtecjedagdpnemaaGreatDoorC
namespace Go.Proofs.YtecjedagdpnemaaGreatDoor
open Go Go.Nu
set_option linter.unusedVariables false
abbrev X0 : Fix := (0, 0, 0, [], [], false)
abbrev E0 : Edn := (0, 0, 0, [], [])
theorem lastC_app (l : List Fix) (x : Fix) : lastC (l ++ [x]) = x.2.2.2.2.1 := by unfold lastC; rw [List.getLast?_append]; rfl
theorem lastC_get {l : List Fix} (h : l ≠ []) : lastC l = (l.getD (l.length - 1) X0).2.2.2.2.1 := by
  unfold lastC
  rw [List.getLast?_eq_getElem?, List.getD_eq_getElem?_getD, List.getElem?_eq_getElem (by have := List.length_pos_iff.2 h; omega)]
  rfl
theorem take_app {α : Type} (l : List α) (d : α) {i : Nat} (h : i < l.length) : l.take (i + 1) = l.take i ++ [l.getD i d] := by
  rw [List.take_succ_eq_append_getElem h, List.getD_eq_getElem?_getD, List.getElem?_eq_getElem h]; rfl
theorem all_at {α : Type} {P : α → Prop} {l : List α} (h : ∀ x ∈ l, P x) (d : α) {i : Nat} (hi : i < l.length) : P (l.getD i d) := h _ (getD_mem d hi)
theorem lastC_len {l : List Fix} (h : ∀ x ∈ l, inX x) : (lastC l).length ≤ 1000 := by
  by_cases hl : l = []
  · subst hl; simp [lastC]
  · rw [lastC_get hl]
    exact (all_at h X0 (by have := List.length_pos_iff.2 hl; omega)).2.2.2.2
theorem c35 (l : List Fix) (x : Fix) (hl : ∀ y ∈ l, inX y) (hx : inX x) (hn : l.length ≤ 1000000) : F35 l x = some (chainP (lastC l) x) := by
  unfold F35
  refine jn_rule (fun j => j = lastC l) (fun next hnx => ?_) ?_
  · by_cases h0 : 0 < l.length
    · rw [dT (by omega), cond_true, bnd_eq, i64_wrap (by omega), gd_pos (by omega), show ((l.length : Int) - 1).toNat = l.length - 1 by omega]
      exact hnx _ (lastC_get (List.length_pos_iff.1 h0)).symm
    · rw [dF (by omega), cond_false]
      exact hnx _ (by rw [(List.length_eq_zero_iff.1 (by omega) : l = [])]; rfl)
  · rintro _ rfl
    have h1 := lastC_len hl
    have h2 := body_len hx
    rw [c75 x hx, bindO_some, gd_pos (by unfold big; omega), bnd_eq, f13 _ (by rw [List.length_append]; omega), bindO_some]
    rfl
theorem chd_cons (b : List UInt8) (x : Fix) (l : List Fix) : chainedB b (x :: l) = (decide (x.2.2.2.2.1 = chainP b x) && chainedB x.2.2.2.2.1 l) := rfl
theorem c34 (o : Obj) (h : ∀ x ∈ o.2.2.2.1, inX x) (hn : o.2.2.2.1.length ≤ 1000000) : F34 o = some (chainedB [] o.2.2.2.1) := by
  unfold F34
  generalize o.2.2.2.1 = l at *
  refine loopK_rule (fun p : Int => ∃ i : Nat, p = (i : Int) ∧ i ≤ l.length ∧ chainedB (lastC (l.take i)) (l.drop i) = chainedB [] l) (fun p => l.length - p.toNat) ⟨0, rfl, by omega, rfl⟩ rfl ?_
  rintro _ again ⟨i, rfl, hi, he⟩ hag
  by_cases hlt : i < l.length
  · have hx := all_at h X0 hlt
    rw [drop_getD X0 hlt] at he
    rw [chd_cons] at he
    rw [dT (by omega), cond_true, gd_pos (by omega), gd_pos (by omega), bnd_eq, toNat_nat, gd_pos (by omega), c35 _ _ (fun y hy => h y (List.mem_of_mem_take hy)) hx (by rw [List.length_take]; omega), bindO_some]
    by_cases hc : (l.getD i X0).2.2.2.2.1 = chainP (lastC (l.take i)) (l.getD i X0)
    · rw [dT hc, Bool.not_true, cond_false, bnd_eq, i64_wrap (by omega)]
      rw [dT hc, Bool.true_and] at he
      exact hag _ ⟨i + 1, by omega, by omega, by rw [take_app l X0 hlt, lastC_app]; exact he⟩ (by omega)
    · rw [dF hc, Bool.not_false, cond_true]
      rw [dF hc, Bool.false_and] at he
      rw [he]
  · rw [dF (by omega), cond_false]
    rw [List.drop_eq_nil_of_le (by omega)] at he
    rw [← he]; rfl
theorem c33 (o : Obj) (h : ∀ x ∈ o.2.2.2.1, inX x) (hn : o.2.2.2.1.length ≤ 1000000) : F33 o = some (chainedB [] o.2.2.2.1) := by
  unfold F33
  generalize o.2.2.2.1 = l at *
  refine loopK_rule (fun p : List UInt8 × Int => ∃ (i : Nat) (b : List UInt8), p = (b, (i : Int)) ∧ i ≤ l.length ∧ b.length ≤ 1000 ∧ chainedB b (l.drop i) = chainedB [] l) (fun p => l.length - p.2.toNat) ⟨0, [], rfl, by omega, by simp, rfl⟩ rfl ?_
  rintro _ again ⟨i, b, rfl, hi, hb, he⟩ hag
  simp only []
  by_cases hlt : i < l.length
  · have hx := all_at h X0 hlt
    have h2 := body_len hx
    rw [drop_getD X0 hlt] at he
    rw [chd_cons] at he
    rw [dT (by omega), cond_true, gd_pos (by omega), toNat_nat, c74 _ hx, bindO_some, gd_pos (by unfold big; omega), bnd_eq, f11 _ (by rw [List.length_append]; omega), bindO_some]
    by_cases hc : (l.getD i X0).2.2.2.2.1 = chainP b (l.getD i X0)
    · rw [dT (show (l.getD i (0, 0, 0, [], [], false)).2.2.2.2.1 = dig (b ++ bodyP (l.getD i X0)) from hc), Bool.not_true, cond_false, bnd_eq, i64_wrap (by omega)]
      rw [dT hc, Bool.true_and] at he
      exact hag _ ⟨i + 1, _, rfl, by omega, hx.2.2.2.2, he⟩ (by simp only []; omega)
    · rw [dF (show ¬ (l.getD i (0, 0, 0, [], [], false)).2.2.2.2.1 = dig (b ++ bodyP (l.getD i X0)) from hc), Bool.not_false, cond_true]
      rw [dF hc, Bool.false_and] at he
      rw [he]
  · rw [dF (by omega), cond_false]
    rw [List.drop_eq_nil_of_le (by omega)] at he
    rw [← he]; rfl
theorem enB_cons (n : Nat) (d : Int) (x : Fix) (l : List Fix) : entsB n d (x :: l) = (decide (1 ≤ x.2.1 ∧ x.2.1 ≤ 4 ∧ 0 ≤ x.2.2.1 ∧ x.2.2.1 < n) && (dayB x.1 && (decide (d ≤ x.1) && (isDig x.2.2.2.1 && entsB n x.1 l)))) := rfl
theorem c49 (o : Obj) (hn : o.2.2.2.1.length ≤ 1000000) : F49 o = some (entsB o.2.2.1.length 0 o.2.2.2.1) := by
  unfold F49
  generalize o.2.2.2.1 = l at *
  generalize o.2.2.1.length = n at *
  refine loopK_rule (fun p : Int × Int => ∃ (i : Nat) (d : Int), p = (d, (i : Int)) ∧ i ≤ l.length ∧ entsB n d (l.drop i) = entsB n 0 l) (fun p => l.length - p.2.toNat) ⟨0, 0, rfl, by omega, rfl⟩ rfl ?_
  rintro _ again ⟨i, d, rfl, hi, he⟩ hag
  simp only []
  by_cases hlt : i < l.length
  · rw [dT (by omega), cond_true, gd_pos (by omega), toNat_nat]
    rw [drop_getD X0 hlt] at he
    rw [enB_cons] at he
    generalize l.getD i X0 = x at *
    have no : ∀ b : Bool, (b = false → entsB n 0 l = false) → True := fun _ _ => trivial
    by_cases h1 : x.2.1 < 1
    · rw [dT h1, cond_true, ← he, dF (by omega)]; rfl
    rw [dF h1, cond_false]
    by_cases h2 : 4 < x.2.1
    · rw [dT h2, cond_true, ← he, dF (by omega)]; rfl
    rw [dF h2, cond_false]
    by_cases h3 : x.2.2.1 < 0
    · rw [dT h3, cond_true, ← he, dF (by omega)]; rfl
    rw [dF h3, cond_false]
    by_cases h4 : (n : Int) ≤ x.2.2.1
    · rw [dT h4, cond_true, ← he, dF (by omega)]; rfl
    rw [dF h4, cond_false, c37, bindO_some]
    rw [dT (by omega), Bool.true_and] at he
    cases h5 : dayB x.1
    · rw [h5] at he; rw [← he]; rfl
    rw [h5, Bool.true_and] at he
    rw [Bool.not_true, cond_false]
    by_cases h6 : x.1 < d
    · rw [dT h6, cond_true, ← he, dF (by omega)]; rfl
    rw [dF h6, cond_false, f15, bindO_some]
    rw [dT (by omega), Bool.true_and] at he
    cases h7 : isDig x.2.2.2.1
    · rw [h7] at he; rw [← he]; rfl
    rw [h7, Bool.true_and] at he
    rw [Bool.not_true, cond_false, bnd_eq, i64_wrap (by omega)]
    exact hag _ ⟨i + 1, _, rfl, by omega, he⟩ (by simp only []; omega)
  · rw [dF (by omega), cond_false]
    rw [List.drop_eq_nil_of_le (by omega)] at he
    rw [← he]; rfl
theorem c48 (x : Edn) (i : Nat) (hf : Fit x.2.2.2.2) : F48 x i = some (ednP i x) := by
  unfold F48 ednP
  simp only [c36, c37, bindO_some, f15, g13 _ hf]
  refine jn_rule (fun b => b = (!idB x.1 || !dayB x.2.2.1)) (fun next hn => ?_) ?_
  · by_cases h1 : idB x.1 = true
    · have e1 : (!idB x.1) = false := by rw [h1]; rfl
      rw [e1, cond_false]
      exact hn _ (by rw [e1]; rfl)
    · have e1 : (!idB x.1) = true := by
        cases h2 : idB x.1 with
        | true => exact absurd h2 h1
        | false => rfl
      rw [e1, cond_true]
      exact hn _ (by rw [e1]; rfl)
  rintro _ rfl
  cases h1 : idB x.1
  · rfl
  cases h2 : dayB x.2.2.1
  · rfl
  rw [Bool.not_true, Bool.or_false, cond_false, if_neg (by simp)]
  refine jn_rule (fun b => b = decide ((i = 0 ∧ x.2.1 ≠ -1) ∨ (0 < i ∧ ¬ (0 ≤ x.2.1 ∧ x.2.1 < i)))) (fun next hn => ?_) ?_
  · by_cases h3 : (i : Int) = 0
    · rw [dT h3, cond_true]
      by_cases h4 : x.2.1 = -1
      · rw [dT h4, Bool.not_true, cond_false, dF (by omega), cond_false]
        exact hn _ (dF (by omega)).symm
      · rw [dF h4, Bool.not_false, cond_true]
        exact hn _ (dT (by omega)).symm
    · rw [dF h3, cond_false, dT (by omega), cond_true]
      by_cases h4 : x.2.1 < 0
      · rw [dT h4, cond_true]
        exact hn _ (dT (by omega)).symm
      · rw [dF h4, cond_false]
        refine hn _ ?_
        by_cases h5 : (i : Int) ≤ x.2.1
        · rw [dT h5, dT (by omega)]
        · rw [dF h5, dF (by omega)]
  rintro _ rfl
  by_cases h3 : (i = 0 ∧ x.2.1 ≠ -1) ∨ (0 < i ∧ ¬ (0 ≤ x.2.1 ∧ x.2.1 < i))
  · rw [dT h3, cond_true, if_pos h3]
  · rw [dF h3, cond_false, if_neg h3]
    cases h4 : isDig x.2.2.2.1
    · rfl
    · rfl
end Go.Proofs.YtecjedagdpnemaaGreatDoor
