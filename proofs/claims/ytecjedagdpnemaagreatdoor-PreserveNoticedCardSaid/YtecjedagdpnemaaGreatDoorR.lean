/-
  Chapter 47: sameness, moderate sizes. No condition beyond what each line says.
-/
import Derived.Test.YtecjedagdpnemaaGreatDoorQ
namespace Go.Proofs.YtecjedagdpnemaaGreatDoor
open Go Go.Nu
set_option linter.unusedVariables false
structure LenO (o : Obj) : Prop where
  e : o.2.2.1.length ≤ 1000000
  h : o.2.2.2.1.length ≤ 1000000
  f : ∀ x ∈ o.2.2.1, x.2.2.2.2.length ≤ 1000000
def smF : Int → List File → Bool
  | n, [] => decide (n ≤ 10000)
  | n, x :: l => if 200 < x.1.length then false else if 2100 < x.2.length then false else smF (IntKind.i64.wrap (n + x.2.length)) l
theorem smF_cons (n : Int) (x : File) (l : List File) : smF n (x :: l) = if 200 < x.1.length then false else if 2100 < x.2.length then false else smF (IntKind.i64.wrap (n + x.2.length)) l := rfl
def smallF (l : List File) : Bool := decide (l.length ≤ 20) && smF 0 l
theorem c11 (l : List File) : F11 l = some (smallF l) := by
  unfold F11 smallF
  by_cases h : 20 < l.length
  · rw [dT (by omega), cond_true, dF (by omega), Bool.false_and]
  rw [dF (by omega), cond_false, dT (by omega), Bool.true_and]
  refine loopK_rule (fun p : Int × Int => ∃ i : Nat, p.2 = (i : Int) ∧ i ≤ l.length ∧ smF p.1 (l.drop i) = smF 0 l) (fun p => l.length - p.2.toNat) ⟨0, rfl, by omega, rfl⟩ rfl ?_
  rintro ⟨n, j⟩ again ⟨i, hi, hle, he⟩ hag
  simp only [] at hi he ⊢
  subst hi
  by_cases hlt : i < l.length
  · rw [dT (by omega), cond_true, gd_pos (by omega), toNat_nat]
    rw [drop_getD ([], []) hlt, smF_cons] at he
    generalize l.getD i ([], []) = x at *
    by_cases h1 : 200 < x.1.length
    · rw [dT (by omega), cond_true, ← he, if_pos h1]
    rw [dF (by omega), cond_false, gd_pos (by omega)]
    rw [if_neg h1] at he
    by_cases h2 : 2100 < x.2.length
    · rw [dT (by omega), cond_true, ← he, if_pos h2]
    rw [if_neg h2] at he
    rw [dF (by omega), cond_false, gd_pos (by omega), bnd_eq, bnd_eq, i64_wrap (n := (i : Int) + 1) (by omega)]
    exact hag _ ⟨i + 1, rfl, by omega, he⟩ (by simp only []; omega)
  · rw [dF (by omega), cond_false, ← he, List.drop_eq_nil_of_le (by omega)]; rfl
def smE (x : Edn) : Bool := smallF x.2.2.2.2 && decide (x.2.2.2.1.length ≤ 100)
def smX (x : Fix) : Bool := decide (x.2.2.2.1.length ≤ 100) && decide (x.2.2.2.2.1.length ≤ 100)
def smallO (o : Obj) : Bool := (decide (o.2.2.1.length ≤ 12) && decide (o.2.2.2.1.length ≤ 80)) && (o.2.2.1.all smE && o.2.2.2.1.all smX)
theorem c16 (o : Obj) : F16 o = some (smallO o) := by
  unfold F16 smallO
  generalize o.2.2.2.1 = h
  generalize o.2.2.1 = e
  by_cases h1 : 12 < e.length
  · rw [dT (by omega), cond_true, dF (by omega), Bool.false_and, Bool.false_and]
  rw [dF (by omega), cond_false, dT (p := e.length ≤ 12) (by omega), Bool.true_and]
  by_cases h2 : 80 < h.length
  · rw [dT (by omega), cond_true, dF (by omega), Bool.false_and]
  rw [dF (by omega), cond_false, dT (p := h.length ≤ 80) (by omega), Bool.true_and]
  refine loopK_rule (fun p : Int => ∃ i : Nat, p = (i : Int) ∧ i ≤ e.length ∧ (e.drop i).all smE = e.all smE) (fun p => e.length - p.toNat) ⟨0, rfl, by omega, rfl⟩ rfl ?_
  rintro _ again ⟨i, rfl, hi, he⟩ hag
  by_cases hlt : i < e.length
  · rw [dT (by omega), cond_true, gd_pos (by omega), toNat_nat]
    rw [drop_getD E0 hlt, List.all_cons] at he
    generalize e.getD i E0 = x at *
    rw [c11, bindO_some]
    cases h3 : smallF x.2.2.2.2
    · rw [← he]; unfold smE; rw [h3]; rfl
    rw [Bool.not_true, cond_false, gd_pos (by omega)]
    by_cases h4 : 100 < x.2.2.2.1.length
    · rw [dT (by omega), cond_true, ← he]; unfold smE; rw [dF (by omega), Bool.and_false, Bool.false_and, Bool.false_and]
    rw [show smE x = true by unfold smE; rw [h3, dT (by omega)]; rfl, Bool.true_and] at he
    rw [dF (by omega), cond_false, bnd_eq, i64_wrap (by omega)]
    exact hag _ ⟨i + 1, by norm_cast, by omega, he⟩ (by omega)
  · rw [dF (by omega), cond_false]
    rw [List.drop_eq_nil_of_le (by omega)] at he
    rw [← he, List.all_nil, Bool.true_and]
    refine loopK_rule (fun p : Int => ∃ i : Nat, p = (i : Int) ∧ i ≤ h.length ∧ (h.drop i).all smX = h.all smX) (fun p => h.length - p.toNat) ⟨0, rfl, by omega, rfl⟩ rfl ?_
    rintro _ again ⟨i, rfl, hi, he⟩ hag
    by_cases hlt : i < h.length
    · rw [dT (by omega), cond_true, gd_pos (by omega), toNat_nat]
      rw [drop_getD X0 hlt, List.all_cons] at he
      generalize h.getD i X0 = x at *
      by_cases h3 : 100 < x.2.2.2.1.length
      · rw [dT (by omega), cond_true, ← he]; unfold smX; rw [dF (by omega), Bool.false_and, Bool.false_and]
      rw [dF (by omega), cond_false, gd_pos (by omega)]
      by_cases h4 : 100 < x.2.2.2.2.1.length
      · rw [dT (by omega), cond_true, ← he]; unfold smX; rw [dF (p := x.2.2.2.2.1.length ≤ 100) (by omega), Bool.and_false, Bool.false_and]
      rw [show smX x = true by unfold smX; rw [dT (by omega), dT (by omega)]; rfl, Bool.true_and] at he
      rw [dF (by omega), cond_false, bnd_eq, i64_wrap (by omega)]
      exact hag _ ⟨i + 1, by norm_cast, by omega, he⟩ (by omega)
    · rw [dF (by omega), cond_false, ← he, List.drop_eq_nil_of_le (by omega)]; rfl
theorem smallO_all {o : Obj} (h : smallO o = true) : o.2.2.1.length ≤ 12 ∧ o.2.2.2.1.length ≤ 80 ∧ (∀ x ∈ o.2.2.1, smallF x.2.2.2.2 = true ∧ x.2.2.2.1.length ≤ 100) ∧ ∀ x ∈ o.2.2.2.1, x.2.2.2.1.length ≤ 100 ∧ x.2.2.2.2.1.length ≤ 100 := by
  unfold smallO at h
  simp only [Bool.and_eq_true, decide_eq_true_eq, List.all_eq_true] at h
  refine ⟨h.1.1, h.1.2, fun x hx => ?_, fun x hx => ?_⟩
  · have := h.2.1 x hx
    unfold smE at this
    rw [Bool.and_eq_true, decide_eq_true_eq] at this
    exact this
  · have := h.2.2 x hx
    unfold smX at this
    rw [Bool.and_eq_true, decide_eq_true_eq, decide_eq_true_eq] at this
    exact this
end Go.Proofs.YtecjedagdpnemaaGreatDoor
