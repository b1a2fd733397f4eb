/-
  Chapter 47: sameness, moderate sizes. No condition beyond what each line says.
-/
import Derived.Test.YtecjedagdpnemaaGreatDoorQ
namespace Go.Proofs.YtecjedagdpnemaaGreatDoor
open Go Go.Nu
set_option linter.unusedVariables false
theorem c30 (l : List Fix) (h : l.length ≤ 1000000) : F30 l l = some true := by
  unfold F30
  rw [dT rfl, Bool.not_true, cond_false]
  refine loopK_rule (fun x : Int => ∃ i : Nat, x = (i : Int) ∧ i ≤ l.length) (fun x => l.length - x.toNat) ⟨0, rfl, by omega⟩ rfl ?_
  rintro _ again ⟨i, rfl, h1⟩ hag
  by_cases hc : i < l.length
  · rw [dT (by omega), cond_true, gd_pos (by omega), gd_pos (by omega), dT rfl, dT rfl, dT rfl, dT rfl, dT rfl, beq_self_eq_true]
    simp only [Bool.and_self, Bool.not_true, cond_false, bnd_eq]
    rw [i64_wrap (by omega)]
    exact hag _ ⟨i + 1, by simp, by omega⟩ (by omega)
  · rw [dF (by omega), cond_false]
structure LenO (o : Obj) : Prop where
  e : o.2.2.1.length ≤ 1000000
  h : o.2.2.2.1.length ≤ 1000000
  f : ∀ x ∈ o.2.2.1, x.2.2.2.2.length ≤ 1000000
theorem c14 (o : Obj) (h : LenO o) : F14 o o = some true := by
  unfold F14
  have h2 := h.e
  have h3 := h.f
  simp only [eq_self, decide_true, Bool.and_self, Bool.not_true, cond_false]
  rw [c30 _ h.h, bindO_some, Bool.not_true, cond_false]
  generalize o.2.2.1 = l at *
  refine loopK_rule (fun x : Int => ∃ i : Nat, x = (i : Int) ∧ i ≤ l.length) (fun x => l.length - x.toNat) ⟨0, rfl, by omega⟩ rfl ?_
  rintro _ again ⟨i, rfl, h1⟩ hag
  by_cases hc : i < l.length
  · have hx := h3 _ (getD_mem E0 hc)
    rw [dT (by omega), cond_true, gd_pos (by omega), gd_pos (by omega), toNat_nat]
    rw [g26 _ hx, bindO_some, Bool.not_true, cond_false, bnd_eq, i64_wrap (by omega)]
    exact hag _ ⟨i + 1, by simp, by omega⟩ (by omega)
  · rw [dF (by omega), cond_false]
def smF : Int → List File → Bool
  | n, [] => decide (n ≤ 10000)
  | n, x :: l => if 200 < x.1.length then false else if 2100 < x.2.length then false else smF (IntKind.i64.wrap (n + x.2.length)) l
theorem smF_cons (n : Int) (x : File) (l : List File) : smF n (x :: l) = if 200 < x.1.length then false else if 2100 < x.2.length then false else smF (IntKind.i64.wrap (n + x.2.length)) l := rfl
def smallF (l : List File) : Bool := decide (l.length ≤ 20) && smF 0 l
theorem c11 (l : List File) : F11 l = some (smallF l) := by
  unfold F11 smallF
  by_cases h : 20 < l.length
  · rw [dT (by omega), cond_true, dF (by omega), Bool.false_and]
  rw [dF (by omega), cond_false, dT (by omega), Bool.true_and]
  refine loopK_rule (fun p : Int × Int => ∃ i : Nat, p.2 = (i : Int) ∧ i ≤ l.length ∧ smF p.1 (l.drop i) = smF 0 l) (fun p => l.length - p.2.toNat) ⟨0, rfl, by omega, rfl⟩ rfl ?_
  rintro ⟨n, j⟩ again ⟨i, hi, hle, he⟩ hag
  simp only [] at hi he ⊢
  subst hi
  by_cases hlt : i < l.length
  · rw [dT (by omega), cond_true, gd_pos (by omega), toNat_nat]
    rw [drop_getD ([], []) hlt, smF_cons] at he
    generalize l.getD i ([], []) = x at *
    by_cases h1 : 200 < x.1.length
    · rw [dT (by omega), cond_true, ← he, if_pos h1]
    rw [dF (by omega), cond_false, gd_pos (by omega)]
    rw [if_neg h1] at he
    by_cases h2 : 2100 < x.2.length
    · rw [dT (by omega), cond_true, ← he, if_pos h2]
    rw [if_neg h2] at he
    rw [dF (by omega), cond_false, gd_pos (by omega), bnd_eq, bnd_eq, i64_wrap (n := (i : Int) + 1) (by omega)]
    exact hag _ ⟨i + 1, rfl, by omega, he⟩ (by simp only []; omega)
  · rw [dF (by omega), cond_false, ← he, List.drop_eq_nil_of_le (by omega)]; rfl
theorem smF_all : ∀ {l : List File} {n : Int}, smF n l = true → ∀ f ∈ l, f.1.length ≤ 200 ∧ f.2.length ≤ 2100
  | [], n, _, f, h => by cases h
  | x :: l, n, h, f, hf => by
    rw [smF_cons] at h
    split at h
    · cases h
    split at h
    · cases h
    rcases List.mem_cons.1 hf with rfl | hf
    · omega
    · exact smF_all h f hf
theorem smallF_all {l : List File} (h : smallF l = true) : l.length ≤ 20 ∧ ∀ f ∈ l, f.1.length ≤ 200 ∧ f.2.length ≤ 2100 := by
  unfold smallF at h
  rw [Bool.and_eq_true, decide_eq_true_eq] at h
  exact ⟨h.1, smF_all h.2⟩
theorem smallF_fit {l : List File} (h : smallF l = true) : FitC l := by
  obtain ⟨h1, h2⟩ := smallF_all h
  exact ⟨by omega, fun f hf => by have := h2 f hf; omega⟩
theorem FitC.fit {l : List File} (h : FitC l) : Fit l := ⟨h.1, fun f hf => by have := h.2 f hf; omega⟩
end Go.Proofs.YtecjedagdpnemaaGreatDoor
