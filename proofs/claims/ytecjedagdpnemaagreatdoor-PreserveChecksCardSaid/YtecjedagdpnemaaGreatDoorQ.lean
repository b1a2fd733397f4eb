/-
  Chapter 47: what the reference makes of objects: Check, Migrate, Repair. No condition beyond what each line says.
-/
import Derived.Test.YtecjedagdpnemaaGreatDoorP
namespace Go.Proofs.YtecjedagdpnemaaGreatDoor
open Go Go.Nu
set_option linter.unusedVariables false
structure RightO (o : Obj) : Prop where
  ids : idB o.1 = true ∧ idB o.2.1 = true
  e1 : 1 ≤ o.2.2.1.length
  e8 : o.2.2.1.length ≤ 8
  h64 : o.2.2.2.1.length ≤ 64
  eds : ednsP 0 o.2.2.1 = 0
  rgt : rgtP o.2.2.2.2 = 0
  ents : entsB o.2.2.1.length 0 o.2.2.2.1 = true
  chd : chainedB [] o.2.2.2.1 = true
  made : madeB o.2.2.1 0 o.2.2.2.1 = true
theorem rightO_of {o : Obj} (h : objP o = 0) : RightO o := by
  unfold objP at h
  split at h
  · cases h
  rename_i a1
  split at h
  · cases h
  rename_i a2
  split at h
  · cases h
  rename_i a3
  split at h
  · rename_i a4; exact absurd h a4
  rename_i a4
  split at h
  · rename_i a5; exact absurd h a5
  rename_i a5
  split at h
  · cases h
  rename_i a6
  split at h
  · cases h
  rename_i a7
  rw [not_or] at a1 a7
  exact ⟨⟨by simpa using a1.1, by simpa using a1.2⟩, by omega, by omega, by omega, by simpa using a4, by simpa using a5, by simpa using a6, by simpa using a7.1, by simpa using a7.2⟩
theorem RightO.to {o : Obj} (h : RightO o) : objP o = 0 := by
  have h1 := h.e1
  have h2 := h.e8
  have h3 := h.h64
  unfold objP
  rw [if_neg (by rw [h.ids.1, h.ids.2]; simp), if_neg (by omega), if_neg (by omega), if_neg (by rw [h.eds]; simp), if_neg (by rw [h.rgt]; simp), if_neg (by rw [h.ents]; simp), if_neg (by rw [h.chd, h.made]; simp)]
theorem RightO.h1 {o : Obj} (h : RightO o) : 1 ≤ o.2.2.2.1.length := by
  rcases Nat.eq_zero_or_pos o.2.2.2.1.length with h0 | h0
  · have h1 := h.made
    have h2 := h.e1
    rw [List.length_eq_zero_iff.1 h0] at h1
    have h1 : decide (0 = o.2.2.1.length) = true := h1
    rw [decide_eq_true_eq] at h1
    omega
  · exact h0
theorem RightO.inx {o : Obj} (h : RightO o) (hf : FitO o) : ∀ x ∈ o.2.2.2.1, inX x := ents_in _ _ _ (by have := h.e8; omega) h.ents hf.hl
theorem fix_in {l : List Fix} {d k e : Int} {r : List UInt8} {g : Bool} (h : inR d ∧ inR k ∧ inR e ∧ r.length ≤ 1000) : inX (fixP l d k e r g) :=
  ⟨h.1, h.2.1, h.2.2.1, h.2.2.2, by show (dig _).length ≤ 1000; rw [dig_len]; omega⟩
theorem add_in {o : Obj} {d k e : Int} {r : List UInt8} {g : Bool} (ho : ∀ x ∈ o.2.2.2.1, inX x) (h : inR d ∧ inR k ∧ inR e ∧ r.length ≤ 1000) : ∀ x ∈ (addP o d k e r g).2.2.2.1, inX x := by
  intro x hx
  rcases List.mem_append.1 (show x ∈ o.2.2.2.1 ++ [fixP o.2.2.2.1 d k e r g] from hx) with hx | hx
  · exact ho x hx
  · rw [List.mem_singleton] at hx; subst hx; exact fix_in h
theorem add_len (o : Obj) (d k e : Int) (r : List UInt8) (g : Bool) : (addP o d k e r g).2.2.2.1.length = o.2.2.2.1.length + 1 := by
  show (o.2.2.2.1 ++ [_]).length = _
  rw [List.length_append, List.length_singleton]
theorem late_day {o : Obj} {d : Int} (h : lateP o d = 0) : dayB d = true := by
  unfold lateP at h
  cases hd : dayB d
  · rw [if_pos hd] at h; cases h
  · rfl
theorem checkG_cons (d : Int) (i : Nat) (x : Edn) (l : List Edn) (o : Obj) : checkG d i (x :: l) o = checkG d (i + 1) l (addP o d 2 i (rootP x.2.2.2.2) (intactB x)) := rfl
theorem badG_cons (i : Nat) (x : Edn) (l : List Edn) : badG i (x :: l) = (if intactB x = true then [] else [(i : Int)]) ++ badG (i + 1) l := rfl
theorem c18 (o : Obj) (d : Int) (hf : FitO o) : F18 o d = some (checkP o d) := by
  unfold F18 checkP
  rw [jn_eq]
  dsimp only
  rw [c29 o hf, bindO_some]
  by_cases h0 : objP o = 0
  rotate_left
  · rw [dF h0, Bool.not_false, cond_true, if_pos h0]; rfl
  have hr := rightO_of h0
  have r1 := hr.e8
  have r2 := hr.h64
  have r3 := hr.h1
  rw [dT h0, Bool.not_true, cond_false, if_neg (by simp [h0]), c53 o d (by omega) (by omega), bindO_some]
  by_cases h1 : lateP o d = 0
  rotate_left
  · rw [dF h1, Bool.not_false, cond_true, if_pos h1]; rfl
  rw [dT h1, Bool.not_true, cond_false, if_neg (by simp [h1]), bnd_eq, i64_wrap (by omega)]
  by_cases h2 : 64 < o.2.2.2.1.length + o.2.2.1.length
  · rw [dT (by omega), cond_true, if_pos h2]; rfl
  rw [dF (by omega), cond_false, if_neg h2, gdN_self]
  have hd := day_in (late_day h1)
  refine loopK_rule (fun p : List Int × Int × Obj => ∃ i : Nat, p.2.1 = (i : Int) ∧ i ≤ o.2.2.1.length ∧ p.1.length ≤ i ∧ p.2.2.2.2.1 = o.2.2.1 ∧ (∀ x ∈ p.2.2.2.2.2.1, inX x) ∧ p.2.2.2.2.2.1.length ≤ 64 + i ∧
    checkG d i (o.2.2.1.drop i) p.2.2 = checkG d 0 o.2.2.1 o ∧ p.1 ++ badG i (o.2.2.1.drop i) = badG 0 o.2.2.1) (fun p => o.2.2.1.length - p.2.1.toNat) ⟨0, rfl, by omega, by simp, rfl, hr.inx hf, by simpa using r2, rfl, rfl⟩ rfl ?_
  rintro ⟨bad, j, o'⟩ again ⟨i, hi, hle, hbl, he, hin, hhl, hg, hb⟩ hag
  simp only [] at hi hle hbl he hin hhl hg hb ⊢
  subst hi
  rw [he]
  by_cases hlt : i < o.2.2.1.length
  · have hx := (hf.el _ (getD_mem E0 hlt)).2
    rw [drop_getD E0 hlt, checkG_cons] at hg
    rw [drop_getD E0 hlt, badG_cons] at hb
    rw [dT (by omega), cond_true, gd_pos (by omega), toNat_nat]
    generalize o.2.2.1.getD i E0 = x at *
    rw [c54 x hx, bindO_some, jn_eq]
    have hi2 : inR (i : Int) := by unfold inR; omega
    have h3 : inR d ∧ inR 2 ∧ inR (i : Int) ∧ (rootP x.2.2.2.2).length ≤ 1000 := ⟨hd, by unfold inR; omega, hi2, by rw [root_len]; omega⟩
    have k47 := fun g => c47 o' d 2 i (rootP x.2.2.2.2) g hin (by omega) h3
    cases hq : intactB x
    · rw [Bool.not_false, cond_true, gdN_self, gd_pos (by rw [List.length_singleton]; unfold big; omega), bnd_eq, gdN_self]
      dsimp only
      rw [gd_pos (by omega), g16 _ hx, bindO_some, k47, bindO_some, bnd_eq, i64_wrap (by omega), gdN_self]
      rw [hq] at hg
      rw [hq, if_neg (by simp)] at hb
      exact hag _ ⟨i + 1, rfl, by omega, by rw [List.length_append, List.length_singleton]; omega, he, add_in hin h3, by rw [add_len]; omega, hg, by rw [List.append_assoc]; exact hb⟩ (by simp only []; omega)
    · rw [Bool.not_true, cond_false, gdN_self]
      dsimp only
      rw [gd_pos (by omega), g16 _ hx, bindO_some, k47, bindO_some, bnd_eq, i64_wrap (by omega), gdN_self]
      rw [hq] at hg
      rw [hq, if_pos rfl] at hb
      exact hag _ ⟨i + 1, rfl, by omega, Nat.le_succ_of_le hbl, he, add_in hin h3, by rw [add_len]; omega, hg, hb⟩ (by simp only []; omega)
  · rw [dF (by omega), cond_false]
    rw [List.drop_eq_nil_of_le (by omega)] at hg hb
    have hg : o' = checkG d 0 o.2.2.1 o := hg
    have hb : bad ++ [] = badG 0 o.2.2.1 := hb
    rw [← hg, ← hb, List.append_nil]
structure FitM (o : Obj) (l : List Fmt) : Prop where
  fo : FitO o
  fc : ∀ x ∈ o.2.2.1, FitC x.2.2.2.2
  fl : l.length ≤ 1000000
  fm : ∀ f ∈ l, f.2.2.2.2.2.1.length ≤ 10000 ∧ f.2.2.2.2.2.2.length ≤ 1000000
theorem getF_mem {l : List Fmt} {n : Int} {f : Fmt} (h : getF l n = some f) : f ∈ l := List.mem_of_find?_eq_some h
theorem getG_some {l : List Fmt} {n : Int} {f : Fmt} (h : getF l n = some f) : getG l n = (f, true) := by unfold getG; rw [h]
theorem getG_none {l : List Fmt} {n : Int} (h : getF l n = none) : getG l n = (M0, false) := by unfold getG; rw [h]
end Go.Proofs.YtecjedagdpnemaaGreatDoor
