/-
  Chapter 47: what the reference makes of objects: Check, Migrate, Repair. No condition beyond what each line says.
-/
import Derived.Test.YtecjedagdpnemaaGreatDoorP
namespace Go.Proofs.YtecjedagdpnemaaGreatDoor
open Go Go.Nu
set_option linter.unusedVariables false
structure RightO (o : Obj) : Prop where
  ids : idB o.1 = true ∧ idB o.2.1 = true
  e1 : 1 ≤ o.2.2.1.length
  e8 : o.2.2.1.length ≤ 8
  h64 : o.2.2.2.1.length ≤ 64
  eds : ednsP 0 o.2.2.1 = 0
  rgt : rgtP o.2.2.2.2 = 0
  ents : entsB o.2.2.1.length 0 o.2.2.2.1 = true
  chd : chainedB [] o.2.2.2.1 = true
  made : madeB o.2.2.1 0 o.2.2.2.1 = true
theorem rightO_of {o : Obj} (h : objP o = 0) : RightO o := by
  unfold objP at h
  split at h
  · cases h
  rename_i a1
  split at h
  · cases h
  rename_i a2
  split at h
  · cases h
  rename_i a3
  split at h
  · rename_i a4; exact absurd h a4
  rename_i a4
  split at h
  · rename_i a5; exact absurd h a5
  rename_i a5
  split at h
  · cases h
  rename_i a6
  split at h
  · cases h
  rename_i a7
  rw [not_or] at a1 a7
  exact ⟨⟨by simpa using a1.1, by simpa using a1.2⟩, by omega, by omega, by omega, by simpa using a4, by simpa using a5, by simpa using a6, by simpa using a7.1, by simpa using a7.2⟩
theorem RightO.to {o : Obj} (h : RightO o) : objP o = 0 := by
  have h1 := h.e1
  have h2 := h.e8
  have h3 := h.h64
  unfold objP
  rw [if_neg (by rw [h.ids.1, h.ids.2]; simp), if_neg (by omega), if_neg (by omega), if_neg (by rw [h.eds]; simp), if_neg (by rw [h.rgt]; simp), if_neg (by rw [h.ents]; simp), if_neg (by rw [h.chd, h.made]; simp)]
theorem RightO.h1 {o : Obj} (h : RightO o) : 1 ≤ o.2.2.2.1.length := by
  rcases Nat.eq_zero_or_pos o.2.2.2.1.length with h0 | h0
  · have h1 := h.made
    have h2 := h.e1
    rw [List.length_eq_zero_iff.1 h0] at h1
    have h1 : decide (0 = o.2.2.1.length) = true := h1
    rw [decide_eq_true_eq] at h1
    omega
  · exact h0
theorem RightO.inx {o : Obj} (h : RightO o) (hf : FitO o) : ∀ x ∈ o.2.2.2.1, inX x := ents_in _ _ _ (by have := h.e8; omega) h.ents hf.hl
theorem fix_in {l : List Fix} {d k e : Int} {r : List UInt8} {g : Bool} (h : inR d ∧ inR k ∧ inR e ∧ r.length ≤ 1000) : inX (fixP l d k e r g) :=
  ⟨h.1, h.2.1, h.2.2.1, h.2.2.2, by show (dig _).length ≤ 1000; rw [dig_len]; omega⟩
theorem add_len (o : Obj) (d k e : Int) (r : List UInt8) (g : Bool) : (addP o d k e r g).2.2.2.1.length = o.2.2.2.1.length + 1 := by
  show (o.2.2.2.1 ++ [_]).length = _
  rw [List.length_append, List.length_singleton]
theorem late_day {o : Obj} {d : Int} (h : lateP o d = 0) : dayB d = true := by
  unfold lateP at h
  cases hd : dayB d
  · rw [if_pos hd] at h; cases h
  · rfl
theorem checkG_cons (d : Int) (i : Nat) (x : Edn) (l : List Edn) (o : Obj) : checkG d i (x :: l) o = checkG d (i + 1) l (addP o d 2 i (rootP x.2.2.2.2) (intactB x)) := rfl
theorem badG_cons (i : Nat) (x : Edn) (l : List Edn) : badG i (x :: l) = (if intactB x = true then [] else [(i : Int)]) ++ badG (i + 1) l := rfl
structure FitM (o : Obj) (l : List Fmt) : Prop where
  fo : FitO o
  fc : ∀ x ∈ o.2.2.1, FitC x.2.2.2.2
  fl : l.length ≤ 1000000
  fm : ∀ f ∈ l, f.2.2.2.2.2.1.length ≤ 10000 ∧ f.2.2.2.2.2.2.length ≤ 1000000
theorem getF_mem {l : List Fmt} {n : Int} {f : Fmt} (h : getF l n = some f) : f ∈ l := List.mem_of_find?_eq_some h
theorem getG_some {l : List Fmt} {n : Int} {f : Fmt} (h : getF l n = some f) : getG l n = (f, true) := by unfold getG; rw [h]
theorem getG_none {l : List Fmt} {n : Int} (h : getF l n = none) : getG l n = (M0, false) := by unfold getG; rw [h]
end Go.Proofs.YtecjedagdpnemaaGreatDoor
