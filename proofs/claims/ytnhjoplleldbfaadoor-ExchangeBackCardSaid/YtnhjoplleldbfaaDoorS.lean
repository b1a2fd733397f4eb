/-
  Chapter 11: the lines of records, as the program and the reference print them. No condition.
-/
import Derived.Test.YtnhjoplleldbfaaDoorR
namespace Go.Proofs.YtnhjoplleldbfaaDoor
open Go Go.Nu

/-! ### records -/
structure OkH (r : Rec) : Prop where
  id0 : 0 ≤ r.1
  id1 : r.1 ≤ 9999
  v0 : 1 ≤ r.2.1
  v1 : r.2.1 ≤ 3
  k0 : 1 ≤ r.2.2.1
  k1 : r.2.2.1 ≤ 4
  lang : langB r.2.2.2.1 = true
structure OkR (r : Rec) : Prop extends OkH r where
  len : r.2.2.2.2.length ≤ 64
  fields : ∀ f ∈ r.2.2.2.2, errF f = 0
theorem errFs_zero : ∀ {l : List Field}, errFs l = 0 ↔ ∀ f ∈ l, errF f = 0
  | [] => by simp [errFs]
  | f :: l => by
    unfold errFs
    by_cases h : errF f ≠ 0
    · rw [if_pos h]
      constructor
      · intro e; exact (h e).elim
      · intro e; exact (h (e f (by simp))).elim
    · rw [if_neg h, errFs_zero]
      have h' : errF f = 0 := Decidable.not_not.1 h
      constructor
      · intro e x hx
        rcases List.mem_cons.1 hx with rfl | hx
        · exact h'
        · exact e x hx
      · intro e x hx; exact e x (List.mem_cons_of_mem _ hx)
theorem okR_of {r : Rec} (h : errR r = 0) : OkR r := by
  unfold errR at h
  by_cases h1 : r.1 < 0 ∨ 9999 < r.1
  · rw [if_pos h1] at h; cases h
  rw [if_neg h1] at h
  by_cases h2 : r.2.1 < 1 ∨ 3 < r.2.1
  · rw [if_pos h2] at h; cases h
  rw [if_neg h2] at h
  by_cases h3 : r.2.2.1 < 1 ∨ 4 < r.2.2.1
  · rw [if_pos h3] at h; cases h
  rw [if_neg h3] at h
  by_cases h4 : langB r.2.2.2.1 = false
  · rw [if_pos h4] at h; cases h
  rw [if_neg h4] at h
  by_cases h5 : 64 < r.2.2.2.2.length
  · rw [if_pos h5] at h; cases h
  rw [if_neg h5] at h
  exact ⟨⟨by omega, by omega, by omega, by omega, by omega, by omega, by simpa using h4⟩, by omega, errFs_zero.1 h⟩
theorem errR_of {r : Rec} (h : OkR r) : errR r = 0 := by
  unfold errR
  have := h.id0; have := h.id1; have := h.v0; have := h.v1; have := h.k0; have := h.k1; have := h.lang; have := h.len
  rw [if_neg (by omega), if_neg (by omega), if_neg (by omega), if_neg (by simp [h.lang]), if_neg (by omega)]
  exact errFs_zero.2 h.fields
theorem lang_len {t : List UInt8} (h : langB t = true) : t.length = 3 ∧ t.all isL = true := by
  unfold langB at h
  rw [Bool.and_eq_true] at h
  exact ⟨of_decide_eq_true h.1, h.2⟩
end Go.Proofs.YtnhjoplleldbfaaDoor
