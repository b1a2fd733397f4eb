/-
  Chapter 6: levels, roots, proofs of elements, checks of proofs.
-/
import Derived.Test.YthpgkpcnajookaaGreatDoorB
namespace Go.Proofs.YthpgkpcnajookaaGreatDoor
open Go Go.Nu

def join (a b : List UInt8) : List UInt8 := dig (49 :: (a ++ b))
def leaf (s : List UInt8) : List UInt8 := dig (48 :: s)
/-- The level above. -/
def up : List (List UInt8) → List (List UInt8)
  | [] => []
  | [a] => [a]
  | a :: b :: l => join a b :: up l
/-- A list of moderate size. -/
def Ok (l : List (List UInt8)) : Prop := l.length ≤ 100000 ∧ ∀ s ∈ l, s.length ≤ 100000

theorem getD_len {l : List (List UInt8)} (h : Ok l) (i : Nat) : (l.getD i []).length ≤ 100000 := by
  rw [List.getD_eq_getElem?_getD]
  cases hq : l[i]? with
  | none => simp
  | some a => exact h.2 a (List.mem_of_getElem? hq)
theorem join_len (a b : List UInt8) : (join a b).length = 16 := dig_len _
theorem up_len : ∀ l, (up l).length = (l.length + 1) / 2
  | [] => rfl
  | [a] => by simp [up]
  | a :: b :: l => by simp [up, up_len l]; omega
theorem up_ok : ∀ l, Ok l → Ok (up l)
  | [], h => h
  | [a], h => h
  | a :: b :: l, h => by
    have ih := up_ok l ⟨by have := h.1; simp at this; omega, fun s hs => h.2 s (by simp [hs])⟩
    refine ⟨by rw [up_len]; have := h.1; omega, fun s hs => ?_⟩
    rcases List.mem_cons.1 hs with rfl | hs
    · rw [join_len]; omega
    · exact ih.2 s hs

theorem f27 (l : List (List UInt8)) (h : Ok l) : F52 l = some (l.map leaf) := by
  obtain ⟨h0, h0'⟩ := h
  unfold F52
  rw [gd_pos (by simp [big]; omega)]
  refine loopK_rule (fun x => ∃ i : Nat, x.1 = i ∧ i ≤ l.length ∧ x.2.length = l.length ∧ x.2.take i = (l.take i).map leaf) (fun x => l.length - x.1.toNat) ⟨0, rfl, by omega, by simp, by simp⟩ rfl ?_
  rintro ⟨i', L⟩ again ⟨i, e1, h1, h2, h3⟩ hag
  simp only [] at e1 h2 h3 hag
  subst e1
  simp only []
  by_cases hc : i < l.length
  · have hs := getD_len ⟨h0, h0'⟩ i
    rw [decide_eq_true (by omega), cond_true, gd_pos (by omega), show ((i : Int)).toNat = i by omega, f25 _ (by simp) (by simp [-List.getD_eq_getElem?_getD]; omega), bindO_some, gd_pos (by omega), gd_pos (by omega)]
    simp only [bnd]
    rw [i64_wrap (by omega)]
    refine hag _ ⟨i + 1, by simp, by omega, by simpa using h2, ?_⟩ (by simp; omega)
    rw [List.take_add_one, List.take_add_one, List.map_append, List.take_set_of_le (Nat.le_refl _), h3]
    congr 1
    simp [List.getElem?_set, h2, hc, List.getD_eq_getElem?_getD, leaf]
  · rw [decide_eq_false (by omega), cond_false]
    obtain rfl : i = l.length := by omega
    rw [List.take_of_length_le (by omega), List.take_of_length_le (by omega)] at h3
    rw [h3]

theorem f29 (l : List (List UInt8)) (h : Ok l) : F54 l = some (l.map leaf) := by
  unfold F54
  rw [gdN_self]
  refine loopK_rule (fun x => ∃ i : Nat, x.2 = i ∧ i ≤ l.length ∧ x.1 = (l.take i).map leaf) (fun x => l.length - x.2.toNat) ⟨0, rfl, by omega, by simp⟩ rfl ?_
  rintro ⟨L, i'⟩ again ⟨i, e1, h1, h3⟩ hag
  simp only [] at e1 h3 hag
  subst e1 h3
  simp only []
  by_cases hc : i < l.length
  · have hs := getD_len h i
    have hl := h.1
    simp only [bnd]
    rw [decide_eq_true (by omega), cond_true, gd_pos (by omega), show ((i : Int)).toNat = i by omega, gd_pos (by simp [big, -List.getD_eq_getElem?_getD]; omega), f13 _ (by simp [-List.getD_eq_getElem?_getD]; omega), bindO_some, gdN_self, gd_pos (by simp [big]; omega), i64_wrap (by omega), gdN_self]
    refine hag _ ⟨i + 1, by simp, by omega, ?_⟩ (by simp; omega)
    rw [List.take_add_one, List.map_append]
    congr 1
    simp [hc, List.getD_eq_getElem?_getD, leaf]
  · rw [decide_eq_false (by omega), cond_false]
    obtain rfl : i = l.length := by omega
    rw [List.take_of_length_le (by omega)]

theorem f28 (l : List (List UInt8)) (h : Ok l) : F53 l = some (up l) := by
  unfold F53
  rw [gdN_self]
  have hl := h.1
  refine loopK_rule (fun x => ∃ i : Nat, x.2 = i ∧ i ≤ l.length + 1 ∧ x.1.length ≤ i ∧ x.1 ++ up (l.drop i) = up l) (fun x => l.length + 1 - x.2.toNat) ⟨0, rfl, by omega, by simp, by simp⟩ rfl ?_
  rintro ⟨L, i'⟩ again ⟨i, e1, h1, h2, h3⟩ hag
  simp only [] at e1 h2 h3 hag
  subst e1
  simp only []
  by_cases hc : i < l.length
  · have hs := getD_len h i
    have hs1 := getD_len h (i + 1)
    simp only [bnd]
    rw [decide_eq_true (by omega), cond_true, i64_wrap (by omega), i64_wrap (by omega)]
    by_cases hd : i + 1 = l.length
    · rw [decide_eq_true (by omega), cond_true, gd_pos (by omega), gdN_self, gd_pos (by simp [big]; omega), gdN_self]
      refine hag _ ⟨i + 2, by simp, by omega, by simp; omega, ?_⟩ (by simp; omega)
      rw [drop_at (d := []) hc, List.drop_of_length_le (show l.length ≤ i + 1 by omega)] at h3
      rw [List.drop_of_length_le (by omega), show ((i : Int)).toNat = i by omega]
      simpa [up] using h3
    · rw [decide_eq_false (by omega), cond_false, gd_pos (by omega), gd_pos (by omega), show ((i : Int)).toNat = i by omega, show ((i : Int) + 1).toNat = i + 1 by omega, f12 _ _ (by omega) (by omega), bindO_some, gdN_self, gd_pos (by simp [big]; omega), gdN_self]
      refine hag _ ⟨i + 2, by simp, by omega, by simp; omega, ?_⟩ (by simp; omega)
      rw [drop_at (d := []) hc, drop_at (d := []) (show i + 1 < l.length by omega), up] at h3
      simpa [join] using h3
  · rw [decide_eq_false (by omega), cond_false]
    rw [List.drop_of_length_le (by omega)] at h3
    simpa [up] using h3

theorem f30 (l : List (List UInt8)) (h : Ok l) : F55 l = some (up l) := by
  unfold F55
  rw [gdN_self]
  have hl := h.1
  refine loopK_rule (fun x => ∃ i : Nat, x.2 = i ∧ i ≤ l.length + 1 ∧ x.1.length ≤ i ∧ x.1 ++ up (l.drop i) = up l) (fun x => l.length + 1 - x.2.toNat) ⟨0, rfl, by omega, by simp, by simp⟩ rfl ?_
  rintro ⟨L, i'⟩ again ⟨i, e1, h1, h2, h3⟩ hag
  simp only [] at e1 h2 h3 hag
  subst e1
  simp only []
  by_cases hc : i < l.length
  · have hs := getD_len h i
    have hs1 := getD_len h (i + 1)
    simp only [bnd]
    rw [decide_eq_true (by omega), cond_true, i64_wrap (by omega), i64_wrap (by omega)]
    by_cases hd : i + 1 = l.length
    · rw [decide_eq_false (by omega), cond_false, gd_pos (by omega), gdN_self, gd_pos (by simp [big]; omega), gdN_self]
      refine hag _ ⟨i + 2, by simp, by omega, by simp; omega, ?_⟩ (by simp; omega)
      rw [drop_at (d := []) hc, List.drop_of_length_le (show l.length ≤ i + 1 by omega)] at h3
      rw [List.drop_of_length_le (by omega), show ((i : Int)).toNat = i by omega]
      simpa [up] using h3
    · rw [decide_eq_true (by omega), cond_true, gd_pos (by omega), gd_pos (by omega), show ((i : Int)).toNat = i by omega, show ((i : Int) + 1).toNat = i + 1 by omega, f14 _ _ (by omega), bindO_some, gdN_self, gd_pos (by simp [big]; omega), gdN_self]
      refine hag _ ⟨i + 2, by simp, by omega, by simp; omega, ?_⟩ (by simp; omega)
      rw [drop_at (d := []) hc, drop_at (d := []) (show i + 1 < l.length by omega), up] at h3
      simpa [join] using h3
  · rw [decide_eq_false (by omega), cond_false]
    rw [List.drop_of_length_le (by omega)] at h3
    simpa [up] using h3

/-- The one digest at the top. -/
def top (l : List (List UInt8)) : List UInt8 := if l.length ≤ 1 then l.getD 0 [] else top (up l)
termination_by l.length
decreasing_by rw [up_len]; omega
theorem top_one {l : List (List UInt8)} (h : l.length ≤ 1) : top l = l.getD 0 [] := by rw [top, if_pos h]
theorem top_up {l : List (List UInt8)} (h : ¬ l.length ≤ 1) : top l = top (up l) := by rw [top, if_neg h]
/-- The root of a list. -/
def root (l : List (List UInt8)) : List UInt8 := if l.length = 0 then dig [] else top (l.map leaf)
theorem leaf_ok {l : List (List UInt8)} (h : Ok l) : Ok (l.map leaf) := by
  refine ⟨by rw [List.length_map]; exact h.1, fun s hs => ?_⟩
  obtain ⟨a, _, rfl⟩ := List.mem_map.1 hs
  rw [leaf, dig_len]
  omega

theorem f18 (l : List (List UInt8)) (h : Ok l) : F31 l = some (root l) := by
  unfold F31 root
  by_cases h0 : l.length = 0
  · rw [decide_eq_true (by omega), cond_true, f11 _ (by simp), bindO_some, if_pos h0]
  · rw [decide_eq_false (by omega), cond_false, f27 l h, bindO_some, if_neg h0]
    refine loopK_rule (fun x => x.length ≠ 0 ∧ Ok x ∧ top x = top (l.map leaf)) (fun x => x.length) ⟨by simpa using h0, leaf_ok h, rfl⟩ rfl ?_
    rintro x again ⟨h1, h2, h3⟩ hag
    by_cases hc : 1 < x.length
    · rw [decide_eq_true (by omega), cond_true, f28 x h2, bindO_some]
      exact hag _ ⟨by rw [up_len]; omega, up_ok x h2, by rw [← h3, top_up (l := x) (by omega)]⟩ (by rw [up_len]; omega)
    · rw [decide_eq_false (by omega), cond_false, gd_pos (by omega), ← h3, top_one (by omega)]
      rfl
theorem f19 (l : List (List UInt8)) (h : Ok l) : F33 l = some (root l) := by
  unfold F33 root
  by_cases h0 : l.length = 0
  · rw [decide_eq_true (by omega), cond_true, f13 _ (by simp), bindO_some, if_pos h0]
  · rw [decide_eq_false (by omega), cond_false, f29 l h, bindO_some, if_neg h0]
    refine loopK_rule (fun x => x.length ≠ 0 ∧ Ok x ∧ top x = top (l.map leaf)) (fun x => x.length) ⟨by simpa using h0, leaf_ok h, rfl⟩ rfl ?_
    rintro x again ⟨h1, h2, h3⟩ hag
    by_cases hc : 1 < x.length
    · rw [decide_eq_true (by omega), cond_true, f30 x h2, bindO_some]
      exact hag _ ⟨by rw [up_len]; omega, up_ok x h2, by rw [← h3, top_up (l := x) (by omega)]⟩ (by rw [up_len]; omega)
    · rw [decide_eq_false (by omega), cond_false, gd_pos (by omega), ← h3, top_one (by omega)]
      rfl

/-! ### proofs -/
/-- The neighbour of a place; none: at the end of a level of odd length. -/
def sib (i : Nat) : Nat := if i % 2 = 1 then i - 1 else i + 1
def prf (l : List (List UInt8)) (i : Nat) : List (List UInt8) :=
  if l.length ≤ 1 then [] else (if sib i < l.length then [l.getD (sib i) []] else []) ++ prf (up l) (i / 2)
termination_by l.length
decreasing_by rw [up_len]; omega
theorem prf_one {l : List (List UInt8)} {i : Nat} (h : l.length ≤ 1) : prf l i = [] := by rw [prf, if_pos h]
theorem prf_up {l : List (List UInt8)} {i : Nat} (h : ¬ l.length ≤ 1) : prf l i = (if sib i < l.length then [l.getD (sib i) []] else []) ++ prf (up l) (i / 2) := by rw [prf, if_neg h]

theorem xor1 (i : Nat) (h : i < 4611686018427387904) : xorI .i64 (i : Int) 1 = ((sib i : Nat) : Int) := by
  unfold xorI
  have e1 : (BitVec.ofInt IntKind.i64.bits (i : Int)) = BitVec.ofNat 64 i := by simp [IntKind.bits]
  have e2 : (BitVec.ofInt IntKind.i64.bits (1 : Int)) = BitVec.ofNat 64 1 := by simp [IntKind.bits]
  rw [e1, e2]
  have e3 : (BitVec.ofNat 64 i ^^^ BitVec.ofNat 64 1).toNat = sib i := by
    rw [BitVec.toNat_xor, BitVec.toNat_ofNat, BitVec.toNat_ofNat, Nat.mod_eq_of_lt (a := i) (by omega), show (1 : Nat) % 2 ^ 64 = 1 by decide]
    unfold sib
    have h1 : (i ^^^ 1) % 2 = (i % 2) ^^^ 1 := by
      have := Nat.xor_mod_two_pow (a := i) (b := 1) (n := 1)
      simpa using this
    have h2 : (i ^^^ 1) / 2 = i / 2 := by
      have := Nat.xor_div_two (a := i) (b := 1)
      simpa using this
    have h3 : (i % 2) ^^^ 1 = 1 - i % 2 := by
      rcases Nat.mod_two_eq_zero_or_one i with h | h <;> rw [h] <;> rfl
    split <;> omega
  show IntKind.i64.wrap ((BitVec.ofNat 64 i ^^^ BitVec.ofNat 64 1).toNat : Int) = _
  rw [e3]
  refine i64_wrap ⟨by omega, ?_⟩
  unfold sib
  split <;> omega

theorem half (i : Nat) : Int.tdiv (i : Int) 2 = ((i / 2 : Nat) : Int) := by rw [Int.tdiv_eq_ediv_of_nonneg (by omega)]; omega
theorem odd (i : Nat) : Int.tmod (i : Int) 2 = ((i % 2 : Nat) : Int) := by rw [Int.tmod_eq_emod_of_nonneg (by omega)]; omega

/-- The proof of a place, or the error. -/
def prfE (l : List (List UInt8)) (i : Int) : List (List UInt8) × Int := if i < 0 ∨ (l.length : Int) ≤ i then ([], 2) else (prf (l.map leaf) i.toNat, 0)

end Go.Proofs.YthpgkpcnajookaaGreatDoor
