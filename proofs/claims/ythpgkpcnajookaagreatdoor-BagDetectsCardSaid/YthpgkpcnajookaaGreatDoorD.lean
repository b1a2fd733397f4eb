/-
  Chapter 6: checks of proofs; the chapter's examples; the statements about plain functions.
-/
import Derived.Test.YthpgkpcnajookaaGreatDoorC
namespace Go.Proofs.YthpgkpcnajookaaGreatDoor
open Go Go.Nu

/-- Is the proof one of the element with digest d at place i of n? -/
def chk (r : List UInt8) (n i : Nat) (d : List UInt8) (p : List (List UInt8)) : Bool :=
  if n ≤ 1 then p.isEmpty && decide (d = r)
  else if sib i < n then match p with
    | [] => false
    | q :: p' => chk r ((n + 1) / 2) (i / 2) (if i % 2 = 1 then join q d else join d q) p'
  else chk r ((n + 1) / 2) (i / 2) d p
termination_by n
decreasing_by all_goals omega
theorem chk_one {r : List UInt8} {n i : Nat} {d : List UInt8} {p : List (List UInt8)} (h : n ≤ 1) : chk r n i d p = (p.isEmpty && decide (d = r)) := by rw [chk.eq_def, if_pos h]
theorem chk_skip {r : List UInt8} {n i : Nat} {d : List UInt8} {p : List (List UInt8)} (h : ¬ n ≤ 1) (hs : ¬ sib i < n) : chk r n i d p = chk r ((n + 1) / 2) (i / 2) d p := by rw [chk.eq_def, if_neg h, if_neg hs]
theorem chk_nil {r : List UInt8} {n i : Nat} {d : List UInt8} (h : ¬ n ≤ 1) (hs : sib i < n) : chk r n i d [] = false := by rw [chk.eq_def, if_neg h, if_pos hs]
theorem chk_cons {r : List UInt8} {n i : Nat} {d q : List UInt8} {p : List (List UInt8)} (h : ¬ n ≤ 1) (hs : sib i < n) : chk r n i d (q :: p) = chk r ((n + 1) / 2) (i / 2) (if i % 2 = 1 then join q d else join d q) p := by rw [chk.eq_def, if_neg h, if_pos hs]

def chkE (r l : List UInt8) (i n : Int) (p : List (List UInt8)) : Bool := if n < 1 ∨ 4096 < n ∨ i < 0 ∨ n ≤ i then false else chk r n.toNat i.toNat (leaf l) p

theorem small_ok {l : List (List UInt8)} (h : l.length ≤ 60 ∧ ∀ s ∈ l, s.length ≤ 1000) : Ok l := ⟨by omega, fun s hs => by have := h.2 s hs; omega⟩

theorem prf_len : ∀ (n : Nat) (l : List (List UInt8)) (i : Nat), l.length ≤ n → (prf l i).length ≤ l.length := by
  intro n
  induction n with
  | zero => intro l i h; rw [prf_one (by omega)]; simp
  | succ n ih =>
    intro l i h
    by_cases hc : l.length ≤ 1
    · rw [prf_one hc]; simp
    · rw [prf_up hc, List.length_append]
      have := ih (up l) (i / 2) (by rw [up_len]; omega)
      rw [up_len] at this
      split <;> simp <;> omega
theorem prfE_len (l : List (List UInt8)) (i : Int) : (prfE l i).1.length ≤ l.length := by
  unfold prfE
  split
  · simp
  · have := prf_len _ (l.map leaf) i.toNat (Nat.le_refl _)
    simpa using this
/-- How many digests a proof has. -/
def cnt (n i : Nat) : Nat := if n ≤ 1 then 0 else (if sib i < n then 1 else 0) + cnt ((n + 1) / 2) (i / 2)
termination_by n
decreasing_by omega
theorem cnt_one {n i : Nat} (h : n ≤ 1) : cnt n i = 0 := by rw [cnt, if_pos h]
theorem cnt_up {n i : Nat} (h : ¬ n ≤ 1) : cnt n i = (if sib i < n then 1 else 0) + cnt ((n + 1) / 2) (i / 2) := by rw [cnt, if_neg h]
theorem chk_cnt (r : List UInt8) : ∀ (m n i : Nat) (d : List UInt8) (p : List (List UInt8)), n ≤ m → chk r n i d p = true → p.length = cnt n i := by
  intro m
  induction m with
  | zero =>
    intro n i d p hm h
    rw [chk_one (by omega)] at h
    rw [cnt_one (by omega)]
    simp only [Bool.and_eq_true, List.isEmpty_iff] at h
    simp [h.1]
  | succ m ih =>
    intro n i d p hm h
    by_cases hn : n ≤ 1
    · rw [chk_one hn] at h
      rw [cnt_one hn]
      simp only [Bool.and_eq_true, List.isEmpty_iff] at h
      simp [h.1]
    · rw [cnt_up hn]
      by_cases hs : sib i < n
      · rw [if_pos hs]
        cases p with
        | nil => rw [chk_nil hn hs] at h; cases h
        | cons q p =>
          rw [chk_cons hn hs] at h
          have := ih _ _ _ _ (by omega) h
          simp; omega
      · rw [if_neg hs]
        rw [chk_skip hn hs] at h
        have := ih _ _ _ _ (by omega) h
        omega
theorem prf_cnt : ∀ (m : Nat) (l : List (List UInt8)) (i : Nat), l.length ≤ m → (prf l i).length = cnt l.length i := by
  intro m
  induction m with
  | zero => intro l i h; rw [prf_one (by omega), cnt_one (by omega)]; rfl
  | succ m ih =>
    intro l i h
    by_cases hn : l.length ≤ 1
    · rw [prf_one hn, cnt_one hn]; rfl
    · rw [prf_up hn, cnt_up hn, List.length_append, ih (up l) (i / 2) (by rw [up_len]; omega), up_len]
      split <;> rfl
theorem prf_ok : ∀ (m : Nat) (l : List (List UInt8)) (i : Nat), l.length ≤ m → Ok l → ∀ s ∈ prf l i, s.length ≤ 100000 := by
  intro m
  induction m with
  | zero => intro l i h _ s hs; rw [prf_one (by omega)] at hs; cases hs
  | succ m ih =>
    intro l i h ho s hs
    by_cases hn : l.length ≤ 1
    · rw [prf_one hn] at hs; cases hs
    · rw [prf_up hn] at hs
      rcases List.mem_append.1 hs with hs | hs
      · split at hs
        · simp only [List.mem_singleton] at hs
          rw [hs]
          exact getD_len ho _
        · cases hs
      · exact ih (up l) (i / 2) (by rw [up_len]; omega) (up_ok l ho) s hs

/-! ### another element -/
theorem sib_two (i : Nat) : sib (i + 2) = sib i + 2 := by
  unfold sib
  by_cases h : i % 2 = 1
  · rw [if_pos h, if_pos (by omega)]; omega
  · rw [if_neg h, if_neg (by omega)]
theorem up_set : ∀ (l : List (List UInt8)) (i : Nat) (d : List UInt8), i < l.length →
    up (l.set i d) = (up l).set (i / 2) (if sib i < l.length then (if i % 2 = 1 then join (l.getD (sib i) []) d else join d (l.getD (sib i) [])) else d)
  | [], i, d, h => by simp at h
  | [a], i, d, h => by
    obtain rfl : i = 0 := by simpa using h
    rfl
  | a :: b :: l, i, d, h => by
    match i, h with
    | 0, _ => rfl
    | 1, _ => rfl
    | i + 2, h =>
      have ih := up_set l i d (by simpa using h)
      have e1 : (a :: b :: l).set (i + 2) d = a :: b :: l.set i d := rfl
      have e2 : (i + 2) / 2 = i / 2 + 1 := by omega
      have e3 : (i + 2) % 2 = i % 2 := by omega
      rw [e1, e2, e3, sib_two]
      show join a b :: up (l.set i d) = (join a b :: up l).set (i / 2 + 1) _
      rw [List.set_cons_succ, ih]
      have e5 : (a :: b :: l).getD (sib i + 2) [] = l.getD (sib i) [] := rfl
      rw [e5]
      have e6 : (a :: b :: l).length = l.length + 2 := rfl
      by_cases hs : sib i < l.length
      · have hs' : sib i + 2 < (a :: b :: l).length := by omega
        rw [if_pos hs, if_pos hs']
      · have hs' : ¬ sib i + 2 < (a :: b :: l).length := by omega
        rw [if_neg hs, if_neg hs']
theorem chk_prf (r : List UInt8) : ∀ (m : Nat) (l : List (List UInt8)) (i : Nat) (d : List UInt8), l.length ≤ m → i < l.length → chk r l.length i d (prf l i) = decide (top (l.set i d) = r) := by
  intro m
  induction m with
  | zero => intro l i d h1 h2; omega
  | succ m ih =>
    intro l i d h1 h2
    by_cases hn : l.length ≤ 1
    · obtain rfl : i = 0 := by omega
      rw [prf_one hn, chk_one hn, top_one (by rw [List.length_set]; exact hn)]
      have : (l.set 0 d).getD 0 [] = d := by
        rw [List.getD_eq_getElem?_getD, List.getElem?_set_self h2]; rfl
      rw [this]
      simp
    · have hu := up_len l
      have hi2 : i / 2 < (up l).length := by rw [hu]; omega
      rw [prf_up hn, top_up (by rw [List.length_set]; exact hn), up_set l i d h2]
      by_cases hs : sib i < l.length
      · rw [if_pos hs, if_pos hs, List.singleton_append, chk_cons hn hs, ← hu, ih _ _ _ (by rw [hu]; omega) hi2]
      · rw [if_neg hs, if_neg hs, List.nil_append, chk_skip hn hs, ← hu, ih _ _ _ (by rw [hu]; omega) hi2]
theorem map_set_leaf (l : List (List UInt8)) (i : Nat) (d : List UInt8) : (l.set i d).map leaf = (l.map leaf).set i (leaf d) := List.map_set
end Go.Proofs.YthpgkpcnajookaaGreatDoor
