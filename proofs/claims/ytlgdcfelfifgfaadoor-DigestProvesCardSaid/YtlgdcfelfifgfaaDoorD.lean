/-
  Chapter 6: checks of proofs; the chapter's examples; the statements about plain functions.
-/
import Derived.Test.YtlgdcfelfifgfaaDoorC
namespace Go.Proofs.YtlgdcfelfifgfaaDoor
open Go Go.Nu

/-- Is the proof one of the element with digest d at place i of n? -/
def chk (r : List UInt8) (n i : Nat) (d : List UInt8) (p : List (List UInt8)) : Bool :=
  if n ≤ 1 then p.isEmpty && decide (d = r)
  else if sib i < n then match p with
    | [] => false
    | q :: p' => chk r ((n + 1) / 2) (i / 2) (if i % 2 = 1 then join q d else join d q) p'
  else chk r ((n + 1) / 2) (i / 2) d p
termination_by n
decreasing_by all_goals omega
theorem chk_one {r : List UInt8} {n i : Nat} {d : List UInt8} {p : List (List UInt8)} (h : n ≤ 1) : chk r n i d p = (p.isEmpty && decide (d = r)) := by rw [chk.eq_def, if_pos h]
theorem chk_skip {r : List UInt8} {n i : Nat} {d : List UInt8} {p : List (List UInt8)} (h : ¬ n ≤ 1) (hs : ¬ sib i < n) : chk r n i d p = chk r ((n + 1) / 2) (i / 2) d p := by rw [chk.eq_def, if_neg h, if_neg hs]
theorem chk_nil {r : List UInt8} {n i : Nat} {d : List UInt8} (h : ¬ n ≤ 1) (hs : sib i < n) : chk r n i d [] = false := by rw [chk.eq_def, if_neg h, if_pos hs]
theorem chk_cons {r : List UInt8} {n i : Nat} {d q : List UInt8} {p : List (List UInt8)} (h : ¬ n ≤ 1) (hs : sib i < n) : chk r n i d (q :: p) = chk r ((n + 1) / 2) (i / 2) (if i % 2 = 1 then join q d else join d q) p := by rw [chk.eq_def, if_neg h, if_pos hs]

def chkE (r l : List UInt8) (i n : Int) (p : List (List UInt8)) : Bool := if n < 1 ∨ 4096 < n ∨ i < 0 ∨ n ≤ i then false else chk r n.toNat i.toNat (leaf l) p

theorem f23 (r l : List UInt8) (i0 n0 : Int) (p0 : List (List UInt8)) (hl : l.length ≤ 100000) (hp : ∀ s ∈ p0, s.length ≤ 100000) (hp2 : p0.length ≤ 200000) : F23 r l i0 n0 p0 = some (chkE r l i0 n0 p0) := by
  unfold F23 chkE
  by_cases h1 : n0 < 1
  · rw [decide_eq_true h1, cond_true, if_pos (.inl h1)]
  by_cases h2 : 4096 < n0
  · rw [decide_eq_false h1, cond_false, decide_eq_true h2, cond_true, if_pos (.inr (.inl h2))]
  by_cases h3 : i0 < 0
  · rw [decide_eq_false h1, cond_false, decide_eq_false h2, cond_false, decide_eq_true h3, cond_true, if_pos (.inr (.inr (.inl h3)))]
  by_cases h4 : n0 ≤ i0
  · rw [decide_eq_false h1, cond_false, decide_eq_false h2, cond_false, decide_eq_false h3, cond_false, decide_eq_true h4, cond_true, if_pos (.inr (.inr (.inr h4)))]
  rw [decide_eq_false h1, cond_false, decide_eq_false h2, cond_false, decide_eq_false h3, cond_false, decide_eq_false h4, cond_false, if_neg (by omega), f25 _ (by simp) (by simp; omega), bindO_some]
  obtain ⟨i0, rfl⟩ : ∃ n : Nat, i0 = n := ⟨i0.toNat, by omega⟩
  obtain ⟨n0, rfl⟩ : ∃ n : Nat, n0 = n := ⟨n0.toNat, by omega⟩
  rw [show ((i0 : Int)).toNat = i0 by omega, show ((n0 : Int)).toNat = n0 by omega]
  refine loopK_rule (fun x => ∃ i n : Nat, x.1 = i ∧ x.2.1 = n ∧ 1 ≤ n ∧ n ≤ 4096 ∧ i ≤ 4096 ∧ (∀ s ∈ x.2.2.1, s.length ≤ 100000) ∧ x.2.2.1.length ≤ 200000 ∧ x.2.2.2.length ≤ 100000 ∧ chk r n i x.2.2.2 x.2.2.1 = chk r n0 i0 (leaf l) p0) (fun x => x.2.1.toNat)
    ⟨i0, n0, rfl, rfl, by omega, by omega, by omega, hp, hp2, by simp [dig_len], by simp [leaf]⟩ rfl ?_
  rintro ⟨i', n', p, d⟩ again ⟨i, n, e1, e2, g1, g2, g3, g4, g5, g6, g7⟩ hag
  simp only [] at e1 e2 g4 g5 g6 g7 hag
  subst e1 e2
  simp only []
  by_cases hc : 1 < n
  · rw [decide_eq_true (by omega), cond_true, jn_eq]
    simp only [bnd]
    rw [xor1 i (by omega)]
    simp (disch := omega) only [i64_wrap, gd_pos, odd, half]
    have e3 : Int.tdiv ((n : Int) + 1) 2 = (((n + 1) / 2 : Nat) : Int) := by have := half (n + 1); simpa using this
    rw [e3]
    simp (disch := omega) only [i64_wrap]
    by_cases hs : sib i < n
    · rw [decide_eq_false (by omega), cond_false]
      cases p with
      | nil => rw [decide_eq_true (by simp), cond_true, ← g7, chk_nil (by omega) hs]
      | cons q p =>
        have hq := g4 q (by simp)
        rw [decide_eq_false (by simp; omega), cond_false]
        rw [chk_cons (by omega) hs] at g7
        have hd : List.drop (Int.toNat 1) (q :: p) = p := rfl
        have hg : List.getD (q :: p) (Int.toNat 0) [] = q := rfl
        rw [hd, hg]
        by_cases ho : i % 2 = 1
        · rw [if_pos ho] at g7
          rw [decide_eq_true (by omega), cond_true, gd_pos (by simp only [List.length_cons]; omega), f12 _ _ (by omega) (by omega), bindO_some, gd_pos (by simp only [List.length_cons]; omega)]
          refine hag _ ⟨i / 2, (n + 1) / 2, rfl, rfl, by omega, by omega, by omega, fun s hs => g4 s (by simp [hs]), by simp at g5; simp; omega, by simp [dig_len], g7⟩ (by simp; omega)
        · rw [if_neg ho] at g7
          rw [decide_eq_false (by omega), cond_false, gd_pos (by simp only [List.length_cons]; omega), f12 _ _ (by omega) (by omega), bindO_some, gd_pos (by simp only [List.length_cons]; omega)]
          refine hag _ ⟨i / 2, (n + 1) / 2, rfl, rfl, by omega, by omega, by omega, fun s hs => g4 s (by simp [hs]), by simp at g5; simp; omega, by simp [dig_len], g7⟩ (by simp; omega)
    · rw [decide_eq_true (by omega), cond_true]
      rw [chk_skip (by omega) hs] at g7
      exact hag _ ⟨i / 2, (n + 1) / 2, rfl, rfl, by omega, by omega, by omega, g4, g5, g6, g7⟩ (by simp; omega)
  · rw [decide_eq_false (by omega), cond_false]
    rw [chk_one (by omega)] at g7
    rw [← g7]
    cases p with
    | nil => rfl
    | cons q p => rw [decide_eq_false (by simp; omega), cond_false]; rfl

theorem f24 (r l : List UInt8) (i0 n0 : Int) (p0 : List (List UInt8)) (hl : l.length ≤ 100000) (hp : ∀ s ∈ p0, s.length ≤ 100000) (hp2 : p0.length ≤ 200000) : F24 r l i0 n0 p0 = some (chkE r l i0 n0 p0) := by
  unfold F24 chkE
  by_cases h1 : n0 < 1
  · rw [decide_eq_true h1, cond_true, if_pos (.inl h1)]
  by_cases h2 : 4096 < n0
  · rw [decide_eq_false h1, cond_false, decide_eq_true h2, cond_true, if_pos (.inr (.inl h2))]
  by_cases h3 : i0 < 0
  · rw [decide_eq_false h1, cond_false, decide_eq_false h2, cond_false, decide_eq_true h3, cond_true, if_pos (.inr (.inr (.inl h3)))]
  by_cases h4 : n0 ≤ i0
  · rw [decide_eq_false h1, cond_false, decide_eq_false h2, cond_false, decide_eq_false h3, cond_false, decide_eq_true h4, cond_true, if_pos (.inr (.inr (.inr h4)))]
  rw [decide_eq_false h1, cond_false, decide_eq_false h2, cond_false, decide_eq_false h3, cond_false, decide_eq_false h4, cond_false, if_neg (by omega), gd_pos (by simp [big]; omega)]
  simp only [bnd]
  rw [f13 _ (by simp; omega), bindO_some]
  obtain ⟨i0, rfl⟩ : ∃ n : Nat, i0 = n := ⟨i0.toNat, by omega⟩
  obtain ⟨n0, rfl⟩ : ∃ n : Nat, n0 = n := ⟨n0.toNat, by omega⟩
  rw [show ((i0 : Int)).toNat = i0 by omega, show ((n0 : Int)).toNat = n0 by omega]
  refine loopK_rule (fun x => ∃ i n k : Nat, x.1 = i ∧ x.2.1 = n ∧ x.2.2.2 = k ∧ 1 ≤ n ∧ n ≤ 4096 ∧ i < n ∧ k ≤ p0.length ∧ x.2.2.1.length ≤ 100000 ∧ chk r n i x.2.2.1 (p0.drop k) = chk r n0 i0 (leaf l) p0) (fun x => x.2.1.toNat)
    ⟨i0, n0, 0, rfl, rfl, rfl, by omega, by omega, by omega, by omega, by simp [dig_len], by simp [leaf]⟩ rfl ?_
  rintro ⟨i', n', d, k'⟩ again ⟨i, n, k, e1, e2, e3, g1, g2, g3, g5, g6, g7⟩ hag
  simp only [] at e1 e2 e3 g6 g7 hag
  subst e1 e2 e3
  simp only []
  by_cases hc : 1 < n
  · rw [decide_eq_true (by omega), cond_true, jn_eq, jn_eq]
    have e3 : Int.tdiv ((n : Int) + 1) 2 = (((n + 1) / 2 : Nat) : Int) := by have := half (n + 1); simpa using this
    simp (disch := omega) only [i64_wrap, gd_pos, odd, half, e3]
    have key : (cond (decide (sib i < n)) true false = true) = (sib i < n) := by by_cases h : sib i < n <;> simp [h]
    have hpk : k < p0.length → (p0.getD k []).length ≤ 100000 := fun h => hp _ (by rw [List.getD_eq_getElem?_getD, List.getElem?_eq_getElem h]; exact List.getElem_mem _)
    have step : ∀ odd : Bool, odd = decide (i % 2 = 1) → sib i < n → (cond (decide ((p0.length : Int) ≤ (k : Int))) (some false)
        (cond odd
          (gd (0 ≤ (k : Int) ∧ (k : Int) < (p0.length : Int)) (bindO (F14 (p0.getD (Int.toNat (k : Int)) []) d) fun y9 => again (((i / 2 : Nat) : Int), (((n + 1) / 2 : Nat) : Int), y9, (k : Int) + 1)))
          (gd (0 ≤ (k : Int) ∧ (k : Int) < (p0.length : Int)) (bindO (F14 d (p0.getD (Int.toNat (k : Int)) [])) fun y9 => again (((i / 2 : Nat) : Int), (((n + 1) / 2 : Nat) : Int), y9, (k : Int) + 1))))) = some (chk r n0 i0 (leaf l) p0) := by
      intro odd ho hs
      by_cases hk : k < p0.length
      · rw [decide_eq_false (by omega), cond_false]
        have hq := hpk hk
        rw [drop_at (d := []) hk, chk_cons (by omega) hs] at g7
        rw [show ((k : Int)).toNat = k by omega]
        by_cases h : i % 2 = 1
        · rw [if_pos h] at g7
          rw [ho, decide_eq_true h, cond_true, gd_pos (by omega), f14 _ _ (by omega), bindO_some]
          exact hag _ ⟨i / 2, (n + 1) / 2, k + 1, rfl, rfl, by simp, by omega, by omega, by omega, by omega, by simp [dig_len], g7⟩ (by simp; omega)
        · rw [if_neg h] at g7
          rw [ho, decide_eq_false h, cond_false, gd_pos (by omega), f14 _ _ (by omega), bindO_some]
          exact hag _ ⟨i / 2, (n + 1) / 2, k + 1, rfl, rfl, by simp, by omega, by omega, by omega, by omega, by simp [dig_len], g7⟩ (by simp; omega)
      · rw [decide_eq_true (by omega), cond_true, ← g7, List.drop_of_length_le (by omega), chk_nil (by omega) hs]
    have skip : ¬ sib i < n → again (((i / 2 : Nat) : Int), (((n + 1) / 2 : Nat) : Int), d, (k : Int)) = some (chk r n0 i0 (leaf l) p0) := by
      intro hs
      rw [chk_skip (by omega) hs] at g7
      exact hag _ ⟨i / 2, (n + 1) / 2, k, rfl, rfl, rfl, by omega, by omega, by omega, g5, g6, g7⟩ (by simp; omega)
    try simp only [bnd]
    try simp (disch := omega) only [i64_wrap, gd_pos, odd, half, e3]
    by_cases ho : i % 2 = 1
    · have hs : sib i < n := by unfold sib; rw [if_pos ho]; omega
      have := step true (by simp [ho]) hs
      rw [cond_true] at this
      rw [decide_eq_true (by omega), cond_true, cond_true, cond_true]
      by_cases hk : k < p0.length
      · simpa using this
      · simpa [hk] using this
    · rw [decide_eq_false (by omega), cond_false, cond_false]
      have hse : sib i = i + 1 := by unfold sib; rw [if_neg ho]
      by_cases hs : i + 1 < n
      · have := step false (by simp [ho]) (by omega)
        rw [cond_false] at this
        rw [decide_eq_true (by omega), cond_true]
        by_cases hk : k < p0.length
        · simpa using this
        · simpa [hk] using this
      · rw [decide_eq_false (by omega), cond_false]
        exact skip (by omega)
  · rw [decide_eq_false (by omega), cond_false]
    rw [chk_one (by omega)] at g7
    rw [← g7]
    by_cases hk : k = p0.length
    · subst hk
      rw [decide_eq_true rfl, cond_true]
      simp
    · rw [decide_eq_false (by omega), cond_false]
      have : (p0.drop k).isEmpty = false := by
        rw [List.isEmpty_eq_false_iff]
        intro h
        rw [List.drop_eq_nil_iff] at h
        omega
      rw [this]
      rfl

theorem f22 (a b : List (List UInt8)) (h : a.length ≤ 1000000) : F22 a b = some (decide (a = b)) := by
  unfold F22
  by_cases hl : a.length = b.length
  · rw [decide_eq_true (by omega), Bool.not_true, cond_false]
    refine loopK_rule (fun x => ∃ i : Nat, x = i ∧ i ≤ a.length ∧ (a = b ↔ a.drop i = b.drop i)) (fun x => a.length - x.toNat) ⟨0, rfl, by omega, by simp⟩ rfl ?_
    rintro i' again ⟨i, rfl, h1, h2⟩ hag
    by_cases hc : i < a.length
    · rw [decide_eq_true (by omega), cond_true, gd_pos (by omega), gd_pos (by omega), show ((i : Int)).toNat = i by omega]
      rw [drop_at (d := []) hc, drop_at (d := []) (show i < b.length by omega), List.cons.injEq] at h2
      simp only [bnd]
      rw [i64_wrap (by omega)]
      by_cases he : a.getD i [] = b.getD i []
      · rw [decide_eq_true he, Bool.not_true, cond_false]
        exact hag _ ⟨i + 1, by simp, by omega, by rw [h2]; exact ⟨fun h => h.2, fun h => ⟨he, h⟩⟩⟩ (by omega)
      · rw [decide_eq_false he, Bool.not_false, cond_true, decide_eq_false (fun h => he (h2.1 h).1)]
    · rw [decide_eq_false (by omega), cond_false]
      rw [List.drop_of_length_le (by omega), List.drop_of_length_le (by omega)] at h2
      rw [decide_eq_true (h2.2 rfl)]
  · rw [decide_eq_false (by omega), Bool.not_false, cond_true, decide_eq_false (fun h => hl (by rw [h]))]

/-- What 'Small' says of a list. -/
theorem f17 (l : List (List UInt8)) : ∃ b, F17 l = some b ∧ (b = true → l.length ≤ 60 ∧ ∀ s ∈ l, s.length ≤ 1000) := by
  unfold F17
  by_cases h : 60 < l.length
  · rw [decide_eq_true (by omega), cond_true]
    exact ⟨false, rfl, fun h => by cases h⟩
  · rw [decide_eq_false (by omega), cond_false]
    by_cases ha : ∀ s ∈ l, s.length ≤ 1000
    · refine ⟨decide ((l.map (fun s => (s.length : Int))).sum ≤ 20000), ?_, fun _ => ⟨by omega, ha⟩⟩
      refine loopK_rule (fun x => ∃ i : Nat, x.2 = i ∧ i ≤ l.length ∧ 0 ≤ x.1 ∧ x.1 ≤ 1000 * i ∧ x.1 + ((l.drop i).map (fun s => (s.length : Int))).sum = (l.map (fun s => (s.length : Int))).sum) (fun x => l.length - x.2.toNat) ⟨0, rfl, by omega, by simp, by simp, by simp⟩ rfl ?_
      rintro ⟨n, i'⟩ again ⟨i, e1, h1, h2, h3, h4⟩ hag
      simp only [] at e1 h2 h3 h4 hag
      subst e1
      simp only []
      by_cases hc : i < l.length
      · have hs : (l.getD i []).length ≤ 1000 := ha _ (by rw [List.getD_eq_getElem?_getD, List.getElem?_eq_getElem hc]; exact List.getElem_mem _)
        rw [drop_at (d := []) hc, List.map_cons, List.sum_cons] at h4
        simp only [bnd]
        rw [decide_eq_true (by omega), cond_true, gd_pos (by omega), show ((i : Int)).toNat = i by omega, decide_eq_false (by omega), cond_false, gd_pos (by omega), i64_wrap (by omega), i64_wrap (by omega)]
        exact hag _ ⟨i + 1, by simp, by omega, by simp only []; omega, by simp only []; omega, by simp only []; omega⟩ (by simp; omega)
      · rw [decide_eq_false (by omega), cond_false]
        rw [List.drop_of_length_le (by omega)] at h4
        simp only [List.map_nil, List.sum_nil, Int.add_zero] at h4
        rw [h4]
    · refine ⟨false, ?_, fun h => by cases h⟩
      refine loopK_rule (fun x => ∃ i : Nat, x.2 = i ∧ i ≤ l.length ∧ 0 ≤ x.1 ∧ x.1 ≤ 1000 * i ∧ ¬ ∀ s ∈ l.drop i, s.length ≤ 1000) (fun x => l.length - x.2.toNat) ⟨0, rfl, by omega, by simp, by simp, by simpa using ha⟩ rfl ?_
      rintro ⟨n, i'⟩ again ⟨i, e1, h1, h2, h3, h4⟩ hag
      simp only [] at e1 h2 h3 h4 hag
      subst e1
      simp only []
      by_cases hc : i < l.length
      · rw [drop_at (d := []) hc] at h4
        simp only [bnd]
        rw [decide_eq_true (by omega), cond_true, gd_pos (by omega), show ((i : Int)).toNat = i by omega]
        by_cases hb : 1000 < (l.getD i []).length
        · rw [decide_eq_true (by omega), cond_true]
        · rw [decide_eq_false (by omega), cond_false, gd_pos (by omega), i64_wrap (by omega), i64_wrap (by omega)]
          refine hag _ ⟨i + 1, by simp, by omega, by simp only []; omega, by simp only []; omega, fun hh => h4 ?_⟩ (by simp; omega)
          intro s hs
          rcases List.mem_cons.1 hs with rfl | hs
          · omega
          · exact hh s hs
      · exfalso
        rw [List.drop_of_length_le (by omega)] at h4
        exact h4 (by simp)

theorem small_ok {l : List (List UInt8)} (h : l.length ≤ 60 ∧ ∀ s ∈ l, s.length ≤ 1000) : Ok l := ⟨by omega, fun s hs => by have := h.2 s hs; omega⟩

/-- The chapter's examples. -/
theorem f10 : F10 = some true := by
  have hx : leaf [120] = dig [48, 120] := rfl
  have hy : leaf [121] = dig [48, 121] := rfl
  have hz : leaf [122] = dig [48, 122] := rfl
  have o3 : Ok [[120], [121], [122]] := ⟨by simp, by simp⟩
  have o2 : Ok [[120], [121]] := ⟨by simp, by simp⟩
  have o1 : Ok [[120]] := ⟨by simp, by simp⟩
  have p2 : prfE [[120], [121], [122]] 2 = ([join (dig [48, 120]) (dig [48, 121])], 0) := by
    unfold prfE
    rw [if_neg (by simp)]
    simp only [List.map_cons, List.map_nil, hx, hy, hz]
    rw [prf_up (by simp), if_neg (by simp [sib]), prf_up (by simp [up]), prf_one (by simp [up])]
    rfl
  have p0 : prfE [[120], [121], [122]] 0 = ([dig [48, 121], dig [48, 122]], 0) := by
    unfold prfE
    rw [if_neg (by simp)]
    simp only [List.map_cons, List.map_nil, hx, hy, hz]
    rw [prf_up (by simp), if_pos (by simp [sib]), prf_up (by simp [up]), prf_one (by simp [up])]
    rfl
  have p1 : prfE [[120]] 1 = ([], 2) := by unfold prfE; rw [if_pos (by simp)]
  have r1 : root [[120]] = dig [48, 120] := by
    unfold root
    rw [if_neg (by simp), top_one (by simp)]
    rfl
  have r2 : root [[120], [121]] = join (dig [48, 120]) (dig [48, 121]) := by
    unfold root
    rw [if_neg (by simp), top_up (by simp), top_one (by simp [up])]
    rfl
  unfold F10
  rw [f11 _ (by simp), bindO_some, f11 _ (by simp), bindO_some, f11 _ (by simp), bindO_some, f20 _ _ o3, bindO_some, f20 _ _ o3, bindO_some, f20 _ _ o1, bindO_some, f15, bindO_some, f15, bindO_some, f15, bindO_some, f11 _ (by simp), bindO_some, f15, bindO_some,
    f18 _ o1, bindO_some, f18 _ o2, bindO_some, f12 _ _ (by simp [dig_len]) (by simp [dig_len]), bindO_some, p2, p0, p1, r1, r2, dig_isDig]
  have i1 : isDig [48, 49, 50, 51, 52, 53, 54, 55, 56, 57, 97, 98, 99, 100, 101, 102] = true := by decide
  have i2 : isDig [48, 49, 50, 51, 52, 53, 54, 55, 56, 57, 65, 66, 67, 68, 69, 70] = false := by decide
  have i3 : isDig [] = false := by decide
  rw [i1, i2, i3]
  simp only [cond_true, Bool.not_false, decide_true]
  rw [decide_eq_true (show join (dig [48, 120]) (dig [48, 121]) = dig (49 :: (dig [48, 120] ++ dig [48, 121])) from rfl), cond_true, bindO_some, f22 _ _ (by simp), bindO_some]
  rw [decide_eq_true (show [join (dig [48, 120]) (dig [48, 121])] = [dig (49 :: (dig [48, 120] ++ dig [48, 121]))] from rfl), cond_true, f22 _ _ (by simp), bindO_some, decide_eq_true rfl, cond_true]

theorem law3 (s t : List UInt8) : F3 s t = some true := by
  unfold F3
  rw [f10, bindO_some, Bool.not_true, cond_false]
  by_cases h1 : 2000 < s.length
  · rw [decide_eq_true (by omega), cond_true]
  by_cases h2 : 2000 < t.length
  · rw [decide_eq_false (by omega), cond_false, decide_eq_true (by omega), cond_true]
  rw [decide_eq_false (by omega), cond_false, decide_eq_false (by omega), cond_false, f11 _ (by omega), bindO_some, f12 _ _ (by omega) (by omega), bindO_some, f13 _ (by omega), bindO_some, decide_eq_true rfl, cond_true, f14 _ _ (by omega), bindO_some, decide_eq_true rfl, cond_true,
    f15, bindO_some, dig_isDig, cond_true, f15, bindO_some, dig_isDig]
theorem law4 (d : List UInt8) : F4 d = some true := by
  unfold F4
  rw [f10, bindO_some, cond_true, f15, bindO_some, f16, bindO_some]
  simp
theorem law5 (l : List (List UInt8)) : F5 l = some true := by
  unfold F5
  obtain ⟨b, h1, h2⟩ := f17 l
  rw [f10, bindO_some, Bool.not_true, cond_false, h1, bindO_some]
  cases b with
  | false => rfl
  | true =>
    have ho := small_ok (h2 rfl)
    rw [Bool.not_true, cond_false, f18 l ho, bindO_some, f19 l ho, bindO_some, decide_eq_true rfl]
theorem prf_len : ∀ (n : Nat) (l : List (List UInt8)) (i : Nat), l.length ≤ n → (prf l i).length ≤ l.length := by
  intro n
  induction n with
  | zero => intro l i h; rw [prf_one (by omega)]; simp
  | succ n ih =>
    intro l i h
    by_cases hc : l.length ≤ 1
    · rw [prf_one hc]; simp
    · rw [prf_up hc, List.length_append]
      have := ih (up l) (i / 2) (by rw [up_len]; omega)
      rw [up_len] at this
      split <;> simp <;> omega
theorem prfE_len (l : List (List UInt8)) (i : Int) : (prfE l i).1.length ≤ l.length := by
  unfold prfE
  split
  · simp
  · have := prf_len _ (l.map leaf) i.toNat (Nat.le_refl _)
    simpa using this
theorem law6 (l : List (List UInt8)) (i : Int) : F6 l i = some true := by
  unfold F6
  obtain ⟨b, h1, h2⟩ := f17 l
  rw [f10, bindO_some, Bool.not_true, cond_false, h1, bindO_some]
  cases b with
  | false => rfl
  | true =>
    have ho := small_ok (h2 rfl)
    have := prfE_len l i
    have := ho.1
    rw [Bool.not_true, cond_false, f20 l i ho, bindO_some, f21 l i ho, bindO_some, decide_eq_true rfl, cond_true, f22 _ _ (by omega), bindO_some, decide_eq_true rfl]
theorem law7 (c : List UInt8 × List UInt8 × Int × Int × List (List UInt8)) : F7 c = some true := by
  obtain ⟨r, l, i, n, p⟩ := c
  unfold F7
  obtain ⟨b, h1, h2⟩ := f17 p
  rw [f10, bindO_some, Bool.not_true, cond_false, h1, bindO_some]
  cases b with
  | false => rfl
  | true =>
    have ho := small_ok (h2 rfl)
    rw [Bool.not_true, cond_false]
    dsimp only
    by_cases hl : 1000 < l.length
    · rw [decide_eq_true (by omega), cond_true]
    · rw [decide_eq_false (by omega), cond_false, f23 _ _ _ _ _ (by omega) ho.2 (by have := ho.1; omega), bindO_some, f24 _ _ _ _ _ (by omega) ho.2 (by have := ho.1; omega), bindO_some]
      simp

/-- How many digests a proof has. -/
def cnt (n i : Nat) : Nat := if n ≤ 1 then 0 else (if sib i < n then 1 else 0) + cnt ((n + 1) / 2) (i / 2)
termination_by n
decreasing_by omega
theorem cnt_one {n i : Nat} (h : n ≤ 1) : cnt n i = 0 := by rw [cnt, if_pos h]
theorem cnt_up {n i : Nat} (h : ¬ n ≤ 1) : cnt n i = (if sib i < n then 1 else 0) + cnt ((n + 1) / 2) (i / 2) := by rw [cnt, if_neg h]
theorem chk_cnt (r : List UInt8) : ∀ (m n i : Nat) (d : List UInt8) (p : List (List UInt8)), n ≤ m → chk r n i d p = true → p.length = cnt n i := by
  intro m
  induction m with
  | zero =>
    intro n i d p hm h
    rw [chk_one (by omega)] at h
    rw [cnt_one (by omega)]
    simp only [Bool.and_eq_true, List.isEmpty_iff] at h
    simp [h.1]
  | succ m ih =>
    intro n i d p hm h
    by_cases hn : n ≤ 1
    · rw [chk_one hn] at h
      rw [cnt_one hn]
      simp only [Bool.and_eq_true, List.isEmpty_iff] at h
      simp [h.1]
    · rw [cnt_up hn]
      by_cases hs : sib i < n
      · rw [if_pos hs]
        cases p with
        | nil => rw [chk_nil hn hs] at h; cases h
        | cons q p =>
          rw [chk_cons hn hs] at h
          have := ih _ _ _ _ (by omega) h
          simp; omega
      · rw [if_neg hs]
        rw [chk_skip hn hs] at h
        have := ih _ _ _ _ (by omega) h
        omega
theorem prf_cnt : ∀ (m : Nat) (l : List (List UInt8)) (i : Nat), l.length ≤ m → (prf l i).length = cnt l.length i := by
  intro m
  induction m with
  | zero => intro l i h; rw [prf_one (by omega), cnt_one (by omega)]; rfl
  | succ m ih =>
    intro l i h
    by_cases hn : l.length ≤ 1
    · rw [prf_one hn, cnt_one hn]; rfl
    · rw [prf_up hn, cnt_up hn, List.length_append, ih (up l) (i / 2) (by rw [up_len]; omega), up_len]
      split <;> rfl
theorem prf_ok : ∀ (m : Nat) (l : List (List UInt8)) (i : Nat), l.length ≤ m → Ok l → ∀ s ∈ prf l i, s.length ≤ 100000 := by
  intro m
  induction m with
  | zero => intro l i h _ s hs; rw [prf_one (by omega)] at hs; cases hs
  | succ m ih =>
    intro l i h ho s hs
    by_cases hn : l.length ≤ 1
    · rw [prf_one hn] at hs; cases hs
    · rw [prf_up hn] at hs
      rcases List.mem_append.1 hs with hs | hs
      · split at hs
        · simp only [List.mem_singleton] at hs
          rw [hs]
          exact getD_len ho _
        · cases hs
      · exact ih (up l) (i / 2) (by rw [up_len]; omega) (up_ok l ho) s hs

theorem law9 (l : List (List UInt8)) (i : Int) (d : List UInt8) : F9 l i d = some true := by
  unfold F9
  obtain ⟨b, h1, h2⟩ := f17 l
  rw [f10, bindO_some, Bool.not_true, cond_false, h1, bindO_some]
  cases b with
  | false => rfl
  | true =>
    have ho := small_ok (h2 rfl)
    have h60 := (h2 rfl).1
    rw [Bool.not_true, cond_false]
    by_cases c1 : 1000 < d.length
    · rw [decide_eq_true (by omega), cond_true]
    by_cases c2 : i < 0
    · rw [decide_eq_false (by omega), cond_false, decide_eq_true c2, cond_true]
    by_cases c3 : (l.length : Int) ≤ i
    · rw [decide_eq_false (by omega), cond_false, decide_eq_false c2, cond_false, decide_eq_true c3, cond_true]
    rw [decide_eq_false (by omega), cond_false, decide_eq_false c2, cond_false, decide_eq_false c3, cond_false, f18 l ho, bindO_some, f20 l i ho, bindO_some]
    obtain ⟨i, rfl⟩ : ∃ n : Nat, i = n := ⟨i.toNat, by omega⟩
    have hp : prfE l i = (prf (l.map leaf) i, 0) := by unfold prfE; rw [if_neg (by omega)]; rfl
    have hcnt := prf_cnt _ (l.map leaf) i (Nat.le_refl _)
    have hok := prf_ok _ (l.map leaf) i (Nat.le_refl _) (leaf_ok ho)
    have hlen := prf_len _ (l.map leaf) i (Nat.le_refl _)
    rw [List.length_map] at hcnt hlen
    rw [hp]
    simp only []
    generalize prf (l.map leaf) i = p at hcnt hok hlen
    have hli := getD_len ho i
    simp only [bnd]
    rw [gdN_self, gd_pos (by simp [big]; omega), gdN_self, gd_pos (by simp [big]; omega), gd_pos (by omega), show ((i : Int)).toNat = i by omega]
    have key : ∀ q : List (List UInt8), q.length ≠ p.length → (∀ s ∈ q, s.length ≤ 100000) → q.length ≤ 200000 → F23 (root l) (l.getD i []) (i : Int) (l.length : Int) q = some false := by
      intro q hq1 hq2 hq3
      rw [f23 _ _ _ _ _ hli hq2 hq3]
      unfold chkE
      rw [if_neg (by omega)]
      cases hc : chk (root l) (l.length : Int).toNat (i : Int).toNat (leaf (l.getD i [])) q with
      | false => rfl
      | true =>
        have := chk_cnt _ _ _ _ _ _ (Nat.le_refl _) hc
        simp only [Int.toNat_natCast] at this
        omega
    rw [key _ (by simp) (by
      intro s hs
      simp only [List.nil_append, List.mem_append, List.mem_singleton] at hs
      rcases hs with hs | rfl
      · exact hok s hs
      · omega) (by simp; omega), bindO_some, cond_false, gd_pos (by omega), f23 _ _ _ _ _ hli hok (by omega), bindO_some]
    have e1 : chkE (root l) (l.getD i []) (l.length : Int) (l.length : Int) p = false := by unfold chkE; rw [if_pos (by omega)]
    rw [e1, cond_false, gd_pos (by omega), f23 _ _ _ _ _ hli hok (by omega), bindO_some]
    have e2 : chkE (root l) (l.getD i []) (-1) (l.length : Int) p = false := by unfold chkE; rw [if_pos (by omega)]
    rw [e2, cond_false]
    by_cases hp0 : p.length = 0
    · rw [decide_eq_true (by omega), cond_true]
    · rw [decide_eq_false (by omega), cond_false, gd_pos (by omega), i64_wrap (by omega), gd_pos (by omega), key _ (by simp; omega) (fun s hs => hok s (List.mem_of_mem_take hs)) (by simp; omega), bindO_some]
      rfl

/-! ### another element -/
theorem sib_two (i : Nat) : sib (i + 2) = sib i + 2 := by
  unfold sib
  by_cases h : i % 2 = 1
  · rw [if_pos h, if_pos (by omega)]; omega
  · rw [if_neg h, if_neg (by omega)]
theorem up_set : ∀ (l : List (List UInt8)) (i : Nat) (d : List UInt8), i < l.length →
    up (l.set i d) = (up l).set (i / 2) (if sib i < l.length then (if i % 2 = 1 then join (l.getD (sib i) []) d else join d (l.getD (sib i) [])) else d)
  | [], i, d, h => by simp at h
  | [a], i, d, h => by
    obtain rfl : i = 0 := by simpa using h
    rfl
  | a :: b :: l, i, d, h => by
    match i, h with
    | 0, _ => rfl
    | 1, _ => rfl
    | i + 2, h =>
      have ih := up_set l i d (by simpa using h)
      have e1 : (a :: b :: l).set (i + 2) d = a :: b :: l.set i d := rfl
      have e2 : (i + 2) / 2 = i / 2 + 1 := by omega
      have e3 : (i + 2) % 2 = i % 2 := by omega
      rw [e1, e2, e3, sib_two]
      show join a b :: up (l.set i d) = (join a b :: up l).set (i / 2 + 1) _
      rw [List.set_cons_succ, ih]
      have e5 : (a :: b :: l).getD (sib i + 2) [] = l.getD (sib i) [] := rfl
      rw [e5]
      have e6 : (a :: b :: l).length = l.length + 2 := rfl
      by_cases hs : sib i < l.length
      · have hs' : sib i + 2 < (a :: b :: l).length := by omega
        rw [if_pos hs, if_pos hs']
      · have hs' : ¬ sib i + 2 < (a :: b :: l).length := by omega
        rw [if_neg hs, if_neg hs']
theorem chk_prf (r : List UInt8) : ∀ (m : Nat) (l : List (List UInt8)) (i : Nat) (d : List UInt8), l.length ≤ m → i < l.length → chk r l.length i d (prf l i) = decide (top (l.set i d) = r) := by
  intro m
  induction m with
  | zero => intro l i d h1 h2; omega
  | succ m ih =>
    intro l i d h1 h2
    by_cases hn : l.length ≤ 1
    · obtain rfl : i = 0 := by omega
      rw [prf_one hn, chk_one hn, top_one (by rw [List.length_set]; exact hn)]
      have : (l.set 0 d).getD 0 [] = d := by
        rw [List.getD_eq_getElem?_getD, List.getElem?_set_self h2]; rfl
      rw [this]
      simp
    · have hu := up_len l
      have hi2 : i / 2 < (up l).length := by rw [hu]; omega
      rw [prf_up hn, top_up (by rw [List.length_set]; exact hn), up_set l i d h2]
      by_cases hs : sib i < l.length
      · rw [if_pos hs, if_pos hs, List.singleton_append, chk_cons hn hs, ← hu, ih _ _ _ (by rw [hu]; omega) hi2]
      · rw [if_neg hs, if_neg hs, List.nil_append, chk_skip hn hs, ← hu, ih _ _ _ (by rw [hu]; omega) hi2]
theorem map_set_leaf (l : List (List UInt8)) (i : Nat) (d : List UInt8) : (l.set i d).map leaf = (l.map leaf).set i (leaf d) := List.map_set
theorem law8 (l : List (List UInt8)) (i : Int) (d : List UInt8) : F8 l i d = some true := by
  unfold F8
  obtain ⟨b, h1, h2⟩ := f17 l
  rw [f10, bindO_some, Bool.not_true, cond_false, h1, bindO_some]
  cases b with
  | false => rfl
  | true =>
    have ho := small_ok (h2 rfl)
    have h60 := (h2 rfl).1
    rw [Bool.not_true, cond_false]
    by_cases c1 : 1000 < d.length
    · rw [decide_eq_true (by omega), cond_true]
    by_cases c2 : i < 0
    · rw [decide_eq_false (by omega), cond_false, decide_eq_true c2, cond_true]
    by_cases c3 : (l.length : Int) ≤ i
    · rw [decide_eq_false (by omega), cond_false, decide_eq_false c2, cond_false, decide_eq_true c3, cond_true]
    rw [decide_eq_false (by omega), cond_false, decide_eq_false c2, cond_false, decide_eq_false c3, cond_false, f18 l ho, bindO_some, f20 l i ho, bindO_some]
    obtain ⟨i, rfl⟩ : ∃ n : Nat, i = n := ⟨i.toNat, by omega⟩
    have hp : prfE l i = (prf (l.map leaf) i, 0) := by unfold prfE; rw [if_neg (by omega)]; rfl
    have hok := prf_ok _ (l.map leaf) i (Nat.le_refl _) (leaf_ok ho)
    have hlen := prf_len _ (l.map leaf) i (Nat.le_refl _)
    rw [List.length_map] at hlen
    have hli := getD_len ho i
    have hil : i < l.length := by omega
    rw [hp]
    simp only []
    have hm : Ok (l.set i d) := ⟨by rw [List.length_set]; exact ho.1, fun s hs => by
      rcases List.mem_or_eq_of_mem_set hs with hs | rfl
      · exact ho.2 s hs
      · omega⟩
    rw [gd_pos (by omega), gd_pos (by unfold big; omega), gd_pos (by omega), gd_pos (by omega), decide_true, cond_true, gd_pos (by omega), Int.toNat_natCast]
    rw [f23 _ _ _ _ _ hli hok (by omega), bindO_some]
    have hr : root l = top (l.map leaf) := by unfold root; rw [if_neg (by omega)]
    have hck : ∀ x : List UInt8, chkE (root l) x (i : Int) (l.length : Int) (prf (l.map leaf) i) = decide (top ((l.map leaf).set i (leaf x)) = root l) := fun x => by
      unfold chkE
      rw [if_neg (by omega), Int.toNat_natCast, Int.toNat_natCast]
      have := chk_prf (root l) _ (l.map leaf) i (leaf x) (Nat.le_refl _) (by rw [List.length_map]; exact hil)
      rwa [List.length_map] at this
    have hself : (l.map leaf).set i (leaf (l.getD i [])) = l.map leaf := by
      rw [List.getD_eq_getElem?_getD, List.getElem?_eq_getElem hil, Option.getD_some]
      apply List.ext_getElem?
      intro j
      by_cases hj : i = j
      · subst hj
        rw [List.getElem?_set_self (by rw [List.length_map]; exact hil), List.getElem?_map, List.getElem?_eq_getElem hil]; rfl
      · rw [List.getElem?_set_ne hj]
    rw [hck, hself, ← hr, decide_eq_true rfl, cond_true, f23 _ _ _ _ _ (by omega) hok (by omega), bindO_some, hck, f18 _ hm, bindO_some]
    have hrm : root (l.set i d) = top ((l.map leaf).set i (leaf d)) := by unfold root; rw [if_neg (by rw [List.length_set]; omega), map_set_leaf]
    rw [hrm]
    simp
end Go.Proofs.YtlgdcfelfifgfaaDoor
