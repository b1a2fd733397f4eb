/-
  Chapter 6: digests of strings, joined digests, which strings are digests.
-/
import Derived.Test.YthpgkpcnajookaaGreatDoorA
namespace Go.Proofs.YthpgkpcnajookaaGreatDoor
open Go Go.Nu

theorem wrap_u64 (n : Int) : 0 ≤ IntKind.u64.wrap n ∧ IntKind.u64.wrap n < 18446744073709551616 := by rw [IntKind.wrap_u64]; omega
theorem xor_u64 (a b : Int) : 0 ≤ xorI .u64 a b ∧ xorI .u64 a b < 18446744073709551616 := by unfold xorI; exact wrap_u64 _
theorem shr_nonneg (a b : Int) (h : 0 ≤ a) : 0 ≤ shrI .u64 a b := by
  unfold shrI
  rw [Int.fdiv_eq_ediv_of_nonneg _ (Int.pow_nonneg (by omega))]
  exact Int.ediv_nonneg h (Int.pow_nonneg (by omega))

theorem dig_len (l : List UInt8) : (dig l).length = 16 := hexPad_len 16 _
theorem fin_range (h : Int) : 0 ≤ fin h ∧ fin h < 18446744073709551616 := xor_u64 _ _

theorem fnv_cons (h : Int) (b : UInt8) (l : List UInt8) : fnv h (b :: l) = fnv (stp h b) l := rfl
theorem fnv_append (h : Int) (a b : List UInt8) : fnv h (a ++ b) = fnv (fnv h a) b := List.foldl_append
theorem drop_at {α : Type} {l : List α} {i : Nat} {d : α} (h : i < l.length) : l.drop i = l.getD i d :: l.drop (i + 1) := by
  rw [List.drop_eq_getElem_cons h]
  simp [List.getD_eq_getElem?_getD, h]

theorem digs16 (n : Nat) : ([48, 49, 50, 51, 52, 53, 54, 55, 56, 57, 97, 98, 99, 100, 101, 102] : List UInt8).getD n 0 = dg n := rfl

/-- The reference's digest. -/
theorem f13 (l : List UInt8) (hl : l.length < 4611686018427387904) : F32 l = some (dig l) := by
  unfold F32
  refine loopK_rule (fun x => ∃ i : Nat, x.2 = i ∧ i ≤ l.length ∧ fnv x.1 (l.drop i) = fnv 14695981039346656037 l) (fun x => l.length - x.2.toNat) ⟨0, rfl, by omega, rfl⟩ rfl ?_
  rintro ⟨h, i'⟩ again ⟨i, e1, h1, h2⟩ hag
  simp only [] at e1 h2 hag
  subst e1
  simp only []
  by_cases hc : i < l.length
  · rw [decide_eq_true (by omega), cond_true, gd_pos (by omega)]
    simp only [bnd]
    rw [i64_wrap (by omega)]
    refine hag _ ⟨i + 1, by simp, by omega, ?_⟩ (by simp; omega)
    rw [drop_at (d := 0) hc, fnv_cons] at h2
    simpa [stp] using h2
  · simp only [bnd]
    rw [decide_eq_false (by omega), cond_false, gd_pos (by omega), gd_pos (by omega), gd_pos (by omega)]
    obtain rfl : i = l.length := by omega
    rw [List.drop_length] at h2
    obtain rfl : h = fnv 14695981039346656037 l := h2
    have hr := fin_range (fnv 14695981039346656037 l)
    unfold dig
    generalize hf : fnv 14695981039346656037 l = h0 at hr
    show loopK _ (fin h0, _) = _
    generalize fin h0 = u at hr
    obtain ⟨n, rfl⟩ : ∃ n : Nat, u = n := ⟨u.toNat, by omega⟩
    rw [show ((n : Int)).toNat = n by omega]
    refine loopK_rule (fun x => ∃ u i : Nat, x.1 = u ∧ x.2.2 = i ∧ u < 18446744073709551616 ∧ i ≤ 16 ∧ x.2.1.length = i ∧ hexPad (16 - i) u ++ x.2.1 = hexPad 16 n) (fun x => 16 - x.2.2.toNat)
      ⟨n, 0, rfl, rfl, by omega, by omega, rfl, by simp⟩ rfl ?_
    rintro ⟨u', b, i'⟩ again ⟨u, i, e1, e2, h1, h2, h3, h4⟩ hag
    simp only [] at e1 e2 h3 h4 hag
    subst e1 e2
    simp only []
    by_cases hc : i < 16
    · have e1 : (u : Int).tmod 16 = ((u % 16 : Nat) : Int) := by rw [Int.tmod_eq_emod_of_nonneg (by omega)]; omega
      have e2 : (u : Int).tdiv 16 = ((u / 16 : Nat) : Int) := by rw [Int.tdiv_eq_ediv_of_nonneg (by omega)]; omega
      rw [e1, e2, decide_eq_true (by omega), cond_true, gd_pos (by omega), gd_pos (by simp; omega), gdN_self, gd_pos (by simp [h3, big]; omega), gd_pos (by omega), i64_wrap (by omega)]
      rw [show (((u % 16 : Nat) : Int)).toNat = u % 16 by omega, digs16, u64_wrap (by omega)]
      refine hag _ ⟨u / 16, i + 1, rfl, by simp, by omega, by omega, by simp [h3], ?_⟩ (by simp; omega)
      rw [show 16 - i = 16 - (i + 1) + 1 by omega, hexPad] at h4
      simpa using h4
    · rw [decide_eq_false (by omega), cond_false]
      obtain rfl : i = 16 := by omega
      simpa [hexPad] using h4

theorem f14 (a b : List UInt8) (h : a.length + b.length < 4611686018) : F74 a b = some (dig (49 :: (a ++ b))) := by
  unfold F74
  rw [gd_pos (by simp [big]; omega)]
  simp only [bnd]
  rw [gd_pos (by simp [big]; omega), f13 _ (by simp; omega)]
  rfl

/-- The program's digest of several parts. -/
theorem f25 (p : List (List UInt8)) (hp : p.length < 4611686018427387904) (hl : ∀ s ∈ p, s.length < 4611686018427387904) : F48 p = some (dig p.flatten) := by
  unfold F48
  refine loopK_rule (fun x => ∃ i : Nat, x.2 = i ∧ i ≤ p.length ∧ fnv x.1 (p.drop i).flatten = fnv 14695981039346656037 p.flatten) (fun x => p.length - x.2.toNat) ⟨0, rfl, by omega, rfl⟩ rfl ?_
  rintro ⟨h, i'⟩ again ⟨i, e1, h1, h2⟩ hag
  simp only [] at e1 h2 hag
  subst e1
  simp only []
  by_cases hc : i < p.length
  · rw [decide_eq_true (by omega), cond_true, gd_pos (by omega), show ((i : Int)).toNat = i by omega]
    rw [drop_at (d := []) hc, List.flatten_cons, fnv_append] at h2
    have hs : (p.getD i []).length < 4611686018427387904 := hl _ (by rw [List.getD_eq_getElem?_getD, List.getElem?_eq_getElem hc]; exact List.getElem_mem _)
    generalize p.getD i [] = s at h2 hs
    refine loopK_rule (fun x => ∃ k : Nat, x.2 = k ∧ k ≤ s.length ∧ fnv x.1 (s.drop k) = fnv h s) (fun x => s.length - x.2.toNat) ⟨0, rfl, by omega, rfl⟩ rfl ?_
    rintro ⟨g, k'⟩ again2 ⟨k, e1, g1, g2⟩ hag2
    simp only [] at e1 g2 hag2
    subst e1
    simp only []
    by_cases hk : k < s.length
    · rw [decide_eq_true (by omega), cond_true, gd_pos (by omega)]
      simp only [bnd]
      rw [i64_wrap (by omega)]
      refine hag2 _ ⟨k + 1, by simp, by omega, ?_⟩ (by simp; omega)
      rw [drop_at (d := 0) hk, fnv_cons] at g2
      simpa [stp] using g2
    · rw [decide_eq_false (by omega), cond_false]
      simp only [bnd]
      rw [i64_wrap (by omega)]
      refine hag _ ⟨i + 1, by simp, by omega, ?_⟩ (by simp; omega)
      obtain rfl : k = s.length := by omega
      rw [List.drop_length] at g2
      rw [show g = fnv h s from g2]
      exact h2
  · simp only [bnd]
    rw [decide_eq_false (by omega), cond_false, gd_pos (by omega), gd_pos (by omega), gd_pos (by omega)]
    obtain rfl : i = p.length := by omega
    rw [List.drop_length] at h2
    obtain rfl : h = fnv 14695981039346656037 p.flatten := h2
    have hr := fin_range (fnv 14695981039346656037 p.flatten)
    unfold dig
    generalize hf : fnv 14695981039346656037 p.flatten = h0 at hr
    show bindO (F63 (fin h0) 16) _ = _
    generalize fin h0 = u at hr
    obtain ⟨n, rfl⟩ : ∃ n : Nat, u = n := ⟨u.toNat, by omega⟩
    obtain ⟨g1, g2⟩ := hexPad_eq 15 n (by omega)
    rw [f31 n (by omega), bindO_some, i64_wrap (by omega), show ((n : Int)).toNat = n by omega, g2]
    unfold fRepeat
    rw [if_pos ⟨by omega, by omega, by simp; omega⟩, bindO_some]
    have hrep : ∀ k, Lib.repeatL [48] k = List.replicate k 48 := by
      intro k
      induction k with
      | zero => rfl
      | succ k ih => rw [Lib.repeatL, ih]; rfl
    rw [hrep, gd_pos (by simp [big]; omega), show ((16 : Int) - ((hexOf n).length : Int)).toNat = 15 + 1 - (hexOf n).length by omega]

theorem f11 (s : List UInt8) (h : s.length < 4611686018427387904) : F27 s = some (dig s) := by
  unfold F27
  rw [f25 _ (by simp) (by simpa using h)]
  simp [bindO_some]
theorem f12 (a b : List UInt8) (ha : a.length < 4611686018427387904) (hb : b.length < 4611686018427387904) : F73 a b = some (dig (49 :: (a ++ b))) := by
  unfold F73
  rw [f25 _ (by simp) (by simp; exact ⟨ha, hb⟩)]
  simp [bindO_some]

/-! ### which strings are digests -/
set_option maxRecDepth 10000 in
theorem hex_mem (b : UInt8) : (([48, 49, 50, 51, 52, 53, 54, 55, 56, 57, 97, 98, 99, 100, 101, 102] : List UInt8).contains b) = isHex b := by
  have : ∀ k : Fin 256, (([48, 49, 50, 51, 52, 53, 54, 55, 56, 57, 97, 98, 99, 100, 101, 102] : List UInt8).contains (UInt8.ofNat k)) = isHex (UInt8.ofNat k) := by decide
  have h := this ⟨b.toNat, b.toNat_lt⟩
  simpa using h
theorem trim_nil (l cs : List UInt8) : Lib.trimS l cs = [] ↔ l.all (cs.contains ·) = true := by
  unfold Lib.trimS Lib.trimLeftS Lib.trimRightS
  have dw : ∀ (p : UInt8 → Bool) (l : List UInt8), l.dropWhile p = [] ↔ l.all p = true := by
    intro p l
    induction l with
    | nil => simp
    | cons a l ih =>
      rw [List.dropWhile_cons]
      by_cases h : p a = true
      · simp [h, ih]
      · simp [h]
  rw [dw]
  constructor
  · intro h
    rw [List.all_reverse] at h
    rcases hq : l.reverse.dropWhile (cs.contains ·) with _ | ⟨a, q⟩
    · have := (dw _ _).1 hq
      rwa [List.all_reverse] at this
    · exfalso
      rw [hq] at h
      have h1 : cs.contains a = true := by
        simp only [List.all_cons, Bool.and_eq_true] at h
        exact h.1
      have h2 := List.head_dropWhile_not (p := (cs.contains ·)) (l := l.reverse) (by rw [hq]; simp)
      simp only [hq, List.head_cons] at h2
      rw [h1] at h2
      cases h2
  · intro h
    have : l.reverse.dropWhile (cs.contains ·) = [] := (dw _ _).2 (by rwa [List.all_reverse])
    rw [this]
    rfl

theorem f15 (d : List UInt8) : F57 d = some (isDig d) := by
  unfold F57 isDig
  by_cases h : d.length = 16
  · rw [decide_eq_true (by omega), cond_true]
    unfold fTrim
    rw [if_pos ⟨by omega, by simp, by decide⟩, bindO_some, h]
    congr 1
    rw [decide_eq_true rfl, Bool.true_and, Bool.eq_iff_iff, decide_eq_true_eq, trim_nil]
    simp only [hex_mem]
  · rw [decide_eq_false (by omega), cond_false, decide_eq_false h]
    rfl

theorem f16 (d : List UInt8) : F58 d = some (isDig d) := by
  unfold F58 isDig
  by_cases h : d.length = 16
  · rw [decide_eq_true (by omega), decide_eq_true h, Bool.not_true, cond_false, Bool.true_and]
    refine loopK_rule (fun x => ∃ i : Nat, x = i ∧ i ≤ 16 ∧ (d.drop i).all isHex = d.all isHex) (fun x => 16 - x.toNat) ⟨0, rfl, by omega, rfl⟩ rfl ?_
    rintro i' again ⟨i, rfl, h1, h2⟩ hag
    by_cases hc : i < 16
    · rw [drop_at (d := 0) (by omega), List.all_cons] at h2
      have e : ((i : Int)).toNat = i := by omega
      rw [decide_eq_true (by omega), cond_true, gd_pos (by omega), e]
      have hb := (d.getD i 0).toNat_lt
      have hnext : isHex (d.getD i 0) = true → again ((i : Int) + 1) = some (d.all isHex) := by
        intro hx
        refine hag _ ⟨i + 1, by simp, by omega, ?_⟩ (by omega)
        rw [hx, Bool.true_and] at h2
        exact h2
      have hno : isHex (d.getD i 0) = false → d.all isHex = false := by
        intro hx
        rw [hx, Bool.false_and] at h2
        exact h2.symm
      simp only [bnd]
      rw [i64_wrap (by omega), gd_pos (by omega), gd_pos (by omega)]
      generalize d.all isHex = A at hnext hno ⊢
      unfold isHex at hnext hno
      rw [decide_eq_true_eq] at hnext
      rw [decide_eq_false_iff_not] at hno
      generalize (d.getD i 0).toNat = n at *
      by_cases c1 : 48 ≤ n <;> by_cases c2 : n ≤ 57 <;> by_cases c3 : 97 ≤ n <;> by_cases c4 : n ≤ 102 <;>
        simp only [show ((48 : Int) ≤ (n : Int)) ↔ 48 ≤ n by omega, show ((n : Int) ≤ 57) ↔ n ≤ 57 by omega, show ((97 : Int) ≤ (n : Int)) ↔ 97 ≤ n by omega, show ((n : Int) ≤ 102) ↔ n ≤ 102 by omega, c1, c2, c3, c4,
          decide_true, decide_false, cond_true, cond_false, Bool.not_true, Bool.not_false] <;>
        first
          | (refine hnext ?_ <;> omega)
          | (rw [hno ?_] <;> omega)
          | (rw [gd_pos (by omega)]; refine hnext ?_ <;> omega)
          | (rw [gd_pos (by omega), hno ?_] <;> omega)
          | (exfalso; omega)
    · rw [decide_eq_false (by omega), cond_false]
      rw [List.drop_of_length_le (by omega)] at h2
      rw [← h2]
      rfl
  · rw [decide_eq_false (by omega), decide_eq_false h, Bool.not_false, cond_true]
    rfl

theorem dig_isDig (s : List UInt8) : isDig (dig s) = true := by
  unfold isDig
  rw [dig_len, decide_eq_true rfl, Bool.true_and]
  unfold dig
  have : ∀ n u, (hexPad n u).all isHex = true := by
    intro n
    induction n with
    | zero => intro u; rfl
    | succ n ih =>
      intro u
      rw [hexPad, List.all_append, ih, Bool.true_and]
      have := dg_hex (u % 16)
      simp only [List.all_cons, List.all_nil, Bool.and_true]
      unfold isHex
      apply decide_eq_true
      omega
  exact this _ _

end Go.Proofs.YthpgkpcnajookaaGreatDoor
