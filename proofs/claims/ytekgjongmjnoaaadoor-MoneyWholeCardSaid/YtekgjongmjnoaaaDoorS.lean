/-
  Chapter 4: the laws.
-/
import Derived.Test.YtekgjongmjnoaaaDoorQ
namespace Go.Proofs.YtekgjongmjnoaaaDoor
open Go Go.Nu

/-! ### parts in a thousand -/
def rnd (p : Int) : Int := if 500 < p % 1000 ∨ (p % 1000 = 500 ∧ p / 1000 % 2 = 1) then p / 1000 + 1 else p / 1000
def permP (n rate : Int) : Int := if amount n then if 0 ≤ rate ∧ rate ≤ 1000 then rnd (n * rate) else 0 else 0
theorem mul_fit {n rate : Int} (hn : amount n = true) (hr : 0 ≤ rate ∧ rate ≤ 1000) : 0 ≤ n * rate ∧ n * rate ≤ 1000 * n ∧ n * rate ≤ 100000000000 := by
  unfold amount at hn
  have hn := of_decide_eq_true hn
  have h1 : n * rate ≤ n * 1000 := Int.mul_le_mul_of_nonneg_left hr.2 hn.1
  have h0 := Int.mul_nonneg hn.1 hr.1
  omega
theorem f17 (n rate : Int) : F17 n rate = some (permP n rate) := by
  unfold F17 permP
  rw [f16, bindO_some]
  cases ha : amount n with
  | false => rfl
  | true =>
    simp only [Bool.not_true, cond_false, if_true]
    by_cases h1 : rate < 0
    · rw [decide_eq_true h1, cond_true, if_neg (by omega)]
    by_cases h2 : 1000 < rate
    · rw [decide_eq_false h1, cond_false, decide_eq_true h2, cond_true, if_neg (by omega)]
    rw [decide_eq_false h1, cond_false, decide_eq_false h2, cond_false, if_pos (by omega)]
    obtain ⟨m0, m1, m2⟩ := mul_fit ha (rate := rate) (by omega)
    obtain ⟨p, hp⟩ : ∃ p, n * rate = p := ⟨_, rfl⟩
    rw [hp] at m0 m1 m2 ⊢
    simp only [bnd_eq]
    rw [i64_wrap (n := p) (by omega), Int.tdiv_eq_ediv_of_nonneg m0, Int.tmod_eq_emod_of_nonneg m0, gd_pos (by omega), gd_pos (by omega), i64_wrap (n := p / 1000) (by omega), i64_wrap (n := 2 * (p % 1000)) (by omega), Int.tmod_eq_emod_of_nonneg (a := p / 1000) (by omega),
      i64_wrap (n := p / 1000 + 1) (by omega), gd_pos (by omega)]
    unfold rnd
    simp only [Bool.cond_decide]
    grind
theorem f21 (n rate : Int) : F21 n rate = some (permP n rate) := by
  unfold F21 permP
  rw [f20, bindO_some]
  cases ha : amount n with
  | false => rfl
  | true =>
    simp only [Bool.not_true, cond_false, if_true]
    by_cases h1 : rate < 0
    · rw [decide_eq_true h1, cond_true, if_neg (by omega)]
    by_cases h2 : 1000 < rate
    · rw [decide_eq_false h1, cond_false, decide_eq_true h2, cond_true, if_neg (by omega)]
    rw [decide_eq_false h1, cond_false, decide_eq_false h2, cond_false, if_pos (by omega)]
    obtain ⟨m0, m1, m2⟩ := mul_fit ha (rate := rate) (by omega)
    obtain ⟨p, hp⟩ : ∃ p, n * rate = p := ⟨_, rfl⟩
    rw [hp] at m0 m1 m2 ⊢
    simp only [bnd_eq]
    rw [i64_wrap (n := p) (by omega), Int.tdiv_eq_ediv_of_nonneg m0, Int.tmod_eq_emod_of_nonneg m0, gd_pos (by omega), gd_pos (by omega), i64_wrap (n := p / 1000) (by omega), Int.tmod_eq_emod_of_nonneg (a := p / 1000) (by omega),
      i64_wrap (n := p / 1000 + 1) (by omega), gd_pos (by omega)]
    unfold rnd
    simp only [Bool.cond_decide]
    grind

/-! ### sums -/
def addP (a b : Int) : Int × Int := if amount a && amount b && amount (a + b) then (a + b, 0) else (0, 2)
theorem amount_fit {n : Int} (h : amount n = true) : 0 ≤ n ∧ n ≤ 100000000 := by unfold amount at h; exact of_decide_eq_true h
theorem f18 (a b : Int) : F18 a b = some (addP a b) := by
  unfold F18 addP
  rw [f16, bindO_some]
  cases ha : amount a with
  | false => rfl
  | true =>
    simp only [Bool.not_true, cond_false, f16, bindO_some]
    cases hb : amount b with
    | false => rfl
    | true =>
      have := amount_fit ha
      have := amount_fit hb
      simp only [Bool.not_true, cond_false, bnd_eq]
      rw [i64_wrap (by omega)]
      cases amount (a + b) <;> rfl
theorem f19 (a b : Int) : F19 a b = some (addP a b) := by
  unfold F19 addP
  rw [f20, bindO_some]
  cases ha : amount a with
  | false => rfl
  | true =>
    simp only [Bool.not_true, cond_false, f20, bindO_some]
    cases hb : amount b with
    | false => rfl
    | true =>
      have := amount_fit ha
      have := amount_fit hb
      simp only [Bool.not_true, cond_false, bnd_eq]
      rw [i64_wrap (by omega)]
      cases amount (a + b) <;> rfl

/-- Two rows of numbers compared. -/
theorem f11 (a b : List Int) (ha : a.length ≤ 1000000) : F11 a b = some (decide (a = b)) := by
  unfold F11
  by_cases hl : a.length = b.length
  · rw [decide_eq_true (by omega), Bool.not_true, cond_false]
    refine loopK_rule (fun x => ∃ i : Nat, x = (i : Int) ∧ i ≤ a.length ∧ a.take i = b.take i) (fun x => a.length - x.toNat) ⟨0, rfl, by omega, rfl⟩ rfl ?_
    rintro x again ⟨i, rfl, hi, ht⟩ hag
    by_cases hlt : i < a.length
    · rw [decide_eq_true (by omega), cond_true, gd_pos (by omega), gd_pos (by omega), Int.toNat_natCast]
      by_cases he : a.getD i 0 = b.getD i 0
      · rw [decide_eq_true he, Bool.not_true, cond_false, bnd_eq, i64_wrap (by omega)]
        refine hag _ ⟨i + 1, by simp, by omega, ?_⟩ (by omega)
        rw [take_snoc hlt, take_snoc (by omega), ht, he]
      · rw [decide_eq_false he, Bool.not_false, cond_true, decide_eq_false (fun h => he (by rw [h]))]
    · rw [decide_eq_false (by omega), cond_false]
      rw [List.take_of_length_le (by omega), List.take_of_length_le (by omega)] at ht
      rw [decide_eq_true ht]
  · rw [decide_eq_false (by omega), Bool.not_false, cond_true, decide_eq_false (fun h => hl (by rw [h]))]

/-! ### the examples -/
theorem f8 : F8 = some true := by
  unfold F8
  have e1 : shareP 100 [1, 1, 1] = ([34, 33, 33], 0) := by decide
  have e2 : parseP [48, 49, 46, 48, 48] = (0, 3) := by decide
  have e3 : parseP [49, 48, 48, 48, 48, 48, 48, 46, 48, 49] = (0, 2) := by decide
  have e4 : permP 25 100 = 2 := by decide
  have e5 : permP 35 100 = 4 := by decide
  have e6 : fmtP 1234 = [49, 50, 46, 51, 52] := by
    unfold fmtP fmtN
    rw [if_pos (by decide), show (Int.toNat 1234 / 100) = 12 from rfl, dec_ge (by omega), dec_lt (by omega)]
    decide
  have e7 : fmtP 5 = [48, 46, 48, 53] := by
    unfold fmtP fmtN
    rw [if_pos (by decide), show (Int.toNat 5 / 100) = 0 from rfl, dec_lt (by omega)]
    decide
  rw [f9 _ _ (by simp), bindO_some, e1, f12 _ (by simp), f12 _ (by simp), e2, e3]
  simp only [f11 _ _ (show ([34, 33, 33] : List Int).length ≤ 1000000 by simp), bindO_some, f17, e4, e5, f14, e6, e7]
  rfl
theorem alive_ok {β : Type} {k : Bool → Option β} : (bindO F8 k) = k true := by rw [f8]; rfl

theorem inc_small {t : Int} {ws : List Int} : (shareP t ws).1.length ≤ ws.length := by
  unfold shareP
  split
  · simp only [inc_len, qs_len]; omega
  · simp
theorem law3 (t : Int) (ws : List Int) : F3 t ws = some true := by
  unfold F3
  rw [alive_ok]
  simp only [Bool.not_true, cond_false]
  by_cases h : 40 < ws.length
  · rw [decide_eq_true (by omega), cond_true]
  have := inc_small (t := t) (ws := ws)
  rw [decide_eq_false (by omega), cond_false, f9 t ws (by omega), bindO_some, f10 t ws (by omega), bindO_some, decide_eq_true rfl, cond_true, f11 _ _ (by omega), bindO_some, decide_eq_true rfl]
theorem law4 (n : Int) (s : List UInt8) : F4 n s = some true := by
  unfold F4
  rw [alive_ok]
  simp only [Bool.not_true, cond_false]
  by_cases h : 300 < s.length
  · rw [decide_eq_true (by omega), cond_true]
  rw [decide_eq_false (by omega), cond_false, f12 s (by omega), bindO_some, f13 s (by omega), bindO_some, f14, bindO_some, f15, bindO_some, decide_eq_true rfl, cond_true, decide_eq_true rfl, cond_true, decide_eq_true rfl]
theorem law7 (a b : Int) : F7 a b = some true := by
  unfold F7
  rw [alive_ok]
  simp only [Bool.not_true, cond_false]
  rw [f18, bindO_some, f19, bindO_some, f16, bindO_some, f20, bindO_some, beq_self_eq_true, cond_true, decide_eq_true rfl, cond_true, decide_eq_true rfl, cond_true, f17, bindO_some, f21, bindO_some, decide_eq_true rfl]

/-! ### there and back -/
theorem two_ok {m : Nat} (h : m < 100) (v : Nat) : (two m).all isD = true ∧ valN v (two m) = 100 * v + m := by
  have hb : ∀ k, k < 10 → (UInt8.ofNat (48 + k)).toNat = 48 + k := by
    intro k hk
    rw [UInt8.toNat_ofNat']
    omega
  have e1 := hb (m / 10) (by omega)
  have e2 := hb (m % 10) (by omega)
  refine ⟨by simp [two, isD, e1, e2]; omega, ?_⟩
  simp only [valN, two, List.foldl_cons, List.foldl_nil, e1, e2]
  omega
theorem parse_back (n : Int) (h : amount n = true) : parseP (fmtP n) = (n, 0) := by
  obtain ⟨m, rfl, hm⟩ := amount_nat h
  have hf : fmtP (m : Int) = Lib.decDigits (m / 100) ++ 46 :: two (m % 100) := by unfold fmtP fmtN; rw [if_pos h, Int.toNat_natCast]
  obtain ⟨d1, d2, d3, d4⟩ := dec_digits (m / 100)
  obtain ⟨D, hD⟩ : ∃ D, Lib.decDigits (m / 100) = D := ⟨_, rfl⟩
  have hsm : m / 100 < 10 → D.length = 1 := fun h => by rw [← hD, dec_lt h]; rfl
  rw [hD] at hf d1 d2 d3 d4
  have hl := List.length_pos_iff.2 d3
  have hlen : (fmtP (m : Int)).length = D.length + 3 := by rw [hf]; simp [two]
  obtain ⟨t1, t2⟩ := two_ok (m := m % 100) (by omega) (m / 100)
  have hb : bytesP (fmtP (m : Int)) = D ++ two (m % 100) := by
    unfold bytesP
    rw [hlen, hf, show D.length + 3 - 3 = D.length by omega, List.take_left, show D.length + 1 = D.length + 1 from rfl, ← List.drop_drop, List.drop_left]
    rfl
  have hv : valN 0 (D ++ two (m % 100)) = m := by
    have : valN 0 (D ++ two (m % 100)) = valN (valN 0 D) (two (m % 100)) := by unfold valN; rw [List.foldl_append]
    rw [this, d2, t2]; omega
  have hdot : (fmtP (m : Int)).getD ((fmtP (m : Int)).length - 3) 0 = 46 := by
    rw [hlen, hf, show D.length + 3 - 3 = D.length by omega]
    simp [List.getD_eq_getElem?_getD]
  unfold parseP
  rw [if_neg, hb]
  · unfold valR
    rw [if_pos (by rw [List.all_append, d1, t1]; rfl), hv, if_neg (by omega)]
  · intro hx
    rcases hx with hx | hx | ⟨hx1, hx2⟩
    · omega
    · exact hx hdot
    · have h0 : m / 100 ≠ 0 := fun h => by have := hsm (by omega); omega
      obtain ⟨c, r, rfl⟩ : ∃ c r, D = c :: r := by cases D with | nil => exact (d3 rfl).elim | cons c r => exact ⟨c, r, rfl⟩
      rw [hf] at hx2
      exact d4 h0 (by simpa using hx2)

theorem rnd_mono {p q : Int} (h0 : 0 ≤ p) (h : p ≤ q) : rnd p ≤ rnd q := by
  unfold rnd
  split <;> split <;> omega
theorem law6 (n rate : Int) : F6 n rate = some true := by
  unfold F6
  rw [alive_ok]
  simp only [Bool.not_true, cond_false]
  rw [jn_eq, f16, bindO_some]
  cases ha : amount n with
  | false =>
    have : fmtP n = [] := by unfold fmtP; rw [ha]; rfl
    simp only [Bool.not_false, cond_true, f14, bindO_some, this, cond_false]
    rfl
  | true =>
    simp only [Bool.not_true, cond_false, bindO_some, cond_true]
    by_cases h1 : rate < 0
    · rw [decide_eq_true h1, cond_true]
    by_cases h2 : 1000 < rate
    · rw [decide_eq_false h1, cond_false, decide_eq_true h2, cond_true]
    rw [decide_eq_false h1, cond_false, decide_eq_false h2, cond_false, f14, bindO_some]
    have hnf := amount_fit ha
    have hlen : (fmtP n).length ≤ 1000000 := by
      obtain ⟨m, rfl, hm⟩ := amount_nat ha
      unfold fmtP fmtN
      have := dec_len (m / 100)
      have hd : (Lib.decDigits (m / 100)).length ≤ 999990 := by
        by_cases h10 : m / 100 < 10
        · rw [dec_lt h10]; simp
        · rw [dec_ge h10]
          have := dec_len (m / 100 / 10)
          simp; omega
      rw [if_pos ha, Int.toNat_natCast]
      simp [two]; omega
    rw [f12 _ hlen, bindO_some, parse_back n ha]
    simp only [f17, bindO_some, bnd_eq]
    simp only [decide_true, Bool.not_true, cond_false]
    have hp1 : permP n rate = rnd (n * rate) := by unfold permP; rw [if_pos ha, if_pos (by omega)]
    rw [i64_wrap (n := 1000 - rate) (by omega)]
    have hp2 : permP n (1000 - rate) = rnd (1000 * n - n * rate) := by unfold permP; rw [if_pos ha, if_pos (by omega), Int.mul_sub, Int.mul_comm n 1000]
    obtain ⟨m0, m1, m2⟩ := mul_fit ha (rate := rate) (by omega)
    rw [hp1, hp2]
    have hr1 : 0 ≤ rnd (n * rate) ∧ rnd (n * rate) ≤ n ∧ -1 ≤ rnd (n * rate) + rnd (1000 * n - n * rate) - n ∧ rnd (n * rate) + rnd (1000 * n - n * rate) - n ≤ 1 := by
      generalize n * rate = p at m0 m1 m2
      unfold rnd
      split <;> split <;> omega
    have hw : -9223372036854775808 ≤ rnd (n * rate) + rnd (1000 * n - n * rate) ∧ rnd (n * rate) + rnd (1000 * n - n * rate) ≤ 9223372036854775807 := by omega
    rw [i64_wrap hw, i64_wrap (by omega), decide_eq_false (by omega), cond_false, decide_eq_false (by omega), cond_false, decide_eq_false (by omega), cond_false, decide_eq_false (by omega), cond_false, jn_eq]
    have fin : cond (decide (rate = (1000 : Int))) (some true) (some (decide (rnd (n * rate) ≤ permP n (IntKind.wrap .i64 (rate + (1 : Int)))))) = some true := by
      by_cases h3 : rate = 1000
      · rw [decide_eq_true h3, cond_true]
      · rw [decide_eq_false h3, cond_false, i64_wrap (by omega)]
        have : permP n (rate + 1) = rnd (n * rate + n) := by unfold permP; rw [if_pos ha, if_pos (by omega), Int.mul_add, Int.mul_one]
        rw [this, decide_eq_true (rnd_mono m0 (by omega))]
    by_cases h4 : n < 100000000
    · rw [decide_eq_true h4, cond_true, i64_wrap (by omega)]
      have ha1 : amount (n + 1) = true := by unfold amount; rw [decide_eq_true]; omega
      have : permP (n + 1) rate = rnd (n * rate + rate) := by unfold permP; rw [if_pos ha1, if_pos (by omega), Int.add_mul, Int.one_mul]
      have hle := rnd_mono m0 (q := n * rate + rate) (by omega)
      rw [this, decide_eq_false (by omega), cond_false]
      exact fin
    · rw [decide_eq_false h4, cond_false]
      exact fin
end Go.Proofs.YtekgjongmjnoaaaDoor
