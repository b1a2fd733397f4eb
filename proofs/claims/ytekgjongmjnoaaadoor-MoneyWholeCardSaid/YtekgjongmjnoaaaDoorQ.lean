/-
  Chapter 4: reading an amount.
-/
import Derived.Test.YtekgjongmjnoaaaDoorP
namespace Go.Proofs.YtekgjongmjnoaaaDoor
open Go Go.Nu

/-- What the digits come to. -/
def valR (v : Nat) (l : List UInt8) : Int × Int := if l.all isD then (if 100000000 < valN v l then (0, 2) else ((valN v l : Nat), 0)) else (0, 3)
def bytesP (s : List UInt8) : List UInt8 := s.take (s.length - 3) ++ s.drop (s.length - 3 + 1)
def parseP (s : List UInt8) : Int × Int :=
  if s.length < 4 ∨ s.getD (s.length - 3) 0 ≠ 46 ∨ (1 < s.length - 3 ∧ s.getD 0 0 = 48) then (0, 3) else valR 0 (bytesP s)

theorem drop_getB {s : List UInt8} {i : Nat} (h : i < s.length) : s.drop i = s.getD i 0 :: s.drop (i + 1) := drop_getD 0 h
theorem byte_eq {c : UInt8} {k : Nat} (hk : k < 256) : ((c.toNat : Int) = (k : Int)) ↔ c = UInt8.ofNat k := by
  rw [← UInt8.toNat_inj, UInt8.toNat_ofNat']
  omega

theorem f13 (s : List UInt8) (hs : s.length ≤ 1000000) : F13 s = some (parseP s) := by
  unfold F13
  rw [bnd_eq, i64_wrap (by omega), jn_eq]
  by_cases h4 : s.length < 4
  · unfold parseP
    rw [decide_eq_true (by omega), cond_true, if_pos (.inl h4)]
  obtain ⟨k, hk⟩ : ∃ k, s.length - 3 = k := ⟨_, rfl⟩
  have e : (s.length : Int) - 3 = (k : Int) := by omega
  rw [e, decide_eq_false (by omega), cond_false, gd_pos (by omega), Int.toNat_natCast]
  by_cases hdot : s.getD k 0 = 46
  · have hd : (((s.getD k 0).toNat : Int) = 46) := by rw [hdot]; rfl
    rw [decide_eq_true hd, Bool.not_true, cond_false]
    have fin : ¬ (1 < k ∧ s.getD 0 0 = 48) → loopK (σ := Int × Bool × Int) (fun p3 againp3 =>
    cond (decide (p3.2.2 < (List.length s : Int)))
      (cond (decide (p3.2.2 = (k : Int)))
        (bnd (IntKind.wrap .i64 (p3.2.2 + (1 : Int))) fun x4 =>
        againp3 (p3.1, p3.2.1, x4))
        (gd (0 ≤ p3.2.2 ∧ p3.2.2 < (List.length s : Int)) <|
        cond (decide ((UInt8.toNat (List.getD s (Int.toNat p3.2.2) 0) : Int) < (48 : Int)))
          (some ((0 : Int), (3 : Int)))
          (gd (0 ≤ p3.2.2 ∧ p3.2.2 < (List.length s : Int)) <|
          cond (decide ((57 : Int) < (UInt8.toNat (List.getD s (Int.toNat p3.2.2) 0) : Int)))
            (some ((0 : Int), (3 : Int)))
            (bnd (IntKind.wrap .i64 (p3.1 * (10 : Int))) fun x5 =>
            gd (0 ≤ p3.2.2 ∧ p3.2.2 < (List.length s : Int)) <|
            bnd (IntKind.wrap .i64 (x5 + (IntKind.wrap .i64 (UInt8.toNat (List.getD s (Int.toNat p3.2.2) 0) : Int)))) fun x6 =>
            bnd (IntKind.wrap .i64 (x6 - (48 : Int))) fun x7 =>
            cond (decide ((100000000 : Int) < x7))
              (bnd (IntKind.wrap .i64 (p3.2.2 + (1 : Int))) fun x8 =>
              againp3 ((100000000 : Int), true, x8))
              (bnd (IntKind.wrap .i64 (p3.2.2 + (1 : Int))) fun x9 =>
              againp3 (x7, p3.2.1, x9))))))
      (cond (p3.2.1)
        (some ((0 : Int), (2 : Int)))
        (some (p3.1, (0 : Int))))) ((0 : Int), false, (0 : Int)) = some (parseP s) := by
      intro hz
      have hres : parseP s = valR 0 ((s.drop 0).take (k - 0) ++ s.drop (max 0 (k + 1))) := by
        unfold parseP bytesP
        rw [hk, if_neg (by intro h; rcases h with h | h | h; exact h4 h; exact h hdot; exact hz h)]
        simp
      refine loopK_rule (fun x => ∃ i v : Nat, x = (((min v 100000000 : Nat) : Int), decide (100000000 < v), (i : Int)) ∧ i ≤ s.length ∧ parseP s = valR v ((s.drop i).take (k - i) ++ s.drop (max i (k + 1)))) (fun x => s.length - x.2.2.toNat) ⟨0, 0, rfl, by omega, hres⟩ rfl ?_
      rintro x again ⟨i, v, rfl, hi, hv⟩ hag
      simp only []
      by_cases hlt : i < s.length
      · rw [decide_eq_true (by omega), cond_true]
        by_cases hik : i = k
        · subst hik
          rw [decide_eq_true rfl, cond_true, bnd_eq, i64_wrap (by omega)]
          refine hag _ ⟨i + 1, v, by simp, by omega, ?_⟩ (by simp only []; omega)
          rw [hv]
          simp
        · rw [decide_eq_false (by omega), cond_false, gd_pos (by omega), Int.toNat_natCast, gd_pos (by omega)]
          have hR : (s.drop i).take (k - i) ++ s.drop (max i (k + 1)) = s.getD i 0 :: ((s.drop (i + 1)).take (k - (i + 1)) ++ s.drop (max (i + 1) (k + 1))) := by
            by_cases hlk : i < k
            · obtain ⟨j, hj⟩ : ∃ j, k - i = j + 1 := ⟨k - i - 1, by omega⟩
              rw [drop_getB hlt, hj, show k - (i + 1) = j by omega, show max i (k + 1) = k + 1 by omega, show max (i + 1) (k + 1) = k + 1 by omega]
              rfl
            · rw [show k - i = 0 by omega, show k - (i + 1) = 0 by omega, show max i (k + 1) = i by omega, show max (i + 1) (k + 1) = i + 1 by omega, List.take_zero, List.take_zero]
              exact drop_getB hlt
          rw [hR] at hv
          have hc := (s.getD i 0).toNat_lt
          obtain ⟨c, hce⟩ : ∃ c, s.getD i 0 = c := ⟨_, rfl⟩
          rw [hce] at hv hc ⊢
          obtain ⟨l, hl⟩ : ∃ l, (s.drop (i + 1)).take (k - (i + 1)) ++ s.drop (max (i + 1) (k + 1)) = l := ⟨_, rfl⟩
          rw [hl] at hv
          by_cases h1 : c.toNat < 48
          · rw [decide_eq_true (by omega), cond_true, hv]
            unfold valR
            rw [if_neg (by simp [isD]; omega)]
          rw [decide_eq_false (by omega), cond_false]
          by_cases h2 : 57 < c.toNat
          · rw [decide_eq_true (by omega), cond_true, hv]
            unfold valR
            rw [if_neg (by simp [isD]; omega)]
          rw [decide_eq_false (by omega), cond_false]
          have hv2 : parseP s = valR (v * 10 + (c.toNat - 48)) l := by
            rw [hv]
            unfold valR
            have : isD c = true := by simp [isD]; omega
            rw [List.all_cons, this, Bool.true_and]
            rfl
          rw [← hl] at hv2
          have hw : IntKind.i64.wrap (c.toNat : Int) = (c.toNat : Int) := i64_wrap (by omega)
          simp (disch := omega) only [bnd_eq, i64_wrap, gd_pos]
          by_cases hov : 100000000 < v * 10 + (c.toNat - 48)
          · rw [decide_eq_true (by omega), cond_true]
            refine hag _ ⟨i + 1, _, ?_, by omega, hv2⟩ (by simp only []; omega)
            rw [decide_eq_true hov, show min (v * 10 + (c.toNat - 48)) 100000000 = 100000000 by omega]
            rfl
          · rw [decide_eq_false (by omega), cond_false]
            refine hag _ ⟨i + 1, _, ?_, by omega, hv2⟩ (by simp only []; omega)
            rw [decide_eq_false hov, decide_eq_false (by omega), show min (v * 10 + (c.toNat - 48)) 100000000 = v * 10 + (c.toNat - 48) by omega, show min v 100000000 = v by omega]
            congr 1
            omega
      · rw [decide_eq_false (by omega), cond_false]
        have hnil : (s.drop i).take (k - i) ++ s.drop (max i (k + 1)) = [] := by
          rw [List.drop_eq_nil_of_le (by omega), List.drop_eq_nil_of_le (by omega)]; simp
        rw [hnil] at hv
        have hvn : valR v [] = if 100000000 < v then ((0, 2) : Int × Int) else ((v : Int), 0) := rfl
        rw [hv, hvn]
        by_cases hov : 100000000 < v
        · rw [decide_eq_true hov, cond_true, if_pos hov]
        · rw [decide_eq_false hov, cond_false, if_neg hov, show min v 100000000 = v by omega]
    by_cases hk1 : 1 < k
    · rw [decide_eq_true (by omega), cond_true, gd_pos (by omega)]
      have hb := byte_eq (c := s.getD 0 0) (k := 48) (by omega)
      by_cases h0 : s.getD 0 0 = 48
      · have : (((s.getD (Int.toNat 0) 0).toNat : Int) = 48) := hb.2 h0
        rw [decide_eq_true this, cond_true]
        unfold parseP
        rw [hk, if_pos (.inr (.inr ⟨hk1, h0⟩))]
      · have : ¬ (((s.getD (Int.toNat 0) 0).toNat : Int) = 48) := fun h => h0 (hb.1 h)
        rw [decide_eq_false this, cond_false]
        exact fin fun h => h0 h.2
    · rw [decide_eq_false (by omega), cond_false]
      exact fin fun h => hk1 h.1
  · have hb := byte_eq (c := s.getD k 0) (k := 46) (by omega)
    have : ¬ (((s.getD k 0).toNat : Int) = 46) := fun h => hdot (hb.1 h)
    rw [decide_eq_false this, Bool.not_false, cond_true]
    unfold parseP
    rw [hk, if_pos (.inr (.inl hdot))]

theorem findN_at {s : List UInt8} {c : UInt8} (h : findN s c < s.length) : s.getD (findN s c) 0 = c := by
  induction s with
  | nil => simp at h
  | cons x s ih =>
    rw [findN_cons] at h ⊢
    by_cases hx : x = c
    · rw [if_pos hx]; simpa using hx
    · rw [if_neg hx] at h ⊢
      simpa using ih (by simpa using h)
theorem findN_first {s : List UInt8} {c : UInt8} {j : Nat} (hj : j < s.length) (h : s.getD j 0 = c) : findN s c ≤ j := by
  induction s generalizing j with
  | nil => simp at hj
  | cons x s ih =>
    rw [findN_cons]
    split
    · omega
    · rename_i hx
      cases j with
      | zero => exact absurd (by simpa using h) hx
      | succ j => have := ih (j := j) (by simpa using hj) (by simpa using h); omega
theorem valN_pow : ∀ (l : List UInt8) (v : Nat), v * 10 ^ l.length ≤ valN v l
  | [], v => by simp [valN]
  | c :: l, v => by
    have := valN_pow l (v * 10 + (c.toNat - 48))
    show _ ≤ valN (v * 10 + (c.toNat - 48)) l
    refine Nat.le_trans ?_ this
    rw [List.length_cons, Nat.pow_succ, Nat.mul_comm (10 ^ l.length), ← Nat.mul_assoc]
    exact Nat.mul_le_mul_right _ (by omega)

theorem f12 (s : List UInt8) (hs : s.length ≤ 1000000) : F12 s = some (parseP s) := by
  unfold F12
  have hC : fCut s ([46] : List UInt8) = some (if findN s 46 < s.length then (s.take (findN s 46), s.drop (findN s 46 + 1), true) else (s, [], false)) := by
    unfold fCut
    rw [if_pos (by omega), cut_one]
  rw [hC, bindO_some, jn_eq]
  by_cases hf : findN s 46 < s.length
  · rw [if_pos hf]
    simp only [Bool.not_true, cond_false]
    obtain ⟨j, hj⟩ : ∃ j, findN s 46 = j := ⟨_, rfl⟩
    have hat := findN_at hf
    rw [hj] at hf hat ⊢
    have hdl : (s.drop (j + 1)).length = s.length - (j + 1) := by simp
    have htl : (s.take j).length = j := by simp; omega
    by_cases h2 : s.length - (j + 1) = 2
    · rw [hdl, decide_eq_true (by omega), Bool.not_true, cond_false]
      have hk : s.length - 3 = j := by omega
      by_cases h0 : j = 0
      · subst h0
        rw [decide_eq_true (by simp), cond_true]
        unfold parseP
        rw [if_pos (.inl (by omega))]
      have hne : s.take j ≠ [] := by intro h; rw [h] at htl; simp at htl; omega
      rw [decide_eq_false hne, cond_false, htl]
      have hapl : (s.take j ++ s.drop (j + 1)).length = s.length - 1 := by simp; omega
      have hb : 1000001 ≤ big := by unfold big; omega
      have hT : fTrim (s.take j ++ s.drop (j + 1)) ([48, 49, 50, 51, 52, 53, 54, 55, 56, 57] : List UInt8) = some (Lib.trimS (s.take j ++ s.drop (j + 1)) [48, 49, 50, 51, 52, 53, 54, 55, 56, 57]) := by
        unfold fTrim
        rw [if_pos ⟨by omega, by simp, by decide⟩]
      have hby : bytesP s = s.take j ++ s.drop (j + 1) := by unfold bytesP; rw [hk]
      -- where the ways meet
      have fin : ¬ (1 < j ∧ s.getD 0 0 = 48) → (gd (j + (s.length - (j + 1)) ≤ big) <|
              bnd (s.take j ++ s.drop (j + 1)) fun x3 =>
              bindO (fTrim x3 ([48, 49, 50, 51, 52, 53, 54, 55, 56, 57] : List UInt8)) fun y4 =>
              cond (!decide (y4 = ([] : List UInt8)))
                (some ((0 : Int), (3 : Int)))
                (bindO (fItoa (100000000 : Int)) fun y7 =>
  cond (decide ((List.length y7 : Int) < (j : Int)))
    (some ((0 : Int), (2 : Int)))
    (gd (j + (s.length - (j + 1)) ≤ big) <|
    bnd (s.take j ++ s.drop (j + 1)) fun x8 =>
    bindO (fAtoi x8) fun y9 =>
    cond (!(Option.isNone y9.2))
      (some ((0 : Int), (2 : Int)))
      (bindO (F16 y9.1) fun y10 =>
      cond (!y10)
        (some ((0 : Int), (2 : Int)))
        (some (y9.1, (0 : Int))))))) = some (parseP s) := by
        intro hz
        have hres : parseP s = valR 0 (s.take j ++ s.drop (j + 1)) := by
          unfold parseP
          rw [hby, hk, if_neg (by intro h; rcases h with h | h | h; omega; exact h hat; exact hz h)]
        rw [hres, gd_pos (by omega), bnd_eq, hT, bindO_some]
        by_cases hd : (s.take j ++ s.drop (j + 1)).all isD = true
        · rw [decide_eq_true ((trim_digs _).2 hd), Bool.not_true, cond_false]
          have hI : fItoa (100000000 : Int) = some [49, 48, 48, 48, 48, 48, 48, 48, 48] := by
            unfold fItoa
            rw [if_pos (by omega), show (100000000 : Int) = ((100000000 : Nat) : Int) from rfl, itoa_nat]
            simp (disch := omega) only [dec_ge, dec_lt]
            rfl
          rw [hI, bindO_some]
          have hv : valR 0 (s.take j ++ s.drop (j + 1)) = if 100000000 < valN 0 (s.take j ++ s.drop (j + 1)) then ((0, 2) : Int × Int) else (((valN 0 (s.take j ++ s.drop (j + 1)) : Nat) : Int), 0) := by unfold valR; rw [if_pos hd]
          rw [hv]
          by_cases h9 : 9 < j
          · rw [decide_eq_true (by simp; omega), cond_true, if_pos]
            -- ten digits that do not begin with a nought
            obtain ⟨c, r, hcr⟩ : ∃ c r, s.take j ++ s.drop (j + 1) = c :: r := by
              cases hx : s.take j ++ s.drop (j + 1) with
              | nil => rw [hx] at hapl; simp at hapl; omega
              | cons c r => exact ⟨c, r, rfl⟩
            have hc0 : s.getD 0 0 = c := by
              obtain ⟨x, s', rfl⟩ : ∃ x s', s = x :: s' := by cases s with | nil => simp at hf | cons x s' => exact ⟨x, s', rfl⟩
              obtain ⟨j', rfl⟩ : ∃ j', j = j' + 1 := ⟨j - 1, by omega⟩
              simp at hcr
              simpa using hcr.1
            have hc48 : c ≠ 48 := fun h => hz ⟨by omega, by rw [hc0, h]⟩
            rw [hcr] at hd hapl ⊢
            rw [List.all_cons, Bool.and_eq_true] at hd
            have hcd : 48 ≤ c.toNat ∧ c.toNat ≤ 57 := by simpa [isD] using hd.1
            have hcn : c.toNat ≠ 48 := fun h => hc48 (by rw [← UInt8.toNat_inj, h]; rfl)
            have hp := valN_pow r (0 * 10 + (c.toNat - 48))
            have hv : valN 0 (c :: r) = valN (0 * 10 + (c.toNat - 48)) r := rfl
            rw [hv]
            have hr : 9 ≤ r.length := by simp at hapl; omega
            have hpw : 10 ^ 9 ≤ 10 ^ r.length := Nat.pow_le_pow_right (by omega) hr
            have : 1 * 10 ^ r.length ≤ (0 * 10 + (c.toNat - 48)) * 10 ^ r.length := Nat.mul_le_mul_right _ (by omega)
            omega
          · rw [decide_eq_false (by simp; omega), cond_false, gd_pos (by omega), bnd_eq]
            have hA : fAtoi (s.take j ++ s.drop (j + 1)) = some (atoiN (s.take j ++ s.drop (j + 1))) := by unfold fAtoi; rw [if_pos (by omega)]
            rw [hA, bindO_some]
            rcases atoi_digits (s := s.take j ++ s.drop (j + 1)) (by intro h; rw [h] at hapl; simp at hapl; omega) hd with he | ⟨hge, v, x, he⟩
            · rw [he]
              simp only [Option.isNone_none, Bool.not_true, cond_false]
              rw [f16, bindO_some]
              by_cases hov : 100000000 < valN 0 (s.take j ++ s.drop (j + 1))
              · have : amount (valN 0 (s.take j ++ s.drop (j + 1)) : Nat) = false := by unfold amount; rw [decide_eq_false]; omega
                rw [this, if_pos hov]; rfl
              · have : amount (valN 0 (s.take j ++ s.drop (j + 1)) : Nat) = true := by unfold amount; rw [decide_eq_true]; omega
                rw [this, if_neg hov]; rfl
            · rw [he, if_pos (by omega)]; rfl
        · rw [decide_eq_false (fun h => hd ((trim_digs _).1 h)), Bool.not_false, cond_true]
          unfold valR
          rw [if_neg hd]
      by_cases hk1 : 1 < j
      · rw [decide_eq_true (by omega), cond_true, gd_pos (by omega)]
        have hb := byte_eq (c := s.getD 0 0) (k := 48) (by omega)
        have hg : (s.take j).getD (Int.toNat 0) 0 = s.getD 0 0 := by
          obtain ⟨x, s', rfl⟩ : ∃ x s', s = x :: s' := by cases s with | nil => simp at hf | cons x s' => exact ⟨x, s', rfl⟩
          obtain ⟨j', rfl⟩ : ∃ j', j = j' + 1 := ⟨j - 1, by omega⟩
          simp
        rw [hg]
        by_cases h0 : s.getD 0 0 = 48
        · have : (((s.getD 0 0).toNat : Int) = 48) := hb.2 h0
          rw [decide_eq_true this, cond_true]
          unfold parseP
          rw [hk, if_pos (.inr (.inr ⟨hk1, h0⟩))]
        · have : ¬ (((s.getD 0 0).toNat : Int) = 48) := fun h => h0 (hb.1 h)
          rw [decide_eq_false this, cond_false]
          exact fin fun h => h0 h.2
      · rw [decide_eq_false (by omega), cond_false]
        exact fin fun h => hk1 h.1
    · rw [hdl, decide_eq_false (by omega), Bool.not_false, cond_true]
      unfold parseP
      by_cases h4 : s.length < 4
      · rw [if_pos (.inl h4)]
      by_cases hdot : s.getD (s.length - 3) 0 = 46
      · have hle := findN_first (j := s.length - 3) (by omega) hdot
        rw [hj] at hle
        split
        · rfl
        · unfold valR
          rw [if_neg]
          intro hall
          rw [List.all_eq_true] at hall
          have : isD (s.getD j 0) = true := hall _ (by
            unfold bytesP
            refine List.mem_append_left _ ?_
            rw [List.getD_eq_getElem?_getD, List.getElem?_eq_getElem hf, Option.getD_some]
            exact List.mem_take_iff_getElem.2 ⟨j, by omega, rfl⟩)
          rw [hat] at this
          revert this; decide
      · rw [if_pos (.inr (.inl hdot))]
  · rw [if_neg hf]
    simp only [Bool.not_false, cond_true]
    unfold parseP
    by_cases h4 : s.length < 4
    · rw [if_pos (.inl h4)]
    · have hdot : s.getD (s.length - 3) 0 ≠ 46 := fun h => by
        have := findN_first (j := s.length - 3) (by omega) h
        omega
      rw [if_pos (.inr (.inl hdot))]
end Go.Proofs.YtekgjongmjnoaaaDoor
