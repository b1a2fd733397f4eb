/-
  Chapter 44: path, number, split, Right of the program and of the reference. No condition.
-/
import Derived.Test.YthpgkpcnajookaaGreatDoorQ
namespace Go.Proofs.YthpgkpcnajookaaGreatDoor
open Go Go.Nu

theorem getD_nat {α : Type} (l : List α) (i : Nat) (d : α) : List.getD l (Int.toNat (i : Int)) d = l.getD i d := by rw [Int.toNat_natCast]
set_option maxRecDepth 10000 in
theorem path_mem (b : UInt8) : (([97, 98, 99, 100, 101, 102, 103, 104, 105, 106, 107, 108, 109, 110, 111, 112, 113, 114, 115, 116, 117, 118, 119, 120, 121, 122, 48, 49, 50, 51, 52, 53, 54, 55, 56, 57, 46, 95, 45, 47] : List UInt8).contains b) = (pcB b.toNat || decide (b = 47)) := by
  have : ∀ k : Fin 256, (([97, 98, 99, 100, 101, 102, 103, 104, 105, 106, 107, 108, 109, 110, 111, 112, 113, 114, 115, 116, 117, 118, 119, 120, 121, 122, 48, 49, 50, 51, 52, 53, 54, 55, 56, 57, 46, 95, 45, 47] : List UInt8).contains (UInt8.ofNat k)) = (pcB (UInt8.ofNat k).toNat || decide (UInt8.ofNat k = 47)) := by decide
  have h := this ⟨b.toNat, b.toNat_lt⟩
  simpa using h
def plainB (s : List UInt8) : Bool := decide (s ≠ []) && (decide (s ≠ [46]) && decide (s ≠ [46, 46]))
theorem all_and {α : Type} (l : List α) (p q : α → Bool) : (l.all fun x => p x && q x) = (l.all p && l.all q) := by
  induction l with
  | nil => rfl
  | cons a l ih =>
    rw [List.all_cons, List.all_cons, List.all_cons, ih]
    cases p a <;> cases q a <;> simp
theorem g29 (s : List UInt8) (hs : s.length ≤ 1000000) : F29 s = some (pathB s) := by
  unfold F29 pathB
  by_cases h0 : s = []
  · subst h0
    rw [segs_no (by simp)]; rfl
  have hp : 0 < s.length := List.length_pos_iff.2 h0
  rw [dF (by omega), cond_false]
  by_cases h60 : 60 < s.length
  · rw [dT (by omega), cond_true, dF (by omega), Bool.false_and]
  rw [dF (by omega), cond_false, dT (by omega), Bool.true_and]
  unfold fTrim
  rw [if_pos ⟨by omega, by simp, by decide⟩, bindO_some]
  have hall : (segs s).all partB = (s.all (fun c => pcB c.toNat || decide (c = 47)) && (segs s).all plainB) := by
    show ((segs s).all fun t => (t.all fun c => pcB c.toNat) && plainB t) = _
    rw [all_and, segs_all (p := fun c => pcB c.toNat) s.length s (Nat.le_refl _)]
  rw [hall]
  have ht := trim_all path_mem s
  cases hx : (s.all fun c => pcB c.toNat || decide (c = 47)) with
  | false =>
    rw [dF (fun e => by rw [ht.1 e] at hx; cases hx), Bool.not_false, cond_true, Bool.false_and]
  | true =>
    rw [dT (ht.2 hx), Bool.not_true, cond_false, Bool.true_and]
    unfold fSplit
    rw [if_pos ⟨by omega, by simp⟩, bindO_some, split_segs _ _ (by rw [Lib.count_one]; exact Nat.le_refl _)]
    have hlen : (segs s).length ≤ 1000000 := by
      rw [← split_segs _ _ (Nat.le_refl _)]
      have := split_len (c := 47) (s.count 47) s
      have := List.count_le_length (l := s) (a := (47 : UInt8))
      omega
    generalize segs s = l at hlen
    refine loopK_rule (fun x : Int => ∃ i : Nat, x = (i : Int) ∧ i ≤ l.length ∧ (l.drop i).all plainB = l.all plainB) (fun x => l.length - x.toNat) ⟨0, rfl, by omega, rfl⟩ rfl ?_
    rintro _ again ⟨i, rfl, h1, h2⟩ hag
    by_cases hc : i < l.length
    · rw [dT (by omega), cond_true, gd_pos (by omega), getD_nat]
      rw [drop_getD [] hc, List.all_cons] at h2
      rw [← h2]
      unfold plainB
      by_cases e1 : l.getD i [] = []
      · rw [dT e1, cond_true, e1]; rfl
      rw [dF e1, cond_false, dT e1]
      by_cases e2 : l.getD i [] = [46]
      · rw [dT e2, cond_true, e2]; rfl
      rw [dF e2, cond_false, dT e2]
      by_cases e3 : l.getD i [] = [46, 46]
      · rw [dT e3, cond_true, e3]; rfl
      rw [dF e3, cond_false, dT e3, Bool.true_and, Bool.true_and, Bool.true_and]
      simp only [bnd_eq]
      rw [i64_wrap (by omega)]
      have h2' : (l.drop (i + 1)).all plainB = l.all plainB := by
        rw [← h2]
        unfold plainB
        rw [dT e1, dT e2, dT e3]; rfl
      have := hag ((i : Int) + 1) ⟨i + 1, by simp, by omega, h2'⟩ (by omega)
      rw [this, ← h2']; rfl
    · rw [dF (by omega), cond_false, ← h2, List.drop_of_length_le (by omega)]; rfl

/-! ### numbers -/
def num? (t : List UInt8) : Option Nat := if t = [] ∨ 9 < t.length ∨ (t.getD 0 0 = 48 ∧ 1 < t.length) then none else if t.all isD = true then some (valN 0 t) else none
theorem numP_num (t : List UInt8) : numP t = match num? t with | some n => ((n : Int), true) | none => (0, false) := by
  unfold numP num?
  split
  · rfl
  · split <;> rfl
theorem dec_val : ∀ (k : Nat) (t : List UInt8), t.length ≤ k → t ≠ [] → t.all isD = true → ¬ (t.getD 0 0 = 48 ∧ 1 < t.length) → Lib.decDigits (valN 0 t) = t
  | 0, t, h, h0, _, _ => (h0 (List.length_eq_zero_iff.1 (by omega))).elim
  | k + 1, t, h, h0, hd, hz => by
    obtain ⟨u, c, rfl⟩ : ∃ u c, t = u ++ [c] := ⟨t.dropLast, t.getLast h0, (List.dropLast_concat_getLast h0).symm⟩
    rw [List.all_append, Bool.and_eq_true] at hd
    have hc : 48 ≤ c.toNat ∧ c.toNat ≤ 57 := by simpa [isD] using hd.2
    have hv : valN 0 (u ++ [c]) = valN 0 u * 10 + (c.toNat - 48) := by rw [valN_app]; rfl
    have hb : UInt8.ofNat (48 + (c.toNat - 48)) = c := by
      rw [show 48 + (c.toNat - 48) = c.toNat by omega, UInt8.ofNat_toNat]
    rw [hv]
    by_cases hu : u = []
    · subst hu
      rw [dec_lt (by simp [valN]; omega)]
      simp only [valN, List.foldl_nil, Nat.zero_mul, Nat.zero_add, List.nil_append]
      rw [hb]
    · have hul : 0 < u.length := List.length_pos_iff.2 hu
      have hhead : u.getD 0 0 = (u ++ [c]).getD 0 0 := by
        cases u with
        | nil => exact (hu rfl).elim
        | cons a u => rfl
      have hz' : ¬ u.getD 0 0 = 48 := fun e => hz ⟨by rw [← hhead, e], by rw [List.length_append, List.length_singleton]; omega⟩
      have ih := dec_val k u (by rw [List.length_append, List.length_singleton] at h; omega) hu hd.1 (fun e => hz' e.1)
      have hpos : 0 < valN 0 u := by
        rcases Nat.eq_zero_or_pos (valN 0 u) with e | e
        · exfalso
          rw [e, dec_lt (by omega)] at ih
          exact hz' (by rw [← ih]; rfl)
        · exact e
      rw [dec_ge (by omega), show (valN 0 u * 10 + (c.toNat - 48)) / 10 = valN 0 u by omega, show (valN 0 u * 10 + (c.toNat - 48)) % 10 = c.toNat - 48 by omega, ih, hb]
theorem num_dec {t : List UInt8} {n : Nat} (h : num? t = some n) : t = Lib.decDigits n ∧ n < 1000000000 := by
  unfold num? at h
  split at h
  · cases h
  · rename_i h1
    split at h
    · rename_i h2
      cases h
      refine ⟨(dec_val _ t (Nat.le_refl _) (fun e => h1 (.inl e)) h2 (fun e => h1 (.inr (.inr e)))).symm, ?_⟩
      have := valN_lt t 0 0 h2 (by simp)
      refine Nat.lt_of_lt_of_le this ?_
      have : 10 ^ (0 + t.length) ≤ 10 ^ 9 := Nat.pow_le_pow_right (by omega) (by
        have : ¬ 9 < t.length := fun e => h1 (.inr (.inl e))
        omega)
      simpa using this
    · cases h
theorem dec_len9 : ∀ (k u : Nat), u < 10 ^ (k + 1) → (Lib.decDigits u).length ≤ k + 1
  | 0, u, h => by rw [dec_lt (by simpa using h)]; simp
  | k + 1, u, h => by
    by_cases h1 : u < 10
    · rw [dec_lt h1]; simp
    · rw [dec_ge h1, List.length_append, List.length_singleton]
      have := dec_len9 k (u / 10) (by rw [Nat.pow_succ] at h; omega)
      omega
theorem num_of {n : Nat} (h : n < 1000000000) : num? (Lib.decDigits n) = some n := by
  unfold num?
  have hd := dec_digits n
  have hl := dec_len9 8 n (by simpa using h)
  rw [if_neg, if_pos hd.1, hd.2.1]
  rintro (e | e | ⟨e1, e2⟩)
  · exact hd.2.2.1 e
  · omega
  · by_cases hn : n = 0
    · subst hn
      rw [dec_lt (by omega)] at e2
      simp at e2
    · have := hd.2.2.2 hn
      cases hx : Lib.decDigits n with
      | nil => exact hd.2.2.1 hx
      | cons a l =>
        rw [hx] at e1 this
        exact this (by simp at e1 ⊢; exact e1)
theorem g44 (s : List UInt8) (m : Nat) (hm : m ≤ 1000000) (hs : s.length ≤ 1000000) : ∃ x : Int, F44 s m = some (match num? s with | some n => if n ≤ m then ((n : Int), true) else (x, false) | none => (x, false)) := by
  unfold F44 fAtoi
  rw [if_pos (by omega), bindO_some]
  have hgo : ∀ n : Nat, n ≤ m → s = Lib.decDigits n → atoiN s = ((n : Int), none) := by
    intro n hn e
    have hd := dec_digits n
    rw [← e] at hd
    rw [atoi_digits hd.2.2.1 hd.1 (by rw [hd.2.1]; omega), hd.2.1]
  refine ⟨(atoiN s).1, ?_⟩
  by_cases hx : ∃ n : Nat, n ≤ m ∧ s = Lib.decDigits n
  · obtain ⟨n, hn, e⟩ := hx
    rw [hgo n hn e]
    simp only [Option.isNone_none, cond_true]
    rw [dT (by omega), cond_true, dT (by omega), cond_true]
    unfold fItoa
    rw [if_pos (by omega), bindO_some, itoa_nat, ← e, dT rfl]
    rw [e, num_of (by omega)]
    simp only []
    rw [if_pos hn]
  · have hr : (match num? s with | some n => if n ≤ m then ((n : Int), true) else ((atoiN s).1, false) | none => ((atoiN s).1, false)) = ((atoiN s).1, false) := by
      cases h : num? s with
      | none => rfl
      | some n =>
        simp only []
        rw [if_neg (fun hn => hx ⟨n, hn, (num_dec h).1⟩)]
    rw [hr]
    cases h1 : (atoiN s).2.isNone with
    | false => rfl
    | true =>
      rw [cond_true]
      by_cases h2 : 0 ≤ (atoiN s).1
      · rw [dT h2, cond_true]
        by_cases h3 : (atoiN s).1 ≤ m
        · rw [dT h3, cond_true]
          unfold fItoa
          rw [if_pos (by omega), bindO_some, dF]
          intro e
          obtain ⟨n, hn⟩ : ∃ n : Nat, (atoiN s).1 = n := ⟨(atoiN s).1.toNat, by omega⟩
          rw [hn, itoa_nat] at e
          exact hx ⟨n, by omega, e.symm⟩
        · rw [dF h3]; rfl
      · rw [dF h2]; rfl

end Go.Proofs.YthpgkpcnajookaaGreatDoor
