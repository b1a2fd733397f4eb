/-
  Chapter 7: comparing, reading and changing subfields, as plain functions.
-/
import Derived.Test.YtggdnnjabdcgjaaGreatDoorU
import Derived.Lib.Join
namespace Go.Proofs.YtggdnnjabdcgjaaGreatDoor
open Go Go.Nu

theorem all_true {α : Type} (d : α) (l : List α) {i : Nat} (h : i < l.length) : l.drop i = l.getD i d :: l.drop (i + 1) := drop_getD d h
theorem byN {a b : UInt8} : ((a.toNat : Int) = (b.toNat : Int)) ↔ a = b := by
  rw [← UInt8.toNat_inj]; omega

/-! ### comparing -/
theorem eqLoop (a b : List Sub) (ha : a.length ≤ 1000000) (hb : a.length = b.length) :
    (loopK (σ := Int) (fun p1 againp1 =>
      cond (decide (p1 < (List.length a : Int)))
        (gd (0 ≤ p1 ∧ p1 < (List.length a : Int)) <|
        gd (0 ≤ p1 ∧ p1 < (List.length b : Int)) <|
        cond (!(decide ((UInt8.toNat ((List.getD a (Int.toNat p1) (0, [])).1) : Int) = (UInt8.toNat ((List.getD b (Int.toNat p1) (0, [])).1) : Int)) && (decide ((List.getD a (Int.toNat p1) (0, [])).2 = (List.getD b (Int.toNat p1) (0, [])).2) && true)))
          (some false)
          (bnd (IntKind.wrap .i64 (p1 + (1 : Int))) fun x2 =>
          againp1 x2))
        (some true)) (0 : Int)) = some (decide (a = b)) := by
  refine loopK_rule (fun p : Int => ∃ i : Nat, p = (i : Int) ∧ i ≤ a.length ∧ (a.drop i = b.drop i ↔ a = b)) (fun p => a.length - p.toNat) ⟨0, rfl, Nat.zero_le _, by simp⟩ rfl ?_
  rintro _ again ⟨i, rfl, hi, he⟩ hag
  by_cases hlt : i < a.length
  · rw [dT (by omega), cond_true, gd_pos (by omega), gd_pos (by omega), toNat_nat]
    rw [drop_getD (0, []) hlt, drop_getD (0, []) (hb ▸ hlt : i < b.length)] at he
    generalize a.getD i (0, []) = x at *
    generalize b.getD i (0, []) = y at *
    by_cases hxy : x = y
    · subst hxy
      rw [dT rfl, dT rfl]
      simp only [Bool.and_self, Bool.not_true, cond_false, bnd_eq]
      rw [i64_wrap (by omega)]
      exact hag _ ⟨i + 1, by omega, by omega, by rw [← he]; simp⟩ (by omega)
    · rw [show (decide ((UInt8.toNat x.1 : Int) = (UInt8.toNat y.1 : Int)) && (decide (x.2 = y.2) && true)) = false by
        rw [Bool.and_true, Bool.and_eq_false_iff, decide_eq_false_iff_not, decide_eq_false_iff_not, byN]
        by_cases h1 : x.1 = y.1
        · exact .inr fun h2 => hxy (Prod.ext h1 h2)
        · exact .inl h1]
      rw [Bool.not_false, cond_true, dF (fun h => by rw [← he] at h; exact hxy (List.cons.inj h).1)]
  · rw [dF (by omega), cond_false]
    rw [List.drop_eq_nil_of_le (by omega), List.drop_eq_nil_of_le (by omega)] at he
    rw [dT (he.1 rfl)]
theorem f56 (a b : List Sub) (ha : a.length ≤ 1000000) : F56 a b = some (decide (a = b)) := by
  unfold F56
  by_cases hl : a.length = b.length
  · rw [dT (by omega), Bool.not_true, cond_false, eqLoop a b ha hl]
  · rw [dF (by omega), Bool.not_false, cond_true, dF (fun h => hl (by rw [h]))]
theorem f28 (f g : Field) (ha : f.2.2.1.length ≤ 1000000) : F28 f g = some (decide (f = g)) := by
  obtain ⟨t, n, l, u⟩ := f
  obtain ⟨t', n', l', u'⟩ := g
  unfold F28
  simp only at ha ⊢
  rw [f56 l l' ha]
  by_cases h1 : t = t'
  · by_cases h2 : n = n'
    · by_cases h3 : u = u'
      · subst h1 h2 h3; simp [bindO_some]
      · simp [h3]
    · simp [h2]
  · simp [h1]
theorem f19 (f g : Field) (ha : f.2.2.1.length ≤ 1000000) : F19 f g = some (decide (f = g)) := by
  obtain ⟨t, n, l, u⟩ := f
  obtain ⟨t', n', l', u'⟩ := g
  unfold F19
  simp only at ha ⊢
  by_cases h1 : t = t'
  · by_cases h2 : n = n'
    · by_cases h3 : u = u'
      · by_cases hl : l.length = l'.length
        · rw [eqLoop l l' ha hl]
          subst h1 h2 h3; simp [hl]
        · have : l ≠ l' := fun h => hl (by rw [h])
          subst h1 h2 h3
          rw [dT rfl, dT rfl, dT rfl, Bool.not_true, cond_false, cond_false, cond_false, dF (by omega), Bool.not_false, cond_true, dF (fun h => this (by cases h; rfl))]
      · simp [h3]
    · simp [h2]
  · simp [h1]

/-! ### reading -/
def getL (c : UInt8) : List Sub → List UInt8 × Bool
  | [] => ([], false)
  | s :: l => if s.1 = c then (s.2, true) else getL c l
def idxL (c : UInt8) : List Sub → Int → Int
  | [], _ => -1
  | s :: l, i => if s.1 = c then i else idxL c l (i + 1)
theorem f29 (l : List Sub) (c : UInt8) (hl : l.length ≤ 1000000) : F29 l (c, ()) = some (idxL c l 0) := by
  unfold F29
  refine loopK_rule (fun p : Int => ∃ i : Nat, p = (i : Int) ∧ i ≤ l.length ∧ idxL c (l.drop i) i = idxL c l 0) (fun p => l.length - p.toNat) ⟨0, rfl, Nat.zero_le _, rfl⟩ rfl ?_
  rintro _ again ⟨i, rfl, hi, he⟩ hag
  by_cases hlt : i < l.length
  · rw [dT (by omega), cond_true, gd_pos (by omega), toNat_nat]
    rw [drop_getD (0, []) hlt] at he
    generalize l.getD i (0, []) = s at *
    unfold F30
    rw [bindO_some]
    by_cases hs : s.1 = c
    · rw [dT (byN.2 hs), cond_true]
      simp only [idxL, hs, if_true] at he
      rw [he]
    · rw [dF (fun h => hs (byN.1 h)), cond_false, bnd_eq, i64_wrap (by omega)]
      simp only [idxL, hs, if_false] at he
      exact hag _ ⟨i + 1, by omega, by omega, by rw [← he]; norm_cast⟩ (by omega)
  · rw [dF (by omega), cond_false]
    rw [List.drop_eq_nil_of_le (by omega)] at he
    simp only [idxL] at he
    rw [← he]
theorem idxL_get (c : UInt8) : ∀ (l : List Sub) (i : Nat), (idxL c l i = -1 ∧ getL c l = ([], false)) ∨ ∃ k, k < l.length ∧ idxL c l i = ((i + k : Nat) : Int) ∧ getL c l = ((l.getD k (0, [])).2, true)
  | [], i => .inl ⟨rfl, rfl⟩
  | s :: l, i => by
    unfold idxL getL
    by_cases hs : s.1 = c
    · rw [if_pos hs, if_pos hs]
      exact .inr ⟨0, by simp, by simp, rfl⟩
    · rw [if_neg hs, if_neg hs]
      rcases idxL_get c l (i + 1) with ⟨e1, e2⟩ | ⟨k, h1, e1, e2⟩
      · exact .inl ⟨by rw [← e1]; norm_cast, e2⟩
      · exact .inr ⟨k + 1, by simpa using h1, by rw [show ((i : Int) + 1) = ((i + 1 : Nat) : Int) by norm_cast, e1]; congr 1; omega, e2⟩
theorem f12 (f : Field) (c : UInt8) (hl : f.2.2.1.length ≤ 1000000) : F12 f c = some (getL c f.2.2.1) := by
  unfold F12
  rw [f29 _ c hl, bindO_some]
  rcases idxL_get c f.2.2.1 0 with ⟨e1, e2⟩ | ⟨k, h1, e1, e2⟩
  · rw [show idxL c f.2.2.1 0 = -1 from e1, e2, dT (by omega), cond_true]
  · rw [show idxL c f.2.2.1 0 = (k : Int) by rw [show (0 : Int) = ((0 : Nat) : Int) from rfl, e1]; congr 1; omega, e2, dF (by omega), cond_false, gd_pos (by omega), toNat_nat]
theorem f13 (f : Field) (c : UInt8) (hl : f.2.2.1.length ≤ 1000000) : F13 f c = some (getL c f.2.2.1) := by
  unfold F13
  refine loopK_rule (fun p : Int => ∃ i : Nat, p = (i : Int) ∧ i ≤ f.2.2.1.length ∧ getL c (f.2.2.1.drop i) = getL c f.2.2.1) (fun p => f.2.2.1.length - p.toNat) ⟨0, rfl, Nat.zero_le _, rfl⟩ rfl ?_
  rintro _ again ⟨i, rfl, hi, he⟩ hag
  by_cases hlt : i < f.2.2.1.length
  · rw [dT (by omega), cond_true, gd_pos (by omega), gd_pos (by omega), toNat_nat]
    rw [drop_getD (0, []) hlt] at he
    generalize f.2.2.1.getD i (0, []) = s at *
    by_cases hs : s.1 = c
    · rw [dT (byN.2 hs), cond_true]
      simp only [getL, hs, if_true] at he
      rw [he]
    · rw [dF (fun h => hs (byN.1 h)), cond_false, bnd_eq, i64_wrap (by omega)]
      simp only [getL, hs, if_false] at he
      exact hag _ ⟨i + 1, by omega, by omega, he⟩ (by omega)
  · rw [dF (by omega), cond_false]
    rw [List.drop_eq_nil_of_le (by omega)] at he
    rw [← he]; rfl
def codeIn (codes : List UInt8) (c : UInt8) : Bool := decide (codes = []) || codes.contains c
def allV (codes : List UInt8) (l : List Sub) : List (List UInt8) := (l.filter fun s => codeIn codes s.1).map (·.2)
theorem indexByte_in (c : UInt8) : ∀ l : List UInt8, decide ((0 : Int) ≤ Lib.indexByte l c) = l.contains c
  | [] => by simp [Lib.indexByte]
  | b :: l => by
    have ih := indexByte_in c l
    unfold Lib.indexByte
    by_cases h : b = c
    · simp [h]
    · have hb : (b == c) = false := by simpa using h
      have hc : (c == b) = false := by simpa using Ne.symm h
      rw [hb, List.contains_cons, hc, Bool.false_or, ← ih]
      simp only [Bool.false_eq_true, if_false]
      by_cases h2 : Lib.indexByte l c = -1
      · simp [h2]
      · have h3 : (Lib.indexByte l c == -1) = false := by simpa using h2
        rw [h3]
        simp only [Bool.false_eq_true, if_false, decide_eq_decide]
        have : -1 ≤ Lib.indexByte l c := by
          clear ih h hb hc h2 h3
          induction l with
          | nil => simp [Lib.indexByte]
          | cons x l ih =>
            unfold Lib.indexByte
            split
            · omega
            · split <;> omega
        omega
theorem allV_take {codes : List UInt8} {l : List Sub} {i : Nat} (h : i < l.length) : allV codes (l.take (i + 1)) = allV codes (l.take i) ++ (if codeIn codes (l.getD i (0, [])).1 then [(l.getD i (0, [])).2] else []) := by
  have e : l.take (i + 1) = l.take i ++ [l.getD i (0, [])] := by
    rw [List.take_succ_eq_append_getElem h, List.getD_eq_getElem?_getD, List.getElem?_eq_getElem h]; rfl
  rw [e]
  generalize l.getD i (0, []) = s
  unfold allV
  rw [List.filter_append, List.map_append]
  congr 1
  by_cases hc : codeIn codes s.1 = true
  · simp [hc]
  · simp [hc]
theorem allV_len (codes : List UInt8) (l : List Sub) : (allV codes l).length ≤ l.length := by
  unfold allV
  rw [List.length_map]
  exact List.length_filter_le _ _
theorem gdN_nil2 {α β : Type} {x : Option β} : gdN (List.length ([] : List α)) (List.length ([] : List α)) x = x := if_pos rfl
theorem f15 (f : Field) (codes : List UInt8) (hl : f.2.2.1.length ≤ 1000000) : F15 f codes = some (allV codes f.2.2.1) := by
  unfold F15
  rw [gdN_nil2]
  refine loopK_rule (fun p : List (List UInt8) × Int => ∃ i : Nat, p = (allV codes (f.2.2.1.take i), (i : Int)) ∧ i ≤ f.2.2.1.length) (fun p => f.2.2.1.length - p.2.toNat) ⟨0, rfl, Nat.zero_le _⟩ rfl ?_
  rintro _ again ⟨i, rfl, hi⟩ hag
  simp only []
  by_cases hlt : i < f.2.2.1.length
  · rw [dT (by omega), cond_true, gd_pos (by omega), toNat_nat, jn_eq]
    have htk := allV_take (codes := codes) hlt
    have hlen := allV_len codes (f.2.2.1.take i)
    rw [List.length_take] at hlen
    generalize f.2.2.1.getD i (0, []) = s at *
    have hx : ∀ k : Int → Option (List (List UInt8)), bindO (fIdxB codes s.1) k = k (Lib.indexByte codes s.1) := fun k => rfl
    have hin := indexByte_in s.1 codes
    cases hc : codeIn codes s.1 with
    | true =>
      rw [hc, if_pos rfl] at htk
      by_cases h0 : codes = []
      · rw [dT h0]
        simp only [cond_true, gdN_self, bnd_eq]
        rw [gd_pos (by simp only [List.length_singleton]; unfold big; omega), i64_wrap (by omega)]
        exact hag _ ⟨i + 1, by rw [htk]; rfl, by omega⟩ (by simp only []; omega)
      · have h1 : codes.contains s.1 = true := by unfold codeIn at hc; rwa [dF h0, Bool.false_or] at hc
        rw [dF h0, cond_false, hx, hin, h1]
        simp only [cond_true, gdN_self, bnd_eq]
        rw [gd_pos (by simp only [List.length_singleton]; unfold big; omega), i64_wrap (by omega)]
        exact hag _ ⟨i + 1, by rw [htk]; rfl, by omega⟩ (by simp only []; omega)
    | false =>
      rw [hc] at htk
      have h0 : codes ≠ [] := by
        rintro rfl
        simp [codeIn] at hc
      have h1 : codes.contains s.1 = false := by unfold codeIn at hc; rwa [dF h0, Bool.false_or] at hc
      rw [dF h0, cond_false, hx, hin, h1]
      simp only [cond_false, gdN_self, bnd_eq]
      rw [i64_wrap (by omega)]
      exact hag _ ⟨i + 1, by rw [htk]; simp, by omega⟩ (by simp only []; omega)
  · rw [dF (by omega), cond_false, List.take_of_length_le (by omega)]
theorem f32 (c : UInt8) (codes : List UInt8) (hl : codes.length ≤ 1000000) : F32 c codes = some (codeIn codes c) := by
  unfold F32
  refine loopK_rule (fun p : Int => ∃ i : Nat, p = (i : Int) ∧ i ≤ codes.length ∧ (codes.drop i).contains c = codes.contains c) (fun p => codes.length - p.toNat) ⟨0, rfl, Nat.zero_le _, rfl⟩ rfl ?_
  rintro _ again ⟨i, rfl, hi, he⟩ hag
  by_cases hlt : i < codes.length
  · rw [dT (by omega), cond_true, gd_pos (by omega), toNat_nat]
    rw [drop_getD 0 hlt] at he
    generalize codes.getD i 0 = x at *
    by_cases hs : x = c
    · rw [dT (byN.2 hs), cond_true]
      unfold codeIn
      rw [← he, hs]
      simp
    · rw [dF (fun h => hs (byN.1 h)), cond_false, bnd_eq, i64_wrap (by omega)]
      rw [List.contains_cons, show (c == x) = false by simpa using Ne.symm hs, Bool.false_or] at he
      exact hag _ ⟨i + 1, by omega, by omega, he⟩ (by omega)
  · rw [dF (by omega), cond_false]
    rw [List.drop_eq_nil_of_le (by omega)] at he
    unfold codeIn
    rw [← he]
    simp
theorem f16 (f : Field) (codes : List UInt8) (hl : f.2.2.1.length ≤ 1000000) (hc : codes.length ≤ 1000000) : F16 f codes = some (allV codes f.2.2.1) := by
  unfold F16
  rw [gdN_nil2]
  refine loopK_rule (fun p : List (List UInt8) × Int => ∃ i : Nat, p = (allV codes (f.2.2.1.take i), (i : Int)) ∧ i ≤ f.2.2.1.length) (fun p => f.2.2.1.length - p.2.toNat) ⟨0, rfl, Nat.zero_le _⟩ rfl ?_
  rintro _ again ⟨i, rfl, hi⟩ hag
  simp only []
  by_cases hlt : i < f.2.2.1.length
  · rw [dT (by omega), cond_true, gd_pos (by omega), toNat_nat]
    have htk := allV_take (codes := codes) hlt
    have hlen := allV_len codes (f.2.2.1.take i)
    rw [List.length_take] at hlen
    rw [f32 _ _ hc, bindO_some]
    generalize f.2.2.1.getD i (0, []) = s at *
    cases hc : codeIn codes s.1 with
    | true =>
      rw [hc, if_pos rfl] at htk
      rw [cond_true, gd_pos (by omega)]
      simp only [gdN_self, bnd_eq]
      rw [gd_pos (by simp only [List.length_singleton]; unfold big; omega), i64_wrap (by omega)]
      exact hag _ ⟨i + 1, by rw [htk]; rfl, by omega⟩ (by simp only []; omega)
    | false =>
      rw [hc] at htk
      simp only [cond_false, gdN_self, bnd_eq]
      rw [i64_wrap (by omega)]
      exact hag _ ⟨i + 1, by rw [htk]; simp, by omega⟩ (by simp only []; omega)
  · rw [dF (by omega), cond_false, List.take_of_length_le (by omega)]
end Go.Proofs.YtggdnnjabdcgjaaGreatDoor
