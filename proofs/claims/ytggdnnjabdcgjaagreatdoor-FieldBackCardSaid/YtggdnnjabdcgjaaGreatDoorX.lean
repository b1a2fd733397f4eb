/-
  Chapter 7: texts joined, lists of texts compared, a field changed, as plain functions.
-/
import Derived.Test.YtggdnnjabdcgjaaGreatDoorV
namespace Go.Proofs.YtggdnnjabdcgjaaGreatDoor
open Go Go.Nu

theorem f14 (a b : List (List UInt8)) (ha : a.length ≤ 1000000) : F14 a b = some (decide (a = b)) := by
  unfold F14
  by_cases hb : a.length = b.length
  · rw [dT (by omega), Bool.not_true, cond_false]
    refine loopK_rule (fun p : Int => ∃ i : Nat, p = (i : Int) ∧ i ≤ a.length ∧ (a.drop i = b.drop i ↔ a = b)) (fun p => a.length - p.toNat) ⟨0, rfl, Nat.zero_le _, by simp⟩ rfl ?_
    rintro _ again ⟨i, rfl, hi, he⟩ hag
    by_cases hlt : i < a.length
    · rw [dT (by omega), cond_true, gd_pos (by omega), gd_pos (by omega), toNat_nat]
      rw [drop_getD [] hlt, drop_getD [] (hb ▸ hlt : i < b.length)] at he
      generalize a.getD i [] = x at *
      generalize b.getD i [] = y at *
      by_cases hxy : x = y
      · subst hxy
        rw [dT rfl, Bool.not_true, cond_false, bnd_eq, i64_wrap (by omega)]
        exact hag _ ⟨i + 1, by omega, by omega, by rw [← he]; simp⟩ (by omega)
      · rw [dF hxy, Bool.not_false, cond_true, dF (fun h => by rw [← he] at h; exact hxy (List.cons.inj h).1)]
    · rw [dF (by omega), cond_false]
      rw [List.drop_eq_nil_of_le (by omega), List.drop_eq_nil_of_le (by omega)] at he
      rw [dT (he.1 rfl)]
  · rw [dF (by omega), Bool.not_false, cond_true, dF (fun h => hb (by rw [h]))]

theorem join_snoc (sep x : List UInt8) : ∀ l : List (List UInt8), Lib.join (l ++ [x]) sep = if l = [] then x else (Lib.join l sep ++ sep) ++ x
  | [] => by rw [if_pos rfl]; exact Lib.join_one _ _
  | y :: l => by
    rw [if_neg (by simp), List.cons_append, Lib.join_cons, Lib.join_cons]
    unfold Lib.joinTail
    simp [List.append_assoc]
theorem join_len (sep : List UInt8) : ∀ l : List (List UInt8), (∀ x ∈ l, x.length ≤ 1000) → (Lib.join l sep).length ≤ l.length * (1000 + sep.length)
  | [], _ => by simp [Lib.join_nil]
  | y :: l, h => by
    rw [Lib.join_cons, List.length_append]
    have h1 := h y (by simp)
    have h2 : ∀ r : List (List UInt8), (∀ x ∈ r, x.length ≤ 1000) → (Lib.joinTail sep r).length ≤ r.length * (1000 + sep.length) := by
      intro r
      induction r with
      | nil => intro _; simp [Lib.joinTail]
      | cons z r ih =>
        intro hr
        have e1 := ih fun x hx => hr x (List.mem_cons_of_mem _ hx)
        have e2 := hr z (by simp)
        unfold Lib.joinTail at e1 ⊢
        rw [List.map_cons, List.flatten_cons, List.length_append, List.length_append, List.length_cons, Nat.add_mul]
        omega
    have h3 := h2 l fun x hx => h x (List.mem_cons_of_mem _ hx)
    rw [List.length_cons, Nat.add_mul]
    omega
theorem f34 (a : List (List UInt8)) (sep : List UInt8) (ha : a.length ≤ 1000) (hx : ∀ x ∈ a, x.length ≤ 1000) (hs : sep.length ≤ 1000) : F34 a sep = some (Lib.join a sep) := by
  unfold F34
  refine loopK_rule (fun p : List UInt8 × Int => ∃ i : Nat, p = (Lib.join (a.take i) sep, (i : Int)) ∧ i ≤ a.length) (fun p => a.length - p.2.toNat) ⟨0, rfl, Nat.zero_le _⟩ rfl ?_
  rintro _ again ⟨i, rfl, hi⟩ hag
  simp only []
  by_cases hlt : i < a.length
  · rw [dT (by omega), cond_true, jn_eq, toNat_nat]
    have e : a.take (i + 1) = a.take i ++ [a.getD i []] := by
      rw [List.take_succ_eq_append_getElem hlt, List.getD_eq_getElem?_getD, List.getElem?_eq_getElem hlt]; rfl
    have hj := join_snoc sep (a.getD i []) (a.take i)
    rw [← e] at hj
    have hb : (Lib.join (a.take i) sep).length ≤ 2000000 := by
      have := join_len sep (a.take i) fun x hx' => hx x (List.mem_of_mem_take hx')
      rw [List.length_take] at this
      have h2 : min i a.length * (1000 + sep.length) ≤ 1000 * 2000 := Nat.mul_le_mul (by omega) (by omega)
      omega
    have hm : (a.getD i []).length ≤ 1000 := hx _ (getD_mem [] hlt)
    generalize a.getD i [] = x at *
    by_cases h0 : (0 : Int) < (i : Int)
    · rw [dT h0, cond_true, gd_pos (by unfold big; omega)]
      simp only [bnd_eq]
      rw [gd_pos (by omega), gd_pos (by rw [List.length_append]; unfold big; omega), i64_wrap (by omega)]
      rw [if_neg (fun h => by
        have : (a.take i).length = 0 := by rw [h]; rfl
        rw [List.length_take] at this
        omega)] at hj
      exact hag _ ⟨i + 1, by rw [hj]; rfl, by omega⟩ (by simp only []; omega)
    · obtain rfl : i = 0 := by omega
      rw [dF h0, cond_false]
      simp only []
      rw [gd_pos (by omega), gd_pos (by unfold big; omega)]
      simp only [bnd_eq]
      rw [i64_wrap (by omega)]
      rw [if_pos (by rfl)] at hj
      exact hag _ ⟨1, by rw [hj]; rfl, by omega⟩ (by simp only []; omega)
  · rw [dF (by omega), cond_false, List.take_of_length_le (by omega)]
theorem allV_small {codes : List UInt8} {l : List Sub} {n : Nat} (h : ∀ s ∈ l, s.2.length ≤ n) : ∀ x ∈ allV codes l, x.length ≤ n := by
  intro x hx
  unfold allV at hx
  obtain ⟨s, hs, rfl⟩ := List.mem_map.1 hx
  exact h s (List.mem_filter.1 hs).1
theorem f17 (f : Field) (codes : List UInt8) (hl : f.2.2.1.length ≤ 1000) (hs : ∀ s ∈ f.2.2.1, s.2.length ≤ 1000) : F17 f codes = some (Lib.join (allV codes f.2.2.1) [32]) := by
  unfold F17
  rw [f15 f codes (by omega), bindO_some]
  have h1 := allV_len codes f.2.2.1
  have h2 := join_len [32] (allV codes f.2.2.1) (allV_small hs)
  have h3 : (allV codes f.2.2.1).length * (1000 + [(32 : UInt8)].length) ≤ 1000 * 1001 := Nat.mul_le_mul (by omega) (by simp)
  unfold fJoin
  rw [if_pos ⟨by omega, by omega⟩, bindO_some]
theorem f18 (f : Field) (codes : List UInt8) (hl : f.2.2.1.length ≤ 1000) (hs : ∀ s ∈ f.2.2.1, s.2.length ≤ 1000) (hc : codes.length ≤ 1000000) : F18 f codes = some (Lib.join (allV codes f.2.2.1) [32]) := by
  unfold F18
  rw [f16 f codes (by omega) hc, bindO_some, f34 _ _ (Nat.le_trans (allV_len _ _) hl) (allV_small hs) (by simp), bindO_some]

/-! ### changing -/
theorem f21 (f : Field) (c : UInt8) (v : List UInt8) (hl : f.2.2.1.length ≤ 1000000) : F21 f c v = some (setF f c v) := by
  obtain ⟨t, n, l, u⟩ := f
  simp only at hl
  unfold F21
  rw [gdN_nil2]
  simp only []
  have hcong : ∀ {x y : List Sub}, x = y → (some (t, n, x, u) : Option Field) = some (t, n, y, u) := fun h => by rw [h]
  unfold setF setL
  refine loopK_rule (fun p : List Sub × Bool × Int => ∃ (i : Nat) (acc : List Sub) (dn : Bool), p = (acc, dn, (i : Int)) ∧ i ≤ l.length ∧ acc.length ≤ i ∧
    ((v = [] ∧ dn = true ∧ acc ++ (l.drop i).filter (fun s => s.1 != c) = l.filter (fun s => s.1 != c)) ∨ (v ≠ [] ∧ dn = false ∧ acc ++ setS c v (l.drop i) = setS c v l) ∨ (v ≠ [] ∧ dn = true ∧ acc ++ l.drop i = setS c v l)))
    (fun p => l.length - p.2.2.toNat) ?_ rfl ?_
  · by_cases hv : v = []
    · exact ⟨0, [], true, by rw [dT hv]; rfl, Nat.zero_le _, Nat.zero_le _, .inl ⟨hv, rfl, rfl⟩⟩
    · exact ⟨0, [], false, by rw [dF hv]; rfl, Nat.zero_le _, Nat.zero_le _, .inr (.inl ⟨hv, rfl, rfl⟩)⟩
  rintro _ again ⟨i, acc, dn, rfl, hi, hacc, he⟩ hag
  simp only []
  by_cases hlt : i < l.length
  · rw [dT (by omega), cond_true, gd_pos (by omega), toNat_nat]
    rw [drop_getD (0, []) hlt] at he
    generalize l.getD i (0, []) = s at *
    have hbig : acc.length + 1 ≤ big := by unfold big; omega
    by_cases hs : s.1 = c
    · rw [dT (byN.2 hs), Bool.not_true, cond_false, jn_eq]
      rcases he with ⟨hv, rfl, he⟩ | ⟨hv, rfl, he⟩ | ⟨hv, rfl, he⟩
      · rw [dT hv]
        simp only [Bool.not_true, cond_false, gdN_self, bnd_eq]
        rw [i64_wrap (by omega)]
        refine hag _ ⟨i + 1, acc, true, by norm_cast, by omega, by omega, .inl ⟨hv, rfl, ?_⟩⟩ (by simp only []; omega)
        rw [← he, List.filter_cons, if_neg (by simp [hs])]
      · rw [dF hv]
        simp only [Bool.not_false, cond_true, cond_false, gdN_self, bnd_eq]
        rw [gd_pos (by simp only [List.length_singleton]; exact hbig), i64_wrap (by omega)]
        refine hag _ ⟨i + 1, acc ++ [(c, v)], true, by norm_cast, by omega, by simp; omega, .inr (.inr ⟨hv, rfl, ?_⟩)⟩ (by simp only []; omega)
        rw [← he]
        rw [show setS c v (s :: l.drop (i + 1)) = (s.1, v) :: l.drop (i + 1) from if_pos hs, hs, List.append_assoc]; rfl
      · rw [dF hv]
        simp only [Bool.not_false, cond_true, gdN_self, bnd_eq]
        rw [gd_pos (by simp only [List.length_singleton]; exact hbig), i64_wrap (by omega)]
        refine hag _ ⟨i + 1, acc ++ [s], true, by norm_cast, by omega, by simp; omega, .inr (.inr ⟨hv, rfl, ?_⟩)⟩ (by simp only []; omega)
        rw [← he]; simp
    · rw [dF (fun h => hs (byN.1 h))]
      simp only [Bool.not_false, cond_true, gdN_self, bnd_eq]
      rw [gd_pos (by simp only [List.length_singleton]; exact hbig), i64_wrap (by omega)]
      refine hag _ ⟨i + 1, acc ++ [s], dn, by norm_cast, by omega, by simp; omega, ?_⟩ (by simp only []; omega)
      rcases he with ⟨hv, rfl, he⟩ | ⟨hv, rfl, he⟩ | ⟨hv, rfl, he⟩
      · refine .inl ⟨hv, rfl, ?_⟩
        rw [← he, List.filter_cons, if_pos (by simpa using hs)]; simp
      · refine .inr (.inl ⟨hv, rfl, ?_⟩)
        rw [← he]
        simp only [setS, if_neg hs, List.append_assoc, List.singleton_append]
      · refine .inr (.inr ⟨hv, rfl, ?_⟩)
        rw [← he]; simp
  · rw [dF (by omega), cond_false]
    rw [List.drop_eq_nil_of_le (by omega)] at he
    rcases he with ⟨hv, rfl, he⟩ | ⟨hv, rfl, he⟩ | ⟨hv, rfl, he⟩
    · rw [Bool.not_true, cond_false, if_pos hv]
      exact hcong (by rw [← he]; simp)
    · simp only [Bool.not_false, cond_true, gdN_self, bnd_eq]
      rw [gd_pos (by simp only [List.length_singleton]; unfold big; omega), if_neg hv]
      exact hcong (by rw [← he]; rfl)
    · rw [Bool.not_true, cond_false, if_neg hv]
      exact hcong (by rw [← he]; simp)

/-! ### sizes -/
def smallB (f : Field) : Bool := decide (f.2.2.1.length ≤ 30) && (decide (f.1.length ≤ 300) && (decide (f.2.1.length ≤ 300) && f.2.2.1.all fun s => decide (s.2.length ≤ 300)))
theorem f11 (f : Field) : F11 f = some (smallB f) := by
  obtain ⟨t, n, l, u⟩ := f
  unfold F11 smallB
  simp only []
  by_cases h1 : l.length ≤ 30
  · rw [dF (by omega), cond_false, dT h1, Bool.true_and]
    by_cases h2 : t.length ≤ 300
    · rw [dF (by omega), cond_false, dT h2, Bool.true_and]
      by_cases h3 : n.length ≤ 300
      · rw [dF (by omega), cond_false, dT h3, Bool.true_and]
        refine loopK_rule (fun p : Int => ∃ i : Nat, p = (i : Int) ∧ i ≤ l.length ∧ ((l.drop i).all fun s => decide (s.2.length ≤ 300)) = l.all fun s => decide (s.2.length ≤ 300)) (fun p => l.length - p.toNat) ⟨0, rfl, Nat.zero_le _, rfl⟩ rfl ?_
        rintro _ again ⟨i, rfl, hi, he⟩ hag
        by_cases hlt : i < l.length
        · rw [dT (by omega), cond_true, gd_pos (by omega), toNat_nat]
          rw [drop_getD (0, []) hlt, List.all_cons] at he
          generalize l.getD i (0, []) = s at *
          by_cases hs : s.2.length ≤ 300
          · rw [dF (by omega), cond_false, bnd_eq, i64_wrap (by omega)]
            rw [dT hs, Bool.true_and] at he
            exact hag _ ⟨i + 1, by omega, by omega, he⟩ (by omega)
          · rw [dT (by omega), cond_true, ← he, dF hs, Bool.false_and]
        · rw [dF (by omega), cond_false, ← he, List.drop_eq_nil_of_le (by omega)]
          rfl
      · rw [dT (by omega), cond_true, dF h3, Bool.false_and]
    · rw [dT (by omega), cond_true, dF h2, Bool.false_and]
  · rw [dT (by omega), cond_true, dF h1, Bool.false_and]
structure SmallF (f : Field) : Prop where
  n : f.2.2.1.length ≤ 30
  v : ∀ s ∈ f.2.2.1, s.2.length ≤ 300
theorem small_of {f : Field} (h : smallB f = true) : SmallF f := by
  unfold smallB at h
  simp only [Bool.and_eq_true, decide_eq_true_eq, List.all_eq_true] at h
  exact ⟨h.1, h.2.2.2⟩
theorem SmallF.size {f : Field} (h : SmallF f) : sizeS f.2.2.1 := fun s hs => by have := h.v s hs; omega
end Go.Proofs.YtggdnnjabdcgjaaGreatDoor
