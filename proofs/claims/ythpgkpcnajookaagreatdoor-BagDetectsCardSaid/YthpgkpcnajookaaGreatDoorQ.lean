/-
  Chapter 44: which strings are paths; what Right, number, split give. No condition.
-/
import Derived.Test.YthpgkpcnajookaaGreatDoorP
namespace Go.Proofs.YthpgkpcnajookaaGreatDoor
open Go Go.Nu

/-! ### parts and paths -/
theorem all_bad_at {s : List UInt8} {p : UInt8 → Bool} {i : Nat} (h : i < s.length) (hp : p (s.getD i 0) = false) : s.all p = false := by
  cases hx : s.all p with
  | false => rfl
  | true =>
    rw [List.all_eq_true] at hx
    rw [hx _ (getD_mem 0 h)] at hp
    cases hp

theorem g51 (s : List UInt8) (hs : s.length ≤ 1000000) : F51 s = some (partB s) := by
  unfold F51 partB
  refine loopK_rule (fun x => ∃ i : Nat, x = i ∧ i ≤ s.length ∧ (s.take i).all (fun c => pcB c.toNat) = true) (fun x => s.length - x.toNat) ⟨0, rfl, by omega, by simp⟩ rfl ?_
  rintro _ again ⟨i, rfl, h1, h2⟩ hag
  by_cases hc : i < s.length
  · rw [dT (by omega), cond_true, gd_pos (by omega), toNat_nat]
    have hnext : pcB (s.getD i 0).toNat = true → again ((i : Int) + 1) = some ((s.all fun c => pcB c.toNat) && (decide (s ≠ []) && (decide (s ≠ [46]) && decide (s ≠ [46, 46])))) := by
      intro hx
      refine hag _ ⟨i + 1, by simp, by omega, ?_⟩ (by omega)
      have htk : s.take (i + 1) = s.take i ++ [s.getD i 0] := by
        rw [List.take_succ_eq_append_getElem hc, List.getD_eq_getElem?_getD, List.getElem?_eq_getElem hc]; rfl
      rw [htk, List.all_append, h2, List.all_cons, List.all_nil, hx]; rfl
    have hno : pcB (s.getD i 0).toNat = false → (some false : Option Bool) = some ((s.all fun c => pcB c.toNat) && (decide (s ≠ []) && (decide (s ≠ [46]) && decide (s ≠ [46, 46])))) := by
      intro hx
      rw [all_bad_at (p := fun c => pcB c.toNat) hc hx, Bool.false_and]
    simp only [bnd]
    rw [i64_wrap (by omega)]
    generalize some ((s.all fun c => pcB c.toNat) && (decide (s ≠ []) && (decide (s ≠ [46]) && decide (s ≠ [46, 46])))) = A at hnext hno ⊢
    unfold pcB at hnext hno
    rw [decide_eq_true_eq] at hnext
    rw [decide_eq_false_iff_not] at hno
    generalize (s.getD i 0).toNat = n at *
    by_cases c1 : 97 ≤ n <;> by_cases c2 : n ≤ 122 <;> by_cases c3 : 48 ≤ n <;> by_cases c4 : n ≤ 57 <;> by_cases c5 : n = 46 <;> by_cases c6 : n = 95 <;> by_cases c7 : n = 45 <;>
      first
        | (exfalso; omega)
        | (simp only [show ((97 : Int) ≤ (n : Int)) ↔ 97 ≤ n by omega, show ((n : Int) ≤ 122) ↔ n ≤ 122 by omega, show ((48 : Int) ≤ (n : Int)) ↔ 48 ≤ n by omega, show ((n : Int) ≤ 57) ↔ n ≤ 57 by omega, show ((n : Int) = 46) ↔ n = 46 by omega, show ((n : Int) = 95) ↔ n = 95 by omega, show ((n : Int) = 45) ↔ n = 45 by omega, c1, c2, c3, c4, c5, c6, c7,
            decide_true, decide_false, cond_true, cond_false, Bool.not_true, Bool.not_false]
           first
             | (refine hnext ?_; omega)
             | (refine hno ?_; omega))
  · rw [dF (by omega), cond_false]
    rw [List.take_of_length_le (by omega)] at h2
    rw [h2, Bool.true_and]
    by_cases e1 : s = []
    · rw [dT e1, Bool.not_true, cond_false, dF (by simpa using e1)]; rfl
    rw [dF e1, Bool.not_false, cond_true, dT e1]
    by_cases e2 : s = [46]
    · rw [dT e2, Bool.not_true, cond_false, dF (by simpa using e2)]; rfl
    rw [dF e2, Bool.not_false, cond_true, dT e2]
    simp

theorem segs_no {s : List UInt8} (h : (47 : UInt8) ∉ s) : segs s = [s] := by
  rw [segs.eq_def, if_neg (by rw [findN_no h]; omega)]
theorem segs_at {a b : List UInt8} (h : (47 : UInt8) ∉ a) : segs (a ++ 47 :: b) = a :: segs b := by
  rw [segs.eq_def, if_pos (by rw [findN_at h]; simp), findN_at h]
  simp
theorem split_segs : ∀ (k : Nat) (s : List UInt8), s.count 47 ≤ k → Lib.splitK [47] 0 k s = segs s
  | 0, s, h => by
    have : (47 : UInt8) ∉ s := by rw [← List.count_eq_zero]; omega
    rw [segs_no this]; rfl
  | k + 1, s, h => by
    by_cases h1 : findN s 47 < s.length
    · obtain ⟨e, hno⟩ := findN_split h1
      have hc : s.count 47 = (s.drop (findN s 47 + 1)).count 47 + 1 := by
        conv => lhs; rw [e]
        rw [List.count_append, List.count_cons_self, List.count_eq_zero.2 hno]; omega
      rw [e, split_at hno, segs_at hno, split_segs k _ (by omega)]
    · rw [split_no (findN_none h1), segs_no (findN_none h1)]
theorem segs_all {p : UInt8 → Bool} : ∀ (n : Nat) (s : List UInt8), s.length ≤ n → (segs s).all (fun t => t.all p) = s.all (fun c => p c || decide (c = 47))
  | 0, s, h => by
    obtain rfl : s = [] := List.length_eq_zero_iff.1 (by omega)
    rw [segs_no (by simp)]; rfl
  | n + 1, s, h => by
    have hin : ∀ {a : List UInt8}, (47 : UInt8) ∉ a → a.all (fun c => p c || decide (c = 47)) = a.all p := by
      intro a ha
      induction a with
      | nil => rfl
      | cons x a ih =>
        rw [List.all_cons, List.all_cons, ih (fun hm => ha (List.mem_cons_of_mem _ hm)), dF (fun e => ha (by rw [e]; exact List.mem_cons_self)), Bool.or_false]
    by_cases h1 : findN s 47 < s.length
    · obtain ⟨e, hno⟩ := findN_split h1
      have hl := congrArg List.length e
      rw [List.length_append, List.length_cons] at hl
      rw [e, segs_at hno, List.all_cons, segs_all n _ (by omega), List.all_append, List.all_cons, hin hno, dT rfl, Bool.or_true, Bool.true_and]
    · rw [segs_no (findN_none h1), hin (findN_none h1), List.all_cons, List.all_nil, Bool.and_true]

theorem g30 (s : List UInt8) (hs : s.length ≤ 1000000) : F30 s = some (pathB s) := by
  unfold F30 pathB
  by_cases h60 : 60 < s.length
  · rw [dT (by omega), cond_true, dF (by omega), Bool.false_and]
  rw [dF (by omega), cond_false, dT (by omega), Bool.true_and]
  refine loopK_rule (fun p : Int × Int => ∃ a i : Nat, p = ((a : Int), (i : Int)) ∧ a ≤ i ∧ i ≤ s.length + 1 ∧ (i ≤ s.length → (47 : UInt8) ∉ (s.take i).drop a ∧ (segs (s.drop a)).all partB = (segs s).all partB) ∧ (s.length < i → (segs s).all partB = true))
    (fun p => s.length + 1 - p.2.toNat) ⟨0, 0, rfl, by omega, by omega, fun _ => ⟨by simp, rfl⟩, fun h => by omega⟩ rfl ?_
  rintro _ again ⟨a, i, rfl, h1, h2, h3, h4⟩ hag
  simp only []
  by_cases hi : i ≤ s.length
  · obtain ⟨hno, hq⟩ := h3 hi
    rw [dT (by omega), cond_true, jn_eq]
    dsimp only
    rw [toNat_nat, toNat_nat]
    have hbody : ∀ rest : List (List UInt8), segs (s.drop a) = (s.take i).drop a :: rest → ((∃ u, rest = segs u ∧ i < s.length ∧ u = s.drop (i + 1)) ∨ rest = [] ∧ i = s.length) →
        (cond (true : Bool)
          (gd (0 ≤ (a : Int) ∧ (a : Int) ≤ (i : Int) ∧ (i : Int) ≤ (List.length s : Int)) <|
          bnd (List.drop a (List.take i s)) fun x3 =>
          bindO (F51 x3) fun y4 =>
          cond (!y4)
            (some false)
            (bnd (IntKind.wrap .i64 ((i : Int) + (1 : Int))) fun x5 =>
            bnd (IntKind.wrap .i64 ((i : Int) + (1 : Int))) fun x6 =>
            again (x5, x6)))
          (bnd (IntKind.wrap .i64 ((i : Int) + (1 : Int))) fun x7 =>
          again ((a : Int), x7))) = some ((segs s).all partB) := by
      intro rest hr hrest
      rw [cond_true, gd_pos (by omega)]
      simp only [bnd_eq]
      rw [g51 _ (by rw [List.length_drop, List.length_take]; omega), bindO_some, ← hq, hr, List.all_cons]
      cases hp : partB ((s.take i).drop a) with
      | false => rfl
      | true =>
        rw [Bool.not_true, cond_false, Bool.true_and, i64_wrap (by omega)]
        have hq' : rest.all partB = (segs s).all partB := by rw [← hq, hr, List.all_cons, hp, Bool.true_and]
        rw [hq']
        refine hag _ ⟨i + 1, i + 1, by simp, by omega, by omega, fun hle => ⟨by rw [List.drop_of_length_le (by rw [List.length_take]; omega)]; simp, ?_⟩, fun hlt => ?_⟩ (by simp only []; omega)
        · rcases hrest with ⟨u, hu, hlt, rfl⟩ | ⟨_, he⟩
          · rw [← hq', hu]
          · omega
        · rcases hrest with ⟨u, hu, hlt', rfl⟩ | ⟨he, _⟩
          · omega
          · rw [← hq', he]; rfl
    by_cases he : i = s.length
    · rw [dT (by omega), cond_true]
      refine hbody [] ?_ (.inr ⟨rfl, he⟩)
      subst he
      rw [List.take_length] at hno ⊢
      exact segs_no hno
    · rw [dF (by omega), cond_false, gd_pos (by omega)]
      by_cases hc : s.getD i 0 = 47
      · rw [hc, dT (by rfl)]
        refine hbody (segs (s.drop (i + 1))) ?_ (.inl ⟨_, rfl, by omega, rfl⟩)
        have hd : s.drop a = (s.take i).drop a ++ 47 :: s.drop (i + 1) := by
          have e0 : s.drop i = 47 :: s.drop (i + 1) := by rw [drop_cons (s := s) (i := i) (by omega), hc]
          rw [← e0]
          conv => lhs; rw [← List.take_append_drop i s]
          rw [List.drop_append_of_le_length (by rw [List.length_take]; omega)]
        rw [hd, segs_at hno]
      · have hn : ¬ (((s.getD i 0).toNat : Int) = 47) := fun h => hc (by rw [← UInt8.toNat_inj]; show _ = 47; omega)
        rw [dF hn, cond_false]
        simp only [bnd_eq]
        rw [i64_wrap (by omega)]
        refine hag _ ⟨a, i + 1, by simp, by omega, by omega, fun hle => ⟨?_, hq⟩, fun hlt => by omega⟩ (by simp only []; omega)
        have htk : s.take (i + 1) = s.take i ++ [s.getD i 0] := by
          rw [List.take_succ_eq_append_getElem (by omega), List.getD_eq_getElem?_getD, List.getElem?_eq_getElem (by omega)]; rfl
        rw [htk, List.drop_append_of_le_length (by rw [List.length_take]; omega), List.mem_append]
        rintro (h | h)
        · exact hno h
        · rw [List.mem_singleton] at h; exact hc h.symm
  · rw [dF (by omega), cond_false, h4 (by omega)]

end Go.Proofs.YthpgkpcnajookaaGreatDoor
