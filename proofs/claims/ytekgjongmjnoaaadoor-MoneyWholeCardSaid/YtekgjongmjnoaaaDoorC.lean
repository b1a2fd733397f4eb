/-
  Chapter 4: dividing an amount: the document's way.
-/
import Derived.Test.YtekgjongmjnoaaaDoorB
namespace Go.Proofs.YtekgjongmjnoaaaDoor
open Go Go.Nu

def rs (t : Int) (ws : List Int) (s : Int) : List Int := ws.map fun w => Int.tmod (t * w) s
def negAll (p : List Int) (idx : List Nat) : List Int := idx.foldl (fun p i => p.set i (-1)) p
theorem rs_len {t : Int} {ws : List Int} {s : Int} : (rs t ws s).length = ws.length := by simp [rs]
theorem rs_at {t : Int} {ws : List Int} {s : Int} {i : Nat} (hi : i < ws.length) : (rs t ws s).getD i 0 = rest t ws s i := by
  unfold rs rest
  rw [List.getD_eq_getElem?_getD, List.getD_eq_getElem?_getD, List.getElem?_map, List.getElem?_eq_getElem hi]; rfl
theorem neg_len : ∀ {idx : List Nat} {p : List Int}, (negAll p idx).length = p.length
  | [], p => rfl
  | i :: idx, p => (neg_len (idx := idx) (p := p.set i (-1))).trans List.length_set
theorem neg_snoc {p : List Int} {idx : List Nat} {j : Nat} : negAll p (idx ++ [j]) = (negAll p idx).set j (-1) := by simp [negAll]
theorem set_getD {p : List Int} {i j : Nat} {x : Int} (hj : j < p.length) : (p.set i x).getD j 0 = if i = j then x else p.getD j 0 := by
  rw [List.getD_eq_getElem?_getD, List.getD_eq_getElem?_getD, List.getElem?_set]
  by_cases h : i = j
  · subst h; simp [hj]
  · simp [h]
theorem neg_at {j : Nat} : ∀ {idx : List Nat} {p : List Int}, j < p.length → (negAll p idx).getD j 0 = if j ∈ idx then -1 else p.getD j 0
  | [], p, _ => by simp [negAll]
  | i :: idx, p, h => by
    have := neg_at (j := j) (idx := idx) (p := p.set i (-1)) (by simpa using h)
    show (negAll (p.set i (-1)) idx).getD j 0 = _
    rw [this, set_getD h]
    by_cases h1 : j ∈ idx
    · simp [h1]
    · by_cases h2 : i = j
      · subst h2; simp
      · have : ¬ j = i := fun e => h2 e.symm
        simp [h1, h2, this]

/-- The one that is first: with what is taken already at -1. -/
theorem first_is {t : Int} {ws : List Int} {s : Int} (h : Fine t ws s) {k b : Nat} (hk : k < ws.length) (hb : b < ws.length)
    (hf : ∀ j, j < ws.length → j ≠ b → bef (fun j => (negAll (rs t ws s) ((sr (rest t ws s) ws.length).take k)).getD j 0) b j) : b = (sr (rest t ws s) ws.length).getD k 0 := by
  have hS := sr_ok (r := rest t ws s) ws.length
  obtain ⟨S, hSe⟩ : ∃ S, sr (rest t ws s) ws.length = S := ⟨_, rfl⟩
  rw [hSe] at hS hf ⊢
  have hkl : k < S.length := by rw [hS.len]; exact hk
  have hnd := nodup_of hS.pw
  have esp : S = S.take k ++ (S.getD k 0 :: S.drop (k + 1)) := by rw [← drop_getD 0 hkl, List.take_append_drop]
  obtain ⟨A, hA⟩ : ∃ A, S.take k = A := ⟨_, rfl⟩
  obtain ⟨C, hC⟩ : ∃ C, S.drop (k + 1) = C := ⟨_, rfl⟩
  obtain ⟨c, hc⟩ : ∃ c, S.getD k 0 = c := ⟨_, rfl⟩
  rw [hA, hC, hc] at esp
  rw [hA] at hf
  rw [hc]
  have hpw := hS.pw
  rw [esp] at hpw hnd
  obtain ⟨p1, p2, p3⟩ := List.pairwise_append.1 hpw
  obtain ⟨q1, q2, q3⟩ := List.nodup_append.1 hnd
  have hcS : c ∈ S := by rw [esp]; simp
  have hcn := (hS.mem c).1 hcS
  have hcA : c ∉ A := fun hx => q3 c hx c (by simp) rfl
  have val : ∀ j, j < ws.length → (negAll (rs t ws s) A).getD j 0 = if j ∈ A then -1 else rest t ws s j := fun j hj => by rw [neg_at (by rw [rs_len]; exact hj), rs_at hj]
  apply Classical.byContradiction
  intro hne
  have h1 := hf c hcn (fun e => hne e.symm)
  have h2 : bef (fun j => (negAll (rs t ws s) A).getD j 0) c b := by
    unfold bef
    simp only []
    rw [val c hcn, val b hb, if_neg hcA]
    have hrc := h.rest hcn
    by_cases hbA : b ∈ A
    · rw [if_pos hbA]; omega
    · rw [if_neg hbA]
      have hbC : b ∈ C := by
        have := (hS.mem b).2 hb
        rw [esp] at this
        simp only [List.mem_append, List.mem_cons] at this
        grind
      exact (List.pairwise_cons.1 p2).1 b hbC
  unfold bef at h1 h2
  omega

theorem f10 (t : Int) (ws : List Int) (hlen : ws.length ≤ 1000000) : F10 t ws = some (shareP t ws) := by
  have bad : okSh t ws = false → shareP t ws = ([], 1) := fun h => by unfold shareP; rw [h]; rfl
  unfold F10
  rw [jn_eq, f20, bindO_some]
  cases ha : amount t with
  | false => rw [bad (by unfold okSh; rw [ha]; rfl)]; rfl
  | true =>
  simp only [Bool.not_true, cond_false]
  by_cases h1 : ws.length < 1
  · rw [decide_eq_true (by omega), cond_true, bad]
    cases hok : okSh t ws with
    | false => rfl
    | true => have := (fine_of hok).n0; omega
  rw [decide_eq_false (by omega), cond_false]
  by_cases h2 : 16 < ws.length
  · rw [decide_eq_true (by omega), cond_true, bad]
    cases hok : okSh t ws with
    | false => rfl
    | true => have := (fine_of hok).n1; omega
  rw [decide_eq_false (by omega), cond_false]
  refine loopK_rule (fun x => ∃ i : Nat, x = (sm (ws.take i), (i : Int)) ∧ i ≤ ws.length ∧ (∀ j < i, 0 ≤ ws.getD j 0 ∧ ws.getD j 0 ≤ 1000) ∧ 0 ≤ sm (ws.take i) ∧ sm (ws.take i) ≤ 1000 * i) (fun x => ws.length - x.2.toNat)
    ⟨0, by simp [sm], by omega, fun j hj => by omega, by simp [sm], by simp [sm]⟩ rfl ?_
  rintro x again ⟨i, rfl, hi, hw, hs0, hs2⟩ hag
  simp only []
  by_cases hlt : i < ws.length
  · have hst := sm_take hlt
    have isbad : (¬ (0 ≤ ws.getD i 0 ∧ ws.getD i 0 ≤ 1000)) → some (([] : List Int), (1 : Int)) = some (shareP t ws) := by
      intro hb
      rw [bad]
      cases hok : okSh t ws with
      | false => rfl
      | true => exact absurd ((fine_of hok).w i hlt) hb
    rw [decide_eq_true (by omega), cond_true]
    simp (disch := omega) only [Int.toNat_natCast, gd_pos, bnd_eq, Bool.cond_decide]
    split
    · exact isbad (by omega)
    split
    · exact isbad (by omega)
    rw [i64_wrap (by omega), i64_wrap (by omega), ← hst]
    refine hag _ ⟨i + 1, by simp, by omega, fun j hj => ?_, by omega, by omega⟩ (by simp only []; omega)
    by_cases hji : j = i
    · subst hji; omega
    · exact hw j (by omega)
  rw [decide_eq_false (by omega), cond_false]
  have : i = ws.length := by omega
  subst this
  rw [List.take_length] at hs0 hs2 ⊢
  by_cases h3 : sm ws = 0
  · rw [decide_eq_true (by omega), cond_true, bad]
    unfold okSh
    simp [h3]
  rw [decide_eq_false (by omega), cond_false]
  simp only [gdN_self]
  have hok := fine_ok ha (by omega) hw h3
  have hf := fine_of hok
  have hbig : 16 ≤ big := by unfold big; omega
  obtain ⟨hl0, hl1⟩ := left_ok hf
  obtain ⟨Q, hQ⟩ : ∃ Q, qs t ws (sm ws) = Q := ⟨_, rfl⟩
  obtain ⟨R, hR⟩ : ∃ R, rs t ws (sm ws) = R := ⟨_, rfl⟩
  have hQl : Q.length = ws.length := by rw [← hQ, qs_len]
  have hRl : R.length = ws.length := by rw [← hR, rs_len]
  refine loopK_rule (fun x => ∃ i : Nat, x = (Q.take i, R.take i, t - sm (Q.take i), (i : Int)) ∧ i ≤ ws.length) (fun x => ws.length - x.2.2.2.toNat) ⟨0, by simp [sm], by omega⟩ rfl ?_
  rintro x again2 ⟨i, rfl, hi2⟩ hag2
  simp only []
  by_cases hlt : i < ws.length
  · have m := hf.mul hlt
    have q := q_fit hf hlt
    have hl1 : (Q.take i).length = i := by simp; omega
    have hl2 : (R.take i).length = i := by simp; omega
    have hq3 : (Q.take i ++ [(t * ws.getD i 0).tdiv (sm ws)]).length = i + 1 := by simp; omega
    have hsm := sm_take (l := Q) (i := i) (by omega)
    have hb := sm_le (M := 100000000000) (l := Q.take (i + 1)) fun x hx => qs_fit hf x (hQ ▸ List.mem_of_mem_take hx)
    have hbl : (Q.take (i + 1)).length = i + 1 := by simp; omega
    rw [hbl] at hb
    have ht0 := hf.t0
    have ht1 := hf.t1
    have hs0 := hf.s0
    have hqa : Q.getD i 0 = Int.tdiv (t * ws.getD i 0) (sm ws) := by rw [← hQ, qs_at hlt]
    have hra : R.getD i 0 = Int.tmod (t * ws.getD i 0) (sm ws) := by rw [← hR, rs_at hlt]; rfl
    rw [hqa] at hsm
    have hfa : (Q.take i ++ [(t * ws.getD i 0).tdiv (sm ws)]).getD i 0 = (t * ws.getD i 0).tdiv (sm ws) := by
      have := fill_at (l := Q.take i) (r := []) (x := (t * ws.getD i 0).tdiv (sm ws)) hl1
      rwa [List.append_nil] at this
    rw [decide_eq_true (by omega), cond_true]
    simp (disch := omega) only [Int.toNat_natCast, gd_pos, bnd_eq, i64_wrap, gdN_self, hl1, hl2, List.length_singleton, hq3, hfa]
    refine (congrArg again2 (?_ : _ = (Q.take (i + 1), R.take (i + 1), t - sm (Q.take (i + 1)), ((i + 1 : Nat) : Int)))).trans (hag2 _ ⟨i + 1, rfl, by omega⟩ (by simp only []; omega))
    rw [hsm, take_snoc (i := i) (l := Q) (by omega), take_snoc (i := i) (l := R) (by omega), hqa, hra]
    simp
    omega
  have : i = ws.length := by omega
  subst this
  rw [decide_eq_false (by omega), cond_false, List.take_of_length_le (by omega), List.take_of_length_le (by omega)]
  rw [gd_pos (by omega), gd_pos (by omega)]
  have e : t - sm Q = left t ws := by rw [← hQ]; rfl
  rw [e]
  obtain ⟨S, hS⟩ : ∃ S, sr (rest t ws (sm ws)) ws.length = S := ⟨_, rfl⟩
  have hSo := sr_ok (r := rest t ws (sm ws)) ws.length
  rw [hS] at hSo
  have hSl := hSo.len
  have hres : shareP t ws = (incAll Q (S.take (left t ws).toNat), 0) := by unfold shareP order; rw [if_pos hok, hQ, hS]
  rw [hres]
  refine loopK_rule (fun x => ∃ k : Nat, x = (left t ws - k, incAll Q (S.take k), negAll R (S.take k)) ∧ (k : Int) ≤ left t ws) (fun x => x.1.toNat) ⟨0, by simp [incAll, negAll], by omega⟩ rfl ?_
  rintro x again3 ⟨k, rfl, hk⟩ hag3
  simp only []
  have hil : (incAll Q (S.take k)).length = ws.length := by rw [inc_len, hQl]
  have hnl : (negAll R (S.take k)).length = ws.length := by rw [neg_len, hRl]
  by_cases hkl : (k : Int) < left t ws
  · rw [decide_eq_true (by omega), cond_true]
    have hkn : k < ws.length := by omega
    have hn0 := hf.n0
    refine loopK_rule (fun x => ∃ b i : Nat, x = ((b : Int), (i : Int)) ∧ b < i ∧ i ≤ ws.length ∧ ∀ j, j < i → j ≠ b → bef (fun j => (negAll R (S.take k)).getD j 0) b j) (fun x => ws.length - x.2.toNat)
      ⟨0, 1, by simp, by omega, by omega, fun j hj hne => by omega⟩ rfl ?_
    rintro x again4 ⟨b, i, rfl, hb, hi, hbest⟩ hag4
    simp only []
    by_cases hlt : i < ws.length
    · rw [decide_eq_true (by omega), cond_true]
      simp (disch := omega) only [Int.toNat_natCast, gd_pos, bnd_eq, i64_wrap, hnl, Bool.cond_decide]
      split
      · rename_i hg
        refine hag4 _ ⟨i, i + 1, by simp, by omega, by omega, fun j hj hne => ?_⟩ (by simp only []; omega)
        by_cases hjb : j = b
        · subst hjb; exact Or.inl hg
        · have := hbest j (by omega) hjb
          unfold bef at this ⊢
          simp only [] at this ⊢
          omega
      · rename_i hg
        refine hag4 _ ⟨b, i + 1, by simp, by omega, by omega, fun j hj hne => ?_⟩ (by simp only []; omega)
        by_cases hji : j = i
        · subst hji
          unfold bef
          simp only []
          omega
        · exact hbest j (by omega) hne
    · have : i = ws.length := by omega
      subst this
      have hbS : b = S.getD k 0 := by
        have := first_is hf hkn hb (by rw [hS, hR]; exact hbest)
        rwa [hS] at this
      have hft := inc_fit (idx := S.take k) (M := 100000000000) (by omega) (fun x hx => qs_fit hf x (hQ ▸ hx)) _ (getD_in (l := incAll Q (S.take k)) (i := b) (by omega))
      have hkl2 : (S.take k).length = k := by simp; omega
      rw [decide_eq_false (by omega), cond_false]
      have ht0 := hf.t0
      have hlt0 : left t ws ≤ 16 := by omega
      simp (disch := omega) only [Int.toNat_natCast, gd_pos, bnd_eq, i64_wrap, hnl, hil]
      refine hag3 _ ⟨k + 1, ?_, by omega⟩ (by simp only []; omega)
      rw [takeN_snoc (by omega), inc_snoc, neg_snoc, ← hbS]
      simp
      omega
  · rw [decide_eq_false (by omega), cond_false]
    have : k = (left t ws).toNat := by omega
    rw [this]
end Go.Proofs.YtekgjongmjnoaaaDoor
