/-
  Chapter 4: dividing an amount: the code's way.
-/
import Derived.Test.YtekgjongmjnoaaaDoorA
namespace Go.Proofs.YtekgjongmjnoaaaDoor
open Go Go.Nu

def sm : List Int → Int
  | [] => 0
  | x :: l => x + sm l
theorem sm_append : ∀ {a b : List Int}, sm (a ++ b) = sm a + sm b
  | [], b => by simp [sm]
  | x :: a, b => by simp [sm, sm_append (a := a)]; omega
theorem take_snoc {l : List Int} {i : Nat} (h : i < l.length) : l.take (i + 1) = l.take i ++ [l.getD i 0] := by
  rw [List.take_succ_eq_append_getElem h, List.getD_eq_getElem?_getD, List.getElem?_eq_getElem h]; rfl
theorem sm_take {l : List Int} {i : Nat} (h : i < l.length) : sm (l.take (i + 1)) = sm (l.take i) + l.getD i 0 := by
  rw [take_snoc h, sm_append]; simp [sm]
theorem sm_le {M : Int} : ∀ {l : List Int}, (∀ x ∈ l, 0 ≤ x ∧ x ≤ M) → 0 ≤ sm l ∧ sm l ≤ M * l.length
  | [], _ => by simp [sm]
  | x :: l, h => by
    obtain ⟨h1, h2⟩ := sm_le (l := l) fun y hy => h y (by simp [hy])
    obtain ⟨h3, h4⟩ := h x (by simp)
    refine ⟨by simp [sm]; omega, ?_⟩
    simp only [sm, List.length_cons, Int.natCast_add, Int.mul_add]
    omega
theorem getD_in {l : List Int} {i : Nat} (h : i < l.length) : l.getD i 0 ∈ l := by
  rw [List.getD_eq_getElem?_getD, List.getElem?_eq_getElem h]
  exact List.getElem_mem h

def amount (n : Int) : Bool := decide (0 ≤ n ∧ n ≤ 100000000)
theorem f16 (n : Int) : F16 n = some (amount n) := by
  unfold F16 amount
  by_cases h : 0 ≤ n <;> simp [h]
theorem f20 (n : Int) : F20 n = some (amount n) := by
  unfold F20 amount
  by_cases h : 0 ≤ n <;> simp [h]

def okSh (t : Int) (ws : List Int) : Bool := amount t && (decide (1 ≤ ws.length ∧ ws.length ≤ 16) && (ws.all (fun w => decide (0 ≤ w ∧ w ≤ 1000)) && decide (sm ws ≠ 0)))
def qs (t : Int) (ws : List Int) (s : Int) : List Int := ws.map fun w => Int.tdiv (t * w) s
def incAll (p : List Int) (idx : List Nat) : List Int := idx.foldl (fun p i => p.set i (p.getD i 0 + 1)) p
def left (t : Int) (ws : List Int) : Int := t - sm (qs t ws (sm ws))
def order (t : Int) (ws : List Int) : List Nat := (sr (rest t ws (sm ws)) ws.length).take (left t ws).toNat
def shareP (t : Int) (ws : List Int) : List Int × Int := if okSh t ws then (incAll (qs t ws (sm ws)) (order t ws), 0) else ([], 1)

theorem fine_of {t : Int} {ws : List Int} (h : okSh t ws = true) : Fine t ws (sm ws) := by
  unfold okSh amount at h
  simp only [Bool.and_eq_true, decide_eq_true_eq, List.all_eq_true] at h
  obtain ⟨h1, h2, h3, h4⟩ := h
  obtain ⟨b1, b2⟩ := sm_le h3
  exact ⟨h1.1, h1.2, fun i hi => h3 _ (getD_in hi), by omega, by omega, h2.1, h2.2⟩
theorem fine_ok {t : Int} {ws : List Int} (h1 : amount t = true) (h2 : 1 ≤ ws.length ∧ ws.length ≤ 16) (h3 : ∀ j, j < ws.length → 0 ≤ ws.getD j 0 ∧ ws.getD j 0 ≤ 1000) (h4 : sm ws ≠ 0) : okSh t ws = true := by
  unfold okSh
  simp only [Bool.and_eq_true, decide_eq_true_eq, List.all_eq_true]
  refine ⟨h1, h2, fun x hx => ?_, h4⟩
  obtain ⟨j, hj, rfl⟩ := List.getElem_of_mem hx
  have := h3 j hj
  rwa [List.getD_eq_getElem?_getD, List.getElem?_eq_getElem hj, Option.getD_some] at this

theorem q_fit {t : Int} {ws : List Int} {s : Int} (h : Fine t ws s) {i : Nat} (hi : i < ws.length) : 0 ≤ Int.tdiv (t * ws.getD i 0) s ∧ Int.tdiv (t * ws.getD i 0) s ≤ 100000000000 := by
  obtain ⟨m1, m2⟩ := h.mul hi
  have := h.s0
  rw [Int.tdiv_eq_ediv_of_nonneg m1]
  exact ⟨Int.ediv_nonneg m1 (by omega), Int.le_trans (Int.ediv_le_self _ m1) m2⟩
theorem qs_len {t : Int} {ws : List Int} {s : Int} : (qs t ws s).length = ws.length := by simp [qs]
theorem qs_at {t : Int} {ws : List Int} {s : Int} {i : Nat} (hi : i < ws.length) : (qs t ws s).getD i 0 = Int.tdiv (t * ws.getD i 0) s := by
  unfold qs
  rw [List.getD_eq_getElem?_getD, List.getD_eq_getElem?_getD, List.getElem?_map, List.getElem?_eq_getElem hi]; rfl
theorem qs_fit {t : Int} {ws : List Int} {s : Int} (h : Fine t ws s) : ∀ x ∈ qs t ws s, 0 ≤ x ∧ x ≤ 100000000000 := by
  intro x hx
  obtain ⟨j, hj, rfl⟩ := List.getElem_of_mem hx
  have hj' : j < ws.length := by rwa [qs_len] at hj
  have := q_fit h hj'
  rw [← qs_at hj', List.getD_eq_getElem?_getD, List.getElem?_eq_getElem hj, Option.getD_some] at this
  exact this

theorem parts {t s : Int} (ht : 0 ≤ t) (hs : 0 < s) : ∀ {l : List Int}, (∀ w ∈ l, 0 ≤ w) → 0 ≤ t * sm l - s * sm (qs t l s) ∧ t * sm l - s * sm (qs t l s) ≤ (s - 1) * l.length
  | [], _ => by simp [sm, qs]
  | w :: l, h => by
    have ih := parts ht hs (l := l) fun y hy => h y (by simp [hy])
    have hw := h w (by simp)
    have hm := Int.mul_nonneg ht hw
    have e : qs t (w :: l) s = Int.tdiv (t * w) s :: qs t l s := rfl
    have e2 := Int.mul_ediv_add_emod (t * w) s
    have e3 := Int.emod_nonneg (t * w) (b := s) (by omega)
    have e4 := Int.emod_lt_of_pos (t * w) hs
    rw [e, Int.tdiv_eq_ediv_of_nonneg hm]
    simp only [sm, List.length_cons, Int.natCast_add, Int.mul_add]
    constructor <;> omega
theorem left_ok {t : Int} {ws : List Int} (h : Fine t ws (sm ws)) : 0 ≤ left t ws ∧ left t ws < ws.length := by
  have hs := h.s0
  have h3 : ∀ w ∈ ws, 0 ≤ w := by
    intro x hx
    obtain ⟨j, hj, rfl⟩ := List.getElem_of_mem hx
    have := (h.w j hj).1
    rwa [List.getD_eq_getElem?_getD, List.getElem?_eq_getElem hj, Option.getD_some] at this
  obtain ⟨p1, p2⟩ := parts h.t0 hs h3
  have e : t * sm ws - sm ws * sm (qs t ws (sm ws)) = sm ws * left t ws := by unfold left; rw [Int.mul_sub, Int.mul_comm t]
  rw [e] at p1 p2
  have hn := h.n0
  constructor
  · exact Int.le_of_mul_le_mul_left (a := sm ws) (by simpa using p1) hs
  · refine Int.lt_of_mul_lt_mul_left (a := sm ws) ?_ (Int.le_of_lt hs)
    rw [Int.sub_mul] at p2
    omega

theorem inc_len : ∀ {idx : List Nat} {p : List Int}, (incAll p idx).length = p.length
  | [], p => rfl
  | i :: idx, p => (inc_len (idx := idx) (p := p.set i (p.getD i 0 + 1))).trans List.length_set
theorem inc_fit : ∀ {idx : List Nat} {p : List Int} {M : Int}, 0 ≤ M → (∀ x ∈ p, 0 ≤ x ∧ x ≤ M) → ∀ x ∈ incAll p idx, 0 ≤ x ∧ x ≤ M + idx.length
  | [], p, M, _, h => by simpa [incAll] using h
  | i :: idx, p, M, hM, h => by
    intro x hx
    have := inc_fit (idx := idx) (p := p.set i (p.getD i 0 + 1)) (M := M + 1) (by omega) (fun y hy => by
      rcases List.mem_or_eq_of_mem_set hy with hy | rfl
      · have := h y hy; omega
      · by_cases hi : i < p.length
        · have := h _ (getD_in hi); omega
        · rw [List.getD_eq_getElem?_getD, List.getElem?_eq_none (by omega)]; simp; omega) x hx
    simp only [List.length_cons]
    omega
theorem inc_snoc {p : List Int} {idx : List Nat} {j : Nat} : incAll p (idx ++ [j]) = (incAll p idx).set j ((incAll p idx).getD j 0 + 1) := by simp [incAll]
theorem takeN_snoc {l : List Nat} {i : Nat} (h : i < l.length) : l.take (i + 1) = l.take i ++ [l.getD i 0] := by
  rw [List.take_succ_eq_append_getElem h, List.getD_eq_getElem?_getD, List.getElem?_eq_getElem h]; rfl
theorem set_fill {l : List Int} {i n : Nat} {x : Int} (hl : l.length = i) (hi : i < n) : (l ++ List.replicate (n - i) 0).set i x = (l ++ [x]) ++ List.replicate (n - (i + 1)) 0 := by
  obtain ⟨k, hk⟩ : ∃ k, n - i = k + 1 := ⟨n - i - 1, by omega⟩
  rw [show n - (i + 1) = k by omega, hk, List.replicate_succ, List.set_append_right _ _ (by omega), hl, Nat.sub_self]
  simp
theorem fill_at {l r : List Int} {i : Nat} {x : Int} (hl : l.length = i) : ((l ++ [x]) ++ r).getD i 0 = x := by
  subst hl
  simp [List.getD_eq_getElem?_getD]

theorem f22 {t : Int} {ws : List Int} {s : Int} (h : Fine t ws s) : F22 ((List.range ws.length).map Int.ofNat) (t, ws, s, ()) = some ((), (sr (rest t ws s) ws.length).map Int.ofNat) := by
  have hn1 := h.n1
  have hl : (sr (rest t ws s) ws.length).length = ws.length := (sr_ok _).len
  have hr : ((List.range ws.length).map Int.ofNat).length = ws.length := by simp
  unfold F22
  have e : F30 ((List.range ws.length).map Int.ofNat) (ws.length : Int) (t, ws, s, ()) = some ((), (sr (rest t ws s) ws.length).map Int.ofNat) := by
    unfold F30
    refine loopK_rule (fun x => x = ((0 : Int), (20 : Int), (List.range ws.length).map Int.ofNat)) (fun _ => 0) rfl rfl ?_
    rintro x again rfl _
    simp only []
    rw [decide_eq_false (by omega), cond_false, f48 h, bindO_some]
    simp only [List.length_map, hl, List.length_range, gdN_self]
    refine loopK_rule (fun x => x = (20 : Int)) (fun _ => 0) rfl rfl ?_
    rintro x again2 rfl _
    rw [decide_eq_false (by omega), cond_false]
  rw [hr, e, bindO_some]
  simp only [List.length_map, hl, gdN_self]

theorem f9 (t : Int) (ws : List Int) (hlen : ws.length ≤ 1000000) : F9 t ws = some (shareP t ws) := by
  have bad : okSh t ws = false → shareP t ws = ([], 1) := fun h => by unfold shareP; rw [h]; rfl
  unfold F9
  rw [jn_eq]
  simp only []
  refine loopK_rule (fun x => ∃ i : Nat, x = ((i : Int), sm (ws.take i)) ∧ i ≤ ws.length ∧ (∀ j < i, 0 ≤ ws.getD j 0 ∧ ws.getD j 0 ≤ 1000) ∧ 0 ≤ sm (ws.take i) ∧ sm (ws.take i) ≤ 16000 ∧ sm (ws.take i) ≤ 1000 * i) (fun x => ws.length - x.1.toNat)
    ⟨0, by simp [sm], by omega, fun j hj => by omega, by simp [sm], by simp [sm], by simp [sm]⟩ rfl ?_
  rintro x again ⟨i, rfl, hi, hw, hs0, hs1, hs2⟩ hag
  simp only []
  by_cases hlt : i < ws.length
  · have hst := sm_take hlt
    have isbad : (¬ (0 ≤ ws.getD i 0 ∧ ws.getD i 0 ≤ 1000) ∨ 16000 < sm (ws.take i) + ws.getD i 0) → some (([] : List Int), (1 : Int)) = some (shareP t ws) := by
      intro hb
      rw [bad]
      cases hok : okSh t ws with
      | false => rfl
      | true =>
        have hf := fine_of hok
        have h1 := hf.w i hlt
        have h2 := hf.n1
        rcases hb with hb | hb <;> omega
    rw [decide_eq_true (by omega), cond_true, gd_pos (by omega)]
    simp only [Int.toNat_natCast, Bool.cond_decide, bnd_eq]
    split
    · exact isbad (by omega)
    split
    · exact isbad (by omega)
    rw [i64_wrap (by omega)]
    split
    · exact isbad (by omega)
    rw [i64_wrap (by omega), ← hst]
    refine hag _ ⟨i + 1, by simp, by omega, fun j hj => ?_, by omega, by omega, by omega⟩ (by simp only []; omega)
    by_cases hji : j = i
    · subst hji; omega
    · exact hw j (by omega)
  rw [decide_eq_false (by omega), cond_false, f16, bindO_some]
  have : i = ws.length := by omega
  subst this
  rw [List.take_length] at hs0 hs1 hs2 ⊢
  cases ha : amount t with
  | false => rw [bad (by unfold okSh; rw [ha]; rfl)]; rfl
  | true =>
  simp only [Bool.not_true, cond_false]
  by_cases h1 : ws.length < 1
  · rw [decide_eq_true (by omega), cond_true, bad]
    cases hok : okSh t ws with
    | false => rfl
    | true => have := (fine_of hok).n0; omega
  rw [decide_eq_false (by omega), cond_false]
  by_cases h2 : 16 < ws.length
  · rw [decide_eq_true (by omega), cond_true, bad]
    cases hok : okSh t ws with
    | false => rfl
    | true => have := (fine_of hok).n1; omega
  rw [decide_eq_false (by omega), cond_false]
  by_cases h3 : sm ws = 0
  · rw [decide_eq_true (by omega), cond_true, bad]
    unfold okSh
    simp [h3]
  rw [decide_eq_false (by omega), cond_false]
  have hok := fine_ok ha (by omega) hw h3
  have hf := fine_of hok
  have hbig : (ws.length : Int) ≤ (big : Int) := by unfold big; omega
  rw [gd_pos ⟨by omega, trivial, hbig⟩, gd_pos ⟨by omega, trivial, hbig⟩, Int.toNat_natCast]
  obtain ⟨n, hn⟩ : ∃ n, ws.length = n := ⟨_, rfl⟩
  have hql : (qs t ws (sm ws)).length = n := by rw [qs_len, hn]
  obtain ⟨hl0, hl1⟩ := left_ok hf
  refine loopK_rule (fun x => ∃ i : Nat, x = (t - sm ((qs t ws (sm ws)).take i), (i : Int), (qs t ws (sm ws)).take i ++ List.replicate (ws.length - i) 0, (List.range i).map Int.ofNat ++ List.replicate (ws.length - i) 0) ∧ i ≤ ws.length) (fun x => ws.length - x.2.1.toNat)
    ⟨0, ?_, by omega⟩ rfl ?_
  · simp [sm]
  rintro x again2 ⟨i, rfl, hi2⟩ hag2
  simp only []
  by_cases hlt : i < ws.length
  · have m := hf.mul hlt
    have q := q_fit hf hlt
    have hl1 : ((qs t ws (sm ws)).take i).length = i := by simp; omega
    have hl2 : ((List.range i).map Int.ofNat).length = i := by simp
    have hq1 : ((qs t ws (sm ws)).take i ++ List.replicate (ws.length - i) 0).length = ws.length := by simp; omega
    have hq2 : ((List.range i).map Int.ofNat ++ List.replicate (ws.length - i) 0).length = ws.length := by simp; omega
    have hq3 : ((qs t ws (sm ws)).take i ++ [(t * ws.getD i 0).tdiv (sm ws)] ++ List.replicate (ws.length - (i + 1)) 0).length = ws.length := by simp; omega
    have hsm := sm_take (l := qs t ws (sm ws)) (i := i) (by omega)
    have hb := sm_le (M := 100000000000) (l := (qs t ws (sm ws)).take (i + 1)) fun x hx => qs_fit hf x (List.mem_of_mem_take hx)
    have hbl : ((qs t ws (sm ws)).take (i + 1)).length = i + 1 := by simp; omega
    rw [hbl] at hb
    have ht0 := hf.t0
    have ht1 := hf.t1
    rw [qs_at hlt] at hsm
    rw [decide_eq_true (by omega), cond_true]
    simp (disch := omega) only [Int.toNat_natCast, gd_pos, bnd_eq, i64_wrap, hq1, hq2, hq3, set_fill hl1 hlt, set_fill hl2 hlt, fill_at hl1]
    refine (congrArg again2 (?_ : _ = (t - sm ((qs t ws (sm ws)).take (i + 1)), ((i + 1 : Nat) : Int), (qs t ws (sm ws)).take (i + 1) ++ List.replicate (ws.length - (i + 1)) 0, (List.range (i + 1)).map Int.ofNat ++ List.replicate (ws.length - (i + 1)) 0))).trans (hag2 _ ⟨i + 1, rfl, by omega⟩ (by simp only []; omega))
    rw [hsm, take_snoc (i := i) (by omega), qs_at hlt, List.range_succ]
    simp
    omega
  have : i = ws.length := by omega
  subst this
  rw [decide_eq_false (by omega), cond_false]
  simp only [Nat.sub_self, List.replicate_zero, List.append_nil]
  have hl : (sr (rest t ws (sm ws)) ws.length).length = ws.length := (sr_ok _).len
  rw [f22 hf, bindO_some]
  simp only [List.length_map, hl, List.length_range, gdN_self]
  rw [List.take_of_length_le (by omega)]
  have e : t - sm (qs t ws (sm ws)) = left t ws := rfl
  rw [e, gd_pos (by omega), bnd_eq, ← List.map_take]
  obtain ⟨idx, hidx⟩ : ∃ idx, (sr (rest t ws (sm ws)) ws.length).take (left t ws).toNat = idx := ⟨_, rfl⟩
  rw [hidx]
  have hord : order t ws = idx := hidx
  have hil : idx.length ≤ 16 := by rw [← hidx]; simp; omega
  have him : ∀ j ∈ idx, j < ws.length := by
    intro j hj
    rw [← hidx] at hj
    exact ((sr_ok _).mem j).1 (List.mem_of_mem_take hj)
  have hres : shareP t ws = (incAll (qs t ws (sm ws)) idx, 0) := by unfold shareP; rw [if_pos hok, hord]
  rw [hres]
  refine loopK_rule (fun x => ∃ k : Nat, x = ((k : Int), incAll (qs t ws (sm ws)) (idx.take k)) ∧ k ≤ idx.length) (fun x => idx.length - x.1.toNat) ⟨0, rfl, by omega⟩ rfl ?_
  rintro x again3 ⟨k, rfl, hk⟩ hag3
  simp only [List.length_map]
  by_cases hlt : k < idx.length
  · have hm : idx.getD k 0 ∈ idx := by
      rw [List.getD_eq_getElem?_getD, List.getElem?_eq_getElem hlt]
      exact List.getElem_mem hlt
    have hj := him _ hm
    have hl3 : (incAll (qs t ws (sm ws)) (idx.take k)).length = ws.length := by rw [inc_len, qs_len]
    have hft := inc_fit (idx := idx.take k) (M := 100000000000) (by omega) (qs_fit hf) _ (getD_in (l := incAll (qs t ws (sm ws)) (idx.take k)) (i := idx.getD k 0) (by omega))
    have hkl : (idx.take k).length = k := by simp; omega
    rw [decide_eq_true (by omega), cond_true]
    simp (disch := omega) only [Int.toNat_natCast, gd_pos, bnd_eq, i64_wrap, hl3, toI_get]
    refine hag3 _ ⟨k + 1, ?_, by omega⟩ (by simp only []; omega)
    rw [takeN_snoc hlt, inc_snoc]
    simp
  · rw [decide_eq_false (by omega), cond_false, List.take_of_length_le (by omega)]
end Go.Proofs.YtekgjongmjnoaaaDoor
