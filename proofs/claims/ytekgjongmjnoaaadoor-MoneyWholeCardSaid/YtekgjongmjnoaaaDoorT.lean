/-
  Chapter 4: what the parts of Share are. No condition beyond what each line says.
-/
import Derived.Test.YtekgjongmjnoaaaDoorS
namespace Go.Proofs.YtekgjongmjnoaaaDoor
open Go Go.Nu

theorem sm_perm {a b : List Int} (h : a.Perm b) : sm a = sm b := by
  induction h with
  | nil => rfl
  | cons x _ ih => show x + _ = x + _; rw [ih]
  | swap x y l => show y + (x + sm l) = x + (y + sm l); omega
  | trans _ _ h1 h2 => exact h1.trans h2
theorem sr_perm (r : Nat → Int) (n : Nat) : (sr r n).Perm (List.range n) := by
  have h := sr_ok (r := r) n
  refine (List.perm_ext_iff_of_nodup (nodup_of h.pw) List.nodup_range).2 fun x => ?_
  rw [h.mem x, List.mem_range]
theorem rs_range (t : Int) (ws : List Int) (s : Int) : (List.range ws.length).map (rest t ws s) = rs t ws s := by
  refine List.ext_getElem? fun i => ?_
  unfold rs
  rw [List.getElem?_map, List.getElem?_map]
  by_cases h : i < ws.length
  · rw [List.getElem?_range h, List.getElem?_eq_getElem h]
    show some (rest t ws s i) = some _
    unfold rest
    rw [List.getD_eq_getElem?_getD, List.getElem?_eq_getElem h]
    rfl
  · rw [List.getElem?_eq_none (by rw [List.length_range]; omega), List.getElem?_eq_none (by omega)]
    rfl
theorem sm_rs (t s : Int) : ∀ l : List Int, sm (l.map fun w => Int.tmod (t * w) s) = t * sm l - s * sm (qs t l s)
  | [] => by simp [sm, qs]
  | w :: l => by
    show Int.tmod (t * w) s + sm (l.map fun w => Int.tmod (t * w) s) = t * (w + sm l) - s * (Int.tdiv (t * w) s + sm (qs t l s))
    rw [sm_rs t s l, Int.tmod_def, Int.mul_add, Int.mul_add]
    omega
theorem inc_at {j : Nat} : ∀ {idx : List Nat} {p : List Int}, idx.Nodup → (∀ i ∈ idx, i < p.length) → (incAll p idx).getD j 0 = p.getD j 0 + (if j ∈ idx then 1 else 0)
  | [], p, _, _ => by simp [incAll]
  | i :: idx, p, hn, hi => by
    obtain ⟨n1, n2⟩ := List.nodup_cons.1 hn
    show (incAll (p.set i (p.getD i 0 + 1)) idx).getD j 0 = _
    rw [inc_at n2 (fun k hk => by rw [List.length_set]; exact hi k (List.mem_cons_of_mem _ hk))]
    have hip := hi i List.mem_cons_self
    by_cases e : j = i
    · subst e
      rw [if_neg n1, if_pos List.mem_cons_self]
      rw [List.getD_eq_getElem?_getD, List.getElem?_set_self hip]
      simp
    · rw [List.getD_eq_getElem?_getD, List.getElem?_set_ne (Ne.symm e), ← List.getD_eq_getElem?_getD]
      simp [e]
theorem sm_set : ∀ {p : List Int} {i : Nat} (x : Int), i < p.length → sm (p.set i x) = sm p - p.getD i 0 + x
  | [], i, x, h => absurd h (Nat.not_lt_zero _)
  | y :: p, 0, x, _ => by show x + sm p = y + sm p - y + x; omega
  | y :: p, i + 1, x, h => by
    show y + sm (p.set i x) = y + sm p - p.getD i 0 + x
    rw [sm_set x (by rw [List.length_cons] at h; omega)]
    omega
theorem sm_inc : ∀ {idx : List Nat} {p : List Int}, (∀ i ∈ idx, i < p.length) → sm (incAll p idx) = sm p + idx.length
  | [], p, _ => by simp [incAll]
  | i :: idx, p, hi => by
    show sm (incAll (p.set i (p.getD i 0 + 1)) idx) = _
    rw [sm_inc (fun k hk => by rw [List.length_set]; exact hi k (List.mem_cons_of_mem _ hk)), sm_set _ (hi i List.mem_cons_self), List.length_cons]
    push_cast; omega
theorem sm_zero : ∀ {l : List Int}, (∀ x ∈ l, x ≤ 0) → sm l ≤ 0
  | [], _ => Int.le_refl _
  | x :: l, h => by
    have h1 := h x List.mem_cons_self
    have h2 := sm_zero fun y hy => h y (List.mem_cons_of_mem x hy)
    show x + sm l ≤ 0
    omega
theorem sm_lt {s : Int} : ∀ {l : List Int}, (∀ x ∈ l, x ≤ s - 1) → sm l ≤ (s - 1) * l.length
  | [], _ => by simp [sm]
  | x :: l, h => by
    have h1 := h x List.mem_cons_self
    have h2 := sm_lt fun y hy => h y (List.mem_cons_of_mem x hy)
    show x + sm l ≤ _
    rw [List.length_cons]
    have : (s - 1) * ((l.length + 1 : Nat) : Int) = (s - 1) * l.length + (s - 1) := by
      push_cast
      rw [Int.mul_add, Int.mul_one]
    omega

section
variable {t : Int} {ws : List Int}
theorem order_len (h : okSh t ws = true) : ((order t ws).length : Int) = left t ws := by
  have hf := fine_of h
  have hl := left_ok hf
  unfold order
  rw [List.length_take, (sr_ok _).len]
  omega
theorem order_lt {i : Nat} (h : i ∈ order t ws) : i < ws.length := ((sr_ok _).mem i).1 (List.mem_of_mem_take h)
theorem order_nodup : (order t ws).Nodup := (nodup_of (sr_ok (r := rest t ws (sm ws)) ws.length).pw).sublist (List.take_sublist _ _)
/-- Whoever gets a cent more has a rest. -/
theorem order_pos (h : okSh t ws = true) {i : Nat} (hi : i ∈ order t ws) : 0 < rest t ws (sm ws) i := by
  have hf := fine_of h
  have hl := left_ok hf
  have hlt := order_lt hi
  have hr := hf.rest hlt
  refine Decidable.byContradiction fun hn => ?_
  have h0 : rest t ws (sm ws) i = 0 := by omega
  unfold order at hi
  obtain ⟨k, hk, e⟩ := List.getElem_of_mem hi
  rw [List.length_take] at hk
  rw [List.getElem_take] at e
  have hs := sr_ok (r := rest t ws (sm ws)) ws.length
  generalize hL : sr (rest t ws (sm ws)) ws.length = L at *
  have hkl : k < L.length := by omega
  have hsum : sm (L.map (rest t ws (sm ws))) = sm ws * left t ws := by
    rw [← hL, sm_perm ((sr_perm _ _).map _), rs_range]
    unfold rs
    rw [sm_rs]
    unfold left
    rw [Int.mul_sub, Int.mul_comm]
  have hp : L = L.take k ++ i :: L.drop (k + 1) := by
    conv => lhs; rw [← List.take_append_drop k L, List.drop_eq_getElem_cons hkl, e]
  have hpw := hs.pw
  rw [hp] at hpw hsum
  rw [List.map_append, sm_append, List.map_cons] at hsum
  have hafter : sm ((L.drop (k + 1)).map (rest t ws (sm ws))) ≤ 0 := by
    refine sm_zero fun x hx => ?_
    obtain ⟨j, hj, rfl⟩ := List.mem_map.1 hx
    have := (List.pairwise_cons.1 (List.pairwise_append.1 hpw).2.1).1 j hj
    unfold bef at this
    omega
  have hbefore : sm ((L.take k).map (rest t ws (sm ws))) ≤ (sm ws - 1) * ((L.take k).map (rest t ws (sm ws))).length := by
    refine sm_lt fun x hx => ?_
    obtain ⟨j, hj, rfl⟩ := List.mem_map.1 hx
    have := (hf.rest ((hs.mem j).1 (List.mem_of_mem_take hj))).2.1
    omega
  rw [List.length_map, List.length_take, Nat.min_eq_left (by omega)] at hbefore
  have hz : sm (rest t ws (sm ws) i :: (L.drop (k + 1)).map (rest t ws (sm ws))) = rest t ws (sm ws) i + sm ((L.drop (k + 1)).map (rest t ws (sm ws))) := rfl
  rw [hz, h0] at hsum
  have hs0 := hf.s0
  have hm : (sm ws - 1) * (k : Int) ≤ (sm ws - 1) * (left t ws - 1) := Int.mul_le_mul_of_nonneg_left (by omega) (by omega)
  have he : (sm ws - 1) * (left t ws - 1) = sm ws * left t ws - left t ws - (sm ws - 1) := by
    rw [Int.mul_sub, Int.sub_mul]
    omega
  omega
theorem order_up (h : okSh t ws = true) {i k : Nat} (hi : i ∈ order t ws) (hk : k < ws.length) (hr : rest t ws (sm ws) i < rest t ws (sm ws) k) : k ∈ order t ws := by
  have hs := sr_ok (r := rest t ws (sm ws)) ws.length
  refine Decidable.byContradiction fun hn => ?_
  unfold order at hi hn
  have hm := (hs.mem k).2 hk
  rw [← List.take_append_drop (left t ws).toNat (sr (rest t ws (sm ws)) ws.length)] at hm
  rcases List.mem_append.1 hm with hm | hm
  · exact hn hm
  · have hpw := hs.pw
    rw [← List.take_append_drop (left t ws).toNat (sr (rest t ws (sm ws)) ws.length)] at hpw
    have := (List.pairwise_append.1 hpw).2.2 i hi k hm
    unfold bef at this
    omega

/-- A part. -/
def part (t : Int) (ws : List Int) (i : Nat) : Int := Int.tdiv (t * ws.getD i 0) (sm ws) + (if i ∈ order t ws then 1 else 0)
theorem share_at (h : okSh t ws = true) {i : Nat} (hi : i < ws.length) : (incAll (qs t ws (sm ws)) (order t ws)).getD i 0 = part t ws i := by
  rw [inc_at order_nodup (fun k hk => by rw [qs_len]; exact order_lt hk), qs_at hi]; rfl
theorem share_sum (h : okSh t ws = true) : sm (incAll (qs t ws (sm ws)) (order t ws)) = t := by
  rw [sm_inc (fun k hk => by rw [qs_len]; exact order_lt hk), order_len h]
  unfold left
  omega
theorem div_rest (h : okSh t ws = true) (i : Nat) : t * ws.getD i 0 = sm ws * Int.tdiv (t * ws.getD i 0) (sm ws) + rest t ws (sm ws) i := by
  unfold rest
  rw [Int.tmod_def]
  omega
theorem part_far (h : okSh t ws = true) {i : Nat} (hi : i < ws.length) : part t ws i * sm ws - t * ws.getD i 0 < sm ws ∧ -sm ws < part t ws i * sm ws - t * ws.getD i 0 ∧ (ws.getD i 0 = 0 → part t ws i = 0) := by
  have hf := fine_of h
  have hr := hf.rest hi
  have hd := div_rest h i
  have hs := hf.s0
  unfold part
  by_cases hm : i ∈ order t ws
  · have hp := order_pos h hm
    rw [if_pos hm]
    have e : (Int.tdiv (t * ws.getD i 0) (sm ws) + 1) * sm ws = sm ws * Int.tdiv (t * ws.getD i 0) (sm ws) + sm ws := by rw [Int.add_mul, Int.mul_comm, Int.one_mul]
    rw [e]
    refine ⟨by omega, by omega, fun h0 => ?_⟩
    rw [h0] at hd
    have : rest t ws (sm ws) i = 0 := by unfold rest; rw [h0]; simp
    omega
  · rw [if_neg hm, Int.add_zero]
    have e : Int.tdiv (t * ws.getD i 0) (sm ws) * sm ws = sm ws * Int.tdiv (t * ws.getD i 0) (sm ws) := Int.mul_comm _ _
    rw [e]
    refine ⟨by omega, by omega, fun h0 => ?_⟩
    rw [h0]; simp
theorem part_mono (h : okSh t ws = true) {i k : Nat} (hi : i < ws.length) (hk : k < ws.length) (hw : ws.getD i 0 < ws.getD k 0) : part t ws i ≤ part t ws k := by
  have hf := fine_of h
  have hri := hf.rest hi
  have hrk := hf.rest hk
  have hdi := div_rest h i
  have hdk := div_rest h k
  have hs := hf.s0
  have ht := hf.t0
  have hmul : t * ws.getD i 0 ≤ t * ws.getD k 0 := Int.mul_le_mul_of_nonneg_left (by omega) ht
  unfold part
  generalize hqi : Int.tdiv (t * ws.getD i 0) (sm ws) = qi at *
  generalize hqk : Int.tdiv (t * ws.getD k 0) (sm ws) = qk at *
  have hle : qi ≤ qk := by
    refine Decidable.byContradiction fun hn => ?_
    have : sm ws * (qk + 1) ≤ sm ws * qi := Int.mul_le_mul_of_nonneg_left (by omega) (by omega)
    rw [Int.mul_add, Int.mul_one] at this
    omega
  by_cases heq : qi = qk
  · subst heq
    by_cases hm : i ∈ order t ws
    · have h0 : 0 < t := by
        refine Decidable.byContradiction fun hn => ?_
        have ht0 : t = 0 := by omega
        have := order_pos h hm
        have : rest t ws (sm ws) i = 0 := by unfold rest; rw [ht0]; simp
        omega
      have : t * ws.getD i 0 < t * ws.getD k 0 := Int.mul_lt_mul_of_pos_left hw h0
      rw [if_pos hm, if_pos (order_up h hm hk (by omega))]
      exact Int.le_refl _
    · rw [if_neg hm]
      split <;> omega
  · split <;> split <;> omega
end
end Go.Proofs.YtekgjongmjnoaaaDoor
