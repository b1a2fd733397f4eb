/-
  Chapter 4: MoneyWhole as a plain function, where Share gives parts. No condition beyond what each line says.
-/
import Derived.Test.YtekgjongmjnoaaaDoorT
namespace Go.Proofs.YtekgjongmjnoaaaDoor
open Go Go.Nu

theorem dT {p : Prop} [Decidable p] (h : p) : decide p = true := decide_eq_true h
theorem dF {p : Prop} [Decidable p] (h : ¬ p) : decide p = false := decide_eq_false h

theorem law5a (t : Int) (ws : List Int) (h : 40 < ws.length ∨ okSh t ws = true) : F5 t ws = some true := by
  unfold F5
  rw [alive_ok, Bool.not_true, cond_false]
  by_cases h40 : 40 < ws.length
  · rw [dT (by omega), cond_true]
  have hok : okSh t ws = true := by
    rcases h with h | h
    · omega
    · exact h
  rw [dF (by omega), cond_false, f9 t ws (by omega), bindO_some]
  have hf := fine_of hok
  have hs0 := hf.s0
  have hs1 := hf.s1
  have ht0 := hf.t0
  have ht1 := hf.t1
  have hn0 := hf.n0
  have hn1 := hf.n1
  have hfar := fun i hi => part_far hok (i := i) hi
  have hmono := fun i k hi hk => part_mono hok (i := i) (k := k) hi hk
  have hat := fun i hi => share_at hok (i := i) hi
  have hsum := share_sum hok
  have hlen : (incAll (qs t ws (sm ws)) (order t ws)).length = ws.length := by rw [inc_len, qs_len]
  rw [show shareP t ws = (incAll (qs t ws (sm ws)) (order t ws), 0) from if_pos hok]
  dsimp only
  generalize incAll (qs t ws (sm ws)) (order t ws) = p at *
  rw [dT rfl, Bool.not_true, cond_false, dT (by omega), Bool.not_true, cond_false]
  have hwin : ∀ x ∈ ws, 0 ≤ x ∧ x ≤ 1000 := by
    intro x hx
    obtain ⟨i, hi, rfl⟩ := List.getElem_of_mem hx
    have := hf.w i hi
    rwa [List.getD_eq_getElem?_getD, List.getElem?_eq_getElem hi] at this
  have hpb : ∀ i, i < ws.length → 0 ≤ part t ws i ∧ part t ws i ≤ 100000000001 := by
    intro i hi
    have := q_fit hf hi
    unfold part
    split <;> omega
  have hpin : ∀ x ∈ p, 0 ≤ x ∧ x ≤ 100000000001 := by
    intro x hx
    obtain ⟨i, hi, rfl⟩ := List.getElem_of_mem hx
    have h1 := hat i (by omega)
    rw [List.getD_eq_getElem?_getD, List.getElem?_eq_getElem hi] at h1
    have h1 : p[i] = part t ws i := h1
    rw [h1]
    exact hpb i (by omega)
  refine loopK_rule (fun x : Int × Int × Int => ∃ i : Nat, x = (sm (ws.take i), sm (p.take i), (i : Int)) ∧ i ≤ ws.length) (fun x => ws.length - x.2.2.toNat) ⟨0, rfl, by omega⟩ rfl ?_
  rintro _ again ⟨i, rfl, hi⟩ hag
  simp only []
  by_cases hc : i < ws.length
  · have e1 := sm_take (l := ws) hc
    have e2 := sm_take (l := p) (i := i) (by omega)
    have b1 := sm_le (M := 1000) (l := ws.take (i + 1)) fun x hx => hwin x (List.mem_of_mem_take hx)
    have b2 := sm_le (M := 100000000001) (l := p.take (i + 1)) fun x hx => hpin x (List.mem_of_mem_take hx)
    rw [List.length_take] at b1 b2
    rw [dT (by omega), cond_true, gd_pos (by omega), bnd_eq, Int.toNat_natCast, i64_wrap (by omega), gd_pos (by omega), bnd_eq, i64_wrap (by omega), bnd_eq, i64_wrap (by omega)]
    exact hag _ ⟨i + 1, by rw [e1, e2]; norm_cast, by omega⟩ (by simp only []; omega)
  rw [dF (by omega), cond_false, List.take_of_length_le (by omega), List.take_of_length_le (by omega), hsum]
  refine loopK_rule (fun x : Int => ∃ i : Nat, x = (i : Int) ∧ i ≤ ws.length) (fun x => ws.length - x.toNat) ⟨0, rfl, by omega⟩ rfl ?_
  rintro _ again2 ⟨j, rfl, hj⟩ hag2
  by_cases hc2 : j < ws.length
  · obtain ⟨f1, f2, f3⟩ := hfar j hc2
    have hm := hf.mul hc2
    have hp := hat j hc2
    rw [dT (by omega), cond_true, gd_pos (by omega), bnd_eq, Int.toNat_natCast, hp, i64_wrap (n := part t ws j * sm ws) (by omega), gd_pos (by omega), bnd_eq, i64_wrap (n := t * ws.getD j 0) (by omega), bnd_eq, i64_wrap (n := part t ws j * sm ws - t * ws.getD j 0) (by omega)]
    refine jn_rule (fun _ => True) (fun next hnx => ?_) (fun _ _ => ?_)
    · rw [dF (by omega), cond_false, bnd_eq, i64_wrap (by omega), dF (by omega), cond_false, gd_pos (by omega)]
      by_cases hz : ws.getD j 0 = 0
      · rw [dT hz, cond_true, gd_pos (by omega), f3 hz, dT rfl, Bool.not_true, cond_false]
        exact hnx _ trivial
      · rw [dF hz, cond_false]
        exact hnx _ trivial
    · refine loopK_rule (fun x : Int => ∃ k : Nat, x = (k : Int) ∧ k ≤ ws.length) (fun x => ws.length - x.toNat) ⟨0, rfl, by omega⟩ rfl ?_
      rintro _ again3 ⟨k, rfl, hk⟩ hag3
      by_cases hc3 : k < ws.length
      · rw [dT (by omega), cond_true, gd_pos (by omega), gd_pos (by omega), Int.toNat_natCast]
        by_cases hlt : ws.getD j 0 < ws.getD k 0
        · have h1 := hmono j k hc2 hc3 hlt
          have h2 := hat k hc3
          rw [dT hlt, cond_true, gd_pos (by omega), gd_pos (by omega), h2, dF (by omega), cond_false, bnd_eq, i64_wrap (by omega)]
          exact hag3 _ ⟨k + 1, by norm_cast, by omega⟩ (by omega)
        · rw [dF hlt, cond_false, bnd_eq, i64_wrap (by omega)]
          exact hag3 _ ⟨k + 1, by norm_cast, by omega⟩ (by omega)
      · rw [dF (by omega), cond_false, bnd_eq, i64_wrap (by omega)]
        exact hag2 _ ⟨j + 1, by norm_cast, by omega⟩ (by omega)
  · rw [dF (by omega), cond_false, dT rfl]
end Go.Proofs.YtekgjongmjnoaaaDoor
