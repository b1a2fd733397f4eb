/-
  Chapter 11: the lines of records, as the program and the reference print them. No condition.
-/
import Derived.Test.YtggdnnjabdcgjaaGreatDoorR
namespace Go.Proofs.YtggdnnjabdcgjaaGreatDoor
open Go Go.Nu

theorem f46 (c : UInt8) : F44 c = some [mk c] := by
  unfold F44 mk
  by_cases h : c = 32
  · have : c.toNat = 32 := by32.2 h
    rw [dT (by omega), cond_true, if_pos h]
  · have : ¬ c.toNat = 32 := fun e => h (by32.1 e)
    rw [dF (by omega), cond_false, if_neg h]
theorem one_at (s : List UInt8) {i : Nat} (h : i < s.length) : List.drop i (List.take (i + 1) s) = [s.getD i 0] := by
  rw [List.drop_take, Nat.add_sub_cancel_left, drop_getD 0 h]
  rfl
theorem repl_drop {c : UInt8} {new s : List UInt8} {i : Nat} (h : i < s.length) : repl c new (s.drop i) = (if s.getD i 0 = c then new else [s.getD i 0]) ++ repl c new (s.drop (i + 1)) := by
  rw [drop_getD 0 h]; rfl
theorem by36 {a : UInt8} : a.toNat = 36 ↔ a = 36 := by rw [← UInt8.toNat_inj]; rfl
theorem f30 (f : Field) (hs : sizeS f.2.2.1) : F23 f = some (printP f) := by
  unfold F23 printP
  rw [f42 f hs, bindO_some]
  by_cases hz' : ¬ errF f = 0
  · rw [dF hz', Bool.not_false, cond_true, if_neg hz']
  have hz : errF f = 0 := Decidable.not_not.1 hz'
  rw [dT hz, Bool.not_true, cond_false, if_pos hz]
  have ok := okF_of hz
  have hlen := printF_len ok
  have hsl := ok.len
  have htot : f.1.length + (authS f.2.2.2).length + (repl 32 [35] f.2.1).length + (printS f.2.2.1).length + 2 ≤ 20000 := by
    have := hlen
    rw [printF_parts] at this
    simp only [List.length_append, List.length_cons] at this
    omega
  unfold big
  refine jn_rule (fun b => b = f.1 ++ authS f.2.2.2) (fun next hn => ?_) ?_
  · by_cases h0 : f.2.2.2 = 0
    · rw [dT h0, Bool.not_true, cond_false]
      exact hn _ (by unfold authS; rw [if_pos h0, List.append_nil])
    · rw [dF h0, Bool.not_false, cond_true]
      have hlo := ok.lo
      have hhi := ok.hi
      have e : authS f.2.2.2 = 64 :: Lib.itoa f.2.2.2 := by unfold authS; rw [if_neg h0]
      rw [e, List.length_cons] at htot
      have hn2 : f.2.2.2 = ((f.2.2.2.toNat : Nat) : Int) := by omega
      rw [gd_pos (by simp only [List.length_singleton]; omega), bnd_eq]
      have := f45 f.2.2.2.toNat (by omega) (by omega)
      rw [← hn2] at this
      rw [this, bindO_some, gd_pos (by simp only [List.length_append, List.length_singleton]; omega), bnd_eq]
      exact hn _ (by rw [e, List.append_assoc]; rfl)
  rintro _ rfl
  obtain ⟨a, b, hind, _⟩ := ind_len ok.ind
  rw [hind, repl_ind] at htot
  simp only [List.length_cons, List.length_nil] at htot
  simp only [bnd_eq, hind, show Int.toNat (0 : Int) = 0 from rfl, show Int.toNat (1 : Int) = 1 from rfl, show List.getD [a, b] 0 0 = a from rfl, show List.getD [a, b] 1 0 = b from rfl, f46, bindO_some]
  rw [gd_pos (by simp only [List.length_append, List.length_singleton]; omega), gd_pos (by simp), gd_pos (by simp only [List.length_append, List.length_singleton]; omega), gd_pos (by simp), gd_pos (by simp only [List.length_append, List.length_singleton]; omega), gd_pos (by simp only [List.length_append, List.length_singleton]; omega)]
  have hpf : printF f = (f.1 ++ authS f.2.2.2) ++ 32 :: ([mk a, mk b] ++ 32 :: printS f.2.2.1) := by rw [printF_parts, hind, repl_ind]
  refine loopK_rule (fun p : List UInt8 × Int => ∃ i : Nat, p.2 = i ∧ i ≤ f.2.2.1.length ∧ p.1 ++ printS (f.2.2.1.drop i) = printF f) (fun p => f.2.2.1.length - p.2.toNat)
    ⟨0, rfl, Nat.zero_le _, by rw [hpf]; simp [List.append_assoc]⟩ rfl ?_
  rintro ⟨b1, _⟩ again ⟨i, rfl, hi, he⟩ hag
  simp only at he ⊢
  have hl := congrArg List.length he
  rw [List.length_append] at hl
  by_cases hlt : i < f.2.2.1.length
  · rw [dT (by omega), cond_true]
    simp only [toNat_nat]
    rw [printS_drop hlt] at he hl
    have hsub := hs _ (getD_mem (0, []) hlt)
    generalize hx : f.2.2.1.getD i (0, []) = x at *
    simp only [List.length_cons, List.length_append] at hl
    rw [gd_pos (by simp only [List.length_singleton]; omega), gd_pos (by omega), gd_pos (by simp only [List.length_append, List.length_singleton]; omega), gd_pos (by omega)]
    refine loopK_rule (fun q : List UInt8 × Int => ∃ j : Nat, q.2 = j ∧ j ≤ x.2.length ∧ q.1 ++ (repl 36 [36, 36] (x.2.drop j) ++ printS (f.2.2.1.drop (i + 1))) = printF f) (fun q => x.2.length - q.2.toNat)
      ⟨0, rfl, Nat.zero_le _, by rw [← he]; simp [List.append_assoc]⟩ rfl ?_
    rintro ⟨b2, _⟩ again2 ⟨j, rfl, hj, he2⟩ hag2
    simp only at he2 ⊢
    have hl2 := congrArg List.length he2
    simp only [List.length_append] at hl2
    by_cases hlt2 : j < x.2.length
    · rw [dT (by omega), cond_true]
      simp only [toNat_nat]
      rw [repl_drop hlt2] at he2 hl2
      refine jn_rule (fun b => b = b2 ++ (if x.2.getD j 0 = 36 then [36] else [])) (fun next hn => ?_) ?_
      · rw [gd_pos (by omega)]
        by_cases h36 : x.2.getD j 0 = 36
        · have := by36.2 h36
          rw [dT (by omega), cond_true]
          rw [if_pos h36] at hl2
          simp only [List.length_append, List.length_cons, List.length_nil] at hl2
          rw [gd_pos (by simp only [List.length_singleton]; omega)]
          exact hn _ (by rw [if_pos h36])
        · have : ¬ (x.2.getD j 0).toNat = 36 := fun e => h36 (by36.1 e)
          rw [dF (by omega), cond_false]
          exact hn _ (by rw [if_neg h36, List.append_nil])
      rintro _ rfl
      rw [i64_wrap (by omega), gd_pos (by omega), toNat1, one_at x.2 hlt2]
      have hlen2 : (b2 ++ (if x.2.getD j 0 = 36 then [36] else [])).length + 1 ≤ 20000 := by
        rw [List.length_append]
        split at hl2 <;> rename_i h36
        · rw [if_pos h36]; simp only [List.length_append, List.length_cons, List.length_nil] at hl2 ⊢; omega
        · rw [if_neg h36]; simp only [List.length_append, List.length_cons, List.length_nil] at hl2 ⊢; omega
      rw [gd_pos (by simp only [List.length_singleton]; omega)]
      refine hag2 _ ⟨j + 1, by simp, by omega, ?_⟩ (by simp only []; omega)
      rw [← he2]
      by_cases h36 : x.2.getD j 0 = 36
      · rw [if_pos h36, if_pos h36, h36]; simp [List.append_assoc]
      · rw [if_neg h36, if_neg h36]; simp [List.append_assoc]
    · rw [dF (by omega), cond_false, i64_wrap (by omega)]
      rw [List.drop_eq_nil_of_le (by omega)] at he2
      exact hag _ ⟨i + 1, by simp, by omega, he2⟩ (by simp only []; omega)
  · rw [dF (by omega), cond_false]
    rw [List.drop_eq_nil_of_le (by omega)] at he
    rw [← he]
    simp [printS]

/-! ### records -/
end Go.Proofs.YtggdnnjabdcgjaaGreatDoor
