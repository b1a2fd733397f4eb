/-
  Chapter 47: numbers, days, rights, the bodies of entries. No condition beyond what each line says.
-/
import Derived.Test.YtecjedagdpnemaaGreatDoorB
namespace Go.Proofs.YtecjedagdpnemaaGreatDoor
open Go Go.Nu
set_option linter.unusedVariables false
theorem c_and {a b : Prop} [Decidable a] [Decidable b] : (cond (decide a) (some (decide b)) (some false) : Option Bool) = some (decide (a ∧ b)) := by
  by_cases h : a
  · rw [decide_eq_true h, cond_true]; simp [h]
  · rw [decide_eq_false h, cond_false]; simp [h]
theorem c36 (n : Int) : F36 n = some (idB n) := c_and
theorem c37 (n : Int) : F37 n = some (dayB n) := c_and
theorem c77l (n : Int) : F77 n 1 4 = some (lvB n) := c_and
theorem c77d (n : Int) : F77 n 0 109572 = some (dayB n) := c_and
theorem c77g (n : Int) : F77 n 0 99 = some (decide (0 ≤ n ∧ n ≤ 99)) := c_and
theorem c39 (r : Rts) : F39 r = some (rgtP r) := by
  obtain ⟨l, g, u, t⟩ := r
  unfold F39 rgtP
  simp only [jn_eq, c77l, c77d, c77g, bindO_some]
  cases h1 : lvB l <;> cases h2 : lvB t <;> cases h3 : dayB u <;> by_cases h4 : u = 0 <;> by_cases h5 : t = 0 <;> by_cases h6 : 0 ≤ g ∧ g ≤ 99 <;> by_cases h7 : 0 < g <;> by_cases h8 : l = 2 <;> by_cases h9 : t = 2 <;> simp [h4, h5, h6, h7, h8, h9]
def inR (n : Int) : Prop := -9223372036854775808 ≤ n ∧ n ≤ 9223372036854775807
theorem dec_20 {n : Int} (h : inR n) : (Lib.decDigits n.natAbs).length ≤ 20 := dec_len9 19 _ (by unfold inR at h; omega)
theorem itoa_len {n : Int} (h : inR n) : (Lib.itoa n).length ≤ 21 := by
  have := dec_20 h
  unfold Lib.itoa
  split
  · rw [List.length_cons]; omega
  · rw [show n.toNat = n.natAbs by omega]; omega
def sg (n : Int) (m : Nat) : Int := if n < 0 then -(m : Int) else m
theorem sg_div (n : Int) (m : Nat) : Int.tdiv (sg n m) 10 = sg n (m / 10) := by
  unfold sg
  split
  · rw [Int.neg_tdiv, Int.tdiv_eq_ediv_of_nonneg (by omega)]; omega
  · rw [Int.tdiv_eq_ediv_of_nonneg (by omega)]; omega
theorem sg_mod (n : Int) (m : Nat) : Int.tmod (sg n m) 10 = sg n (m % 10) := by
  unfold sg
  split
  · rw [Int.neg_tmod, Int.tmod_eq_emod_of_nonneg (by omega)]; omega
  · rw [Int.tmod_eq_emod_of_nonneg (by omega)]; omega
theorem sg_zero (n : Int) (m : Nat) : sg n m = 0 ↔ m = 0 := by unfold sg; split <;> omega
theorem sg_in {n : Int} (h : inR n) {m : Nat} (hm : m ≤ n.natAbs) : inR (sg n m) := by unfold inR at *; unfold sg; split <;> omega
theorem c93 (n : Int) (h : inR n) : F93 n = some (Lib.itoa n) := by
  unfold F93
  by_cases h0 : n = 0
  · subst h0
    rw [dT rfl, cond_true]
    congr 1
    show _ = Lib.decDigits 0
    rw [dec_lt (by omega)]; rfl
  rw [dF h0, cond_false]
  have hd := dec_20 h
  refine jn_rule (fun j => j = if n < 0 then [45] else []) (fun next hn => ?_) ?_
  · by_cases hl : n < 0
    · rw [dT hl, cond_true]; exact hn _ (by rw [if_pos hl])
    · rw [dF hl, cond_false]; exact hn _ (by rw [if_neg hl])
  rintro _ rfl
  have hi : (if n < 0 then [45] else []) ++ Lib.decDigits n.natAbs = Lib.itoa n := by
    unfold Lib.itoa
    split
    · rfl
    · rw [show n.toNat = n.natAbs by omega]; rfl
  refine loopK_rule (fun p : Int × List UInt8 => ∃ (m : Nat) (s : List UInt8), p = (sg n m, s) ∧ m ≤ n.natAbs ∧ ((m = 0 ∧ s = Lib.decDigits n.natAbs) ∨ (m ≠ 0 ∧ Lib.decDigits m ++ s = Lib.decDigits n.natAbs))) (fun p => p.1.natAbs)
    ⟨n.natAbs, [], by unfold sg; congr 1; split <;> omega, Nat.le_refl _, .inr ⟨by omega, List.append_nil _⟩⟩ rfl ?_
  rintro _ again ⟨m, s, rfl, hm, hs⟩ hag
  simp only []
  rcases hs with ⟨rfl, rfl⟩ | ⟨hm0, hs⟩
  · rw [show sg n 0 = 0 by unfold sg; split <;> rfl, dT rfl, Bool.not_true, cond_false, gd_pos (by unfold big; split <;> simp <;> omega), bnd_eq, hi]
  · have hsl := congrArg List.length hs
    rw [List.length_append] at hsl
    have hr := sg_in h hm
    rw [dF (fun e => hm0 ((sg_zero n m).1 e)), Bool.not_false, cond_true, gd_pos (by omega), bnd_eq, sg_mod]
    refine jn_rule (fun d => d = ((m % 10 : Nat) : Int)) (fun next hn => ?_) ?_
    · by_cases hl : sg n (m % 10) < 0
      · rw [dT hl, cond_true, bnd_eq, i64_wrap (by unfold sg at *; split <;> omega)]
        refine hn _ ?_
        unfold sg at *
        split at hl <;> omega
      · rw [dF hl, cond_false]
        refine hn _ ?_
        unfold sg at *
        split at hl <;> simp_all <;> omega
    · rintro _ rfl
      have hd10 : m % 10 < 10 := Nat.mod_lt _ (by omega)
      have hw8 : IntKind.wrap .u8 ((48 : Int) + ((m % 10 : Nat) : Int)) = (48 : Int) + ((m % 10 : Nat) : Int) := by rw [IntKind.wrap_u8]; omega
      rw [bnd_eq, i64_wrap (by omega), hw8, gd_pos (by omega), gd_pos (by unfold big; simp only [List.length_cons, List.length_nil]; omega), bnd_eq, gd_pos (by omega), bnd_eq, sg_div,
        i64_wrap (sg_in h (Nat.le_trans (Nat.div_le_self _ _) hm)), show ((48 : Int) + ((m % 10 : Nat) : Int)).toNat = 48 + m % 10 by omega]
      refine hag _ ⟨m / 10, [UInt8.ofNat (48 + m % 10)] ++ s, rfl, Nat.le_trans (Nat.div_le_self _ _) hm, ?_⟩ ?_
      · by_cases h10 : m < 10
        · refine .inl ⟨Nat.div_eq_of_lt h10, ?_⟩
          rw [← hs, dec_lt h10, Nat.mod_eq_of_lt h10]
        · refine .inr ⟨by omega, ?_⟩
          rw [← hs, dec_ge h10, List.append_assoc]
      · have : m / 10 < m := Nat.div_lt_self (by omega) (by omega)
        simp only []
        unfold sg
        split <;> omega
def inX (x : Fix) : Prop := inR x.1 ∧ inR x.2.1 ∧ inR x.2.2.1 ∧ x.2.2.2.1.length ≤ 1000 ∧ x.2.2.2.2.1.length ≤ 1000
theorem body_len {x : Fix} (h : inX x) : (bodyP x).length ≤ 2000 := by
  have h1 := itoa_len h.1
  have h2 := itoa_len h.2.1
  have h3 := itoa_len h.2.2.1
  have h4 := h.2.2.2.1
  unfold bodyP
  simp only [List.length_append, List.length_cons]
  omega
theorem c75 (x : Fix) (h : inX x) : F75 x = some (bodyP x) := by
  have h1 := itoa_len h.1
  have h2 := itoa_len h.2.1
  have h3 := itoa_len h.2.2.1
  have h4 := h.2.2.2.1
  unfold F75
  refine jn_rule (fun j => j = if x.2.2.2.2.2 = true then [49] else [48]) (fun next hn => ?_) ?_
  · cases hb : x.2.2.2.2.2
    · exact hn _ (by rw [hb]; rfl)
    · exact hn _ (by rw [hb]; rfl)
  rintro _ rfl
  have hl : (if x.2.2.2.2.2 = true then ([49] : List UInt8) else [48]).length = 1 := by split <;> rfl
  rw [c93 _ h.1, bindO_some]
  simp only [bnd_eq, c93 _ h.2.1, c93 _ h.2.2.1, bindO_some]
  rw [gd_pos (by unfold big; simp only [List.length_cons, List.length_nil]; omega), gd_pos (by unfold big; simp only [List.length_append, List.length_cons, List.length_nil]; omega), gd_pos (by unfold big; simp only [List.length_append, List.length_cons, List.length_nil]; omega),
    gd_pos (by unfold big; simp only [List.length_append, List.length_cons, List.length_nil]; omega), gd_pos (by unfold big; simp only [List.length_append, List.length_cons, List.length_nil]; omega), gd_pos (by unfold big; simp only [List.length_append, List.length_cons, List.length_nil, hl]; omega),
    gd_pos (by unfold big; simp only [List.length_append, List.length_cons, List.length_nil, hl]; omega), gd_pos (by unfold big; simp only [List.length_append, List.length_cons, List.length_nil, hl]; omega)]
  unfold bodyP
  congr 1
  split <;> simp
theorem c74 (x : Fix) (h : inX x) : F74 x = some (bodyP x) := by
  have h1 := itoa_len h.1
  have h2 := itoa_len h.2.1
  have h3 := itoa_len h.2.2.1
  have h4 := h.2.2.2.1
  unfold F74
  refine jn_rule (fun j => j = if x.2.2.2.2.2 = true then [49] else [48]) (fun next hn => ?_) ?_
  · cases hb : x.2.2.2.2.2
    · exact hn _ (by rw [hb]; rfl)
    · exact hn _ (by rw [hb]; rfl)
  rintro _ rfl
  have hi : ∀ n, inR n → fItoa n = some (Lib.itoa n) := fun n hn => if_pos hn
  rw [hi _ h.1, bindO_some, hi _ h.2.1, bindO_some, hi _ h.2.2.1, bindO_some]
  have hj : Lib.join [Lib.itoa x.1, Lib.itoa x.2.1, Lib.itoa x.2.2.1, (if x.2.2.2.2.2 = true then [49] else [48]), x.2.2.2.1] [32] = bodyP x := by
    unfold bodyP
    split <;> simp [Lib.join]
  have hb := body_len h
  unfold fJoin
  rw [if_pos ⟨by simp, by rw [hj]; omega⟩, bindO_some, hj]
end Go.Proofs.YtecjedagdpnemaaGreatDoor
