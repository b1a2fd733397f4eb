/-
  Chapter 6: what the functions compute: digests.
-/
import Derived.Test.YthpgkpcnajookaaGreatDoorF
namespace Go.Proofs.YthpgkpcnajookaaGreatDoor
open Go Go.Nu

attribute [local simp] bnd gdN_self bindO_some

/-! ### hexadecimal digits -/
def hexOf (u : Nat) : List UInt8 := if u < 16 then [dg u] else hexOf (u / 16) ++ [dg (u % 16)]
termination_by u
decreasing_by omega
theorem hexOf_lt {u : Nat} (h : u < 16) : hexOf u = [dg u] := by rw [hexOf, if_pos h]
theorem hexOf_ge {u : Nat} (h : ¬ u < 16) : hexOf u = hexOf (u / 16) ++ [dg (u % 16)] := by rw [hexOf, if_neg h]
theorem hexPad_len : ∀ n u, (hexPad n u).length = n
  | 0, _ => rfl
  | n + 1, u => by simp [hexPad, hexPad_len n]
theorem hexPad_zero : ∀ n, hexPad n 0 = List.replicate n 48
  | 0 => rfl
  | n + 1 => by
    rw [hexPad, Nat.zero_div, hexPad_zero n, List.replicate_succ']
    rfl
theorem hexPad_eq : ∀ (n u : Nat), u < 16 ^ (n + 1) → (hexOf u).length ≤ n + 1 ∧ hexPad (n + 1) u = List.replicate (n + 1 - (hexOf u).length) 48 ++ hexOf u
  | 0, u, h => by
    have h : u < 16 := by simpa using h
    rw [hexOf_lt h]
    refine ⟨by simp, ?_⟩
    simp [hexPad, Nat.mod_eq_of_lt h]
  | n + 1, u, h => by
    by_cases hu : u < 16
    · rw [hexOf_lt hu]
      refine ⟨by simp, ?_⟩
      rw [hexPad, Nat.div_eq_of_lt hu, hexPad_zero, Nat.mod_eq_of_lt hu]
      simp
    · have h2 : u / 16 < 16 ^ (n + 1) := by
        rw [Nat.pow_succ] at h
        omega
      obtain ⟨h3, h4⟩ := hexPad_eq n (u / 16) h2
      rw [hexOf_ge hu]
      refine ⟨by simp; omega, ?_⟩
      rw [hexPad, h4, List.length_append, List.append_assoc]
      simp
theorem dg_hex : ∀ n, (48 ≤ (dg n).toNat ∧ (dg n).toNat ≤ 57) ∨ (97 ≤ (dg n).toNat ∧ (dg n).toNat ≤ 102) ∨ 16 ≤ n := by
  intro n
  rcases Nat.lt_or_ge n 16 with h | h
  · have : ∀ k : Fin 16, (48 ≤ (dg k).toNat ∧ (dg k).toNat ≤ 57) ∨ (97 ≤ (dg k).toNat ∧ (dg k).toNat ≤ 102) := by decide
    rcases this ⟨n, h⟩ with h | h
    · exact .inl h
    · exact .inr (.inl h)
  · exact .inr (.inr h)

theorem and15 (u : Nat) (h : u < 18446744073709551616) : andI .u64 (u : Int) 15 = ((u % 16 : Nat) : Int) := by
  unfold andI
  have e1 : (BitVec.ofInt IntKind.u64.bits (u : Int)) = BitVec.ofNat 64 u := by simp [IntKind.bits]
  have e2 : (BitVec.ofInt IntKind.u64.bits (15 : Int)) = BitVec.ofNat 64 15 := by simp [IntKind.bits]
  rw [e1, e2]
  have e3 : (BitVec.ofNat 64 u &&& BitVec.ofNat 64 15).toNat = u % 16 := by
    rw [BitVec.toNat_and, BitVec.toNat_ofNat, BitVec.toNat_ofNat, Nat.mod_eq_of_lt (a := u) (by omega), show (15 : Nat) % 2 ^ 64 = 2 ^ 4 - 1 by decide, Nat.and_two_pow_sub_one_eq_mod]
  show IntKind.u64.wrap ((BitVec.ofNat 64 u &&& BitVec.ofNat 64 15).toNat : Int) = _
  rw [e3]
  exact u64_wrap (by omega)
theorem shr4 (u : Nat) : shrI .u64 (u : Int) 4 = ((u / 16 : Nat) : Int) := by
  unfold shrI
  show (u : Int).fdiv (2 ^ (min (4 : Int).toNat 64)) = _
  rw [show (2 : Int) ^ (min (4 : Int).toNat 64) = 16 by decide, Int.fdiv_eq_ediv_of_nonneg _ (by omega)]
  omega
theorem digs (n : Nat) (h : n < 16) : ([48, 49, 50, 51, 52, 53, 54, 55, 56, 57, 97, 98, 99, 100, 101, 102, 103, 104, 105, 106, 107, 108, 109, 110, 111, 112, 113, 114, 115, 116, 117, 118, 119, 120, 121, 122] : List UInt8).getD n 0 = dg n := by
  unfold dg
  have : ∀ k : Fin 16, ([48, 49, 50, 51, 52, 53, 54, 55, 56, 57, 97, 98, 99, 100, 101, 102, 103, 104, 105, 106, 107, 108, 109, 110, 111, 112, 113, 114, 115, 116, 117, 118, 119, 120, 121, 122] : List UInt8).getD k.val 0 = ([48, 49, 50, 51, 52, 53, 54, 55, 56, 57, 97, 98, 99, 100, 101, 102] : List UInt8).getD k.val 0 := by decide
  exact this ⟨n, h⟩
theorem drop_set {l : List UInt8} {n : Nat} {x : UInt8} (h : n < l.length) : (l.set n x).drop n = x :: l.drop (n + 1) := by
  rw [List.drop_eq_getElem_cons (by simpa using h), List.drop_set_of_lt (by omega)]
  simp

theorem f66 : F117 16 = some true := by
  unfold F117
  simp only [bnd]
  rw [i64_wrap (by omega)]
  have : andI .i64 16 (16 - 1) = 0 := by unfold andI; decide
  rw [this]
  rfl
theorem fTZ16 : fTZ 16 = some 4 := by
  unfold fTZ
  rw [if_pos (by omega)]
  rfl

set_option maxRecDepth 4000 in
theorem f54 (u0 : Nat) (hu : u0 < 18446744073709551616) : F96 [] (u0 : Int) 16 false false = some ([], hexOf u0) := by
  unfold F96
  simp only [show ¬ ((16 : Int) < 2) by omega, show ¬ ((16 : Int) = 10) by omega, show ¬ ((36 : Int) < 16) by omega, decide_false, cond_false, cond_true, jn_eq, f66, bindO_some, fTZ16, bnd]
  rw [u64_wrap (n := 16) (by omega), u64_wrap (n := 16 - 1) (by omega), fTZ16, bindO_some, u64_wrap (n := 4) (by omega)]
  refine loopK_rule (fun x => ∃ u i : Nat, x.1 = u ∧ x.2.1 = i ∧ u < 16 ^ (i - 49) ∧ 49 ≤ i ∧ i ≤ 65 ∧ x.2.2.length = 65 ∧ hexOf u0 = hexOf u ++ x.2.2.drop i)
    (fun x => x.2.1.toNat) ⟨u0, 65, rfl, rfl, hu, by omega, by omega, by simp, by simp⟩ rfl ?_
  rintro ⟨u', i', L⟩ again ⟨u, i, e1, e2, h1, h2, h3, h4, h5⟩ hag
  simp only [] at e1 e2 h4 h5 hag
  subst e1 e2
  simp only []
  have hlt : u < 18446744073709551616 := by
    have : 16 ^ (i - 49) ≤ 16 ^ 16 := Nat.pow_le_pow_right (by omega) (by omega)
    omega
  by_cases hc : 16 ≤ u
  · have hi : 50 ≤ i := by
      rcases Nat.lt_or_ge i 50 with hh | hh
      · have : i - 49 = 0 := by omega
        rw [this] at h1
        omega
      · exact hh
    have hm := digs (u % 16) (by omega)
    rw [decide_eq_true (by omega), cond_true, i64_wrap (by omega), show (16 : Int) - 1 = 15 by omega, and15 u hlt, shr4]
    rw [gd_pos (by simp; omega), gd_pos (by omega), gd_pos (by omega), gd_pos (by omega)]
    rw [show (((u % 16 : Nat) : Int)).toNat = u % 16 by omega, hm, show ((i : Int) - 1).toNat = i - 1 by omega]
    refine hag _ ⟨u / 16, i - 1, rfl, by simp; omega, ?_, by omega, by omega, by simpa using h4, ?_⟩ (by simp; omega)
    · rw [show i - 49 = i - 1 - 49 + 1 by omega, Nat.pow_succ] at h1
      omega
    · rw [drop_set (by omega), h5, hexOf_ge (by omega), show i - 1 + 1 = i by omega]
      simp
  · have hm := digs u (by omega)
    rw [decide_eq_false (by omega), cond_false, i64_wrap (by omega), gd_pos (by simp; omega), gd_pos (by omega), gd_pos (by omega)]
    rw [gd_pos (by simp; omega)]
    rw [show ((u : Int)).toNat = u by omega, hm, show ((i : Int) - 1).toNat = i - 1 by omega, drop_set (by omega), h5, hexOf_lt (by omega), show i - 1 + 1 = i by omega]
    rfl

theorem f31 (u0 : Nat) (hu : u0 < 18446744073709551616) : F63 (u0 : Int) 16 = some (hexOf u0) := by
  unfold F63 F81
  simp only [show ¬ ((16 : Int) = 10) by omega, decide_false, cond_false, f54 u0 hu, bindO_some]

end Go.Proofs.YthpgkpcnajookaaGreatDoor
