/-
  The bytes of a record, and that both programs' Encode give them. No condition beyond what each line says.
-/
import Derived.Test.YtnhjoplleldbfaaDoorS
namespace Go.Proofs.YtnhjoplleldbfaaDoor
open Go Go.Nu
set_option linter.unusedVariables false

/-- A number with zeros in front. -/
def numW (n w : Nat) : List UInt8 := List.replicate (w - (Lib.itoa n).length) 48 ++ Lib.itoa n
theorem itoa_le (n : Nat) : (Lib.itoa n).length ≤ n + 1 := by rw [itoa_nat]; exact dec_len n
theorem numW_le (n w : Nat) : (numW n w).length ≤ w + n + 1 := by
  have := itoa_le n
  unfold numW
  rw [List.length_append, List.length_replicate]
  omega
theorem rep48 : ∀ k, Lib.repeatL [48] k = List.replicate k 48
  | 0 => rfl
  | k + 1 => by rw [Lib.repeatL, rep48 k]; rfl
theorem f23 (n w : Nat) (hn : n ≤ 100000000) (hw : w ≤ 100) : F23 n w = some (numW n w) := by
  unfold F23 fItoa
  have h1 := itoa_le n
  have h0 := numW_le n w
  unfold big
  rw [if_pos ⟨by omega, by omega⟩, bindO_some]
  simp only [bnd_eq]
  rw [i64_wrap (by omega)]
  have hm : max ((w : Int) - ((Lib.itoa n).length : Int)) 0 = ((w - (Lib.itoa n).length : Nat) : Int) := by omega
  rw [hm]
  unfold fRepeat
  rw [if_pos ⟨by omega, by omega, by simp only [List.length_singleton, Int.toNat_natCast]; omega⟩, bindO_some, toNat_nat, rep48]
  rw [gd_pos (by rw [List.length_replicate]; omega)]
  rfl
theorem f27 (n w : Nat) (h : n ≤ 100000000) (hw : w ≤ 100) : F27 n w = some (numW n w) := by
  unfold F27
  have hlen := dec_len n
  have hne := (dec_digits n).2.2.1
  refine loopK_rule (fun p : Int × List UInt8 => ∃ m : Nat, p.1 = m ∧ m ≤ n ∧ ((0 < m ∨ p.2 = []) ∧ Lib.decDigits m ++ p.2 = Lib.decDigits n ∨ m = 0 ∧ p.2 = Lib.decDigits n)) (fun p => if p.2 = [] then n + 1 else p.1.toNat) ⟨n, rfl, Nat.le_refl _, .inl ⟨.inr rfl, by simp⟩⟩ rfl ?_
  rintro ⟨_, out⟩ again ⟨m, rfl, hm, he⟩ hag
  simp only at he ⊢
  unfold big
  rcases he with ⟨hpos, he⟩ | ⟨rfl, he⟩
  · have hol : out.length ≤ n + 1 := by
      have := congrArg List.length he
      rw [List.length_append] at this; omega
    rw [jn_eq]
    dsimp only
    have ht : Int.tmod (m : Int) 10 = ((m % 10 : Nat) : Int) := by rw [Int.tmod_eq_emod_of_nonneg (by omega)]; omega
    have hd : Int.tdiv (m : Int) 10 = ((m / 10 : Nat) : Int) := by rw [Int.tdiv_eq_ediv_of_nonneg (by omega)]; omega
    have go : ∀ c d : Bool, (c = true ∨ d = true) → ∀ (x y : Option (List UInt8)), cond c x (cond d x y) = x := by
      intro c d hcd x y
      cases c <;> cases d <;> simp at hcd ⊢
    rw [go _ _ (hpos.elim (fun h => .inl (dT (by omega))) fun h => .inr (dT h))]
    simp only [bnd_eq, ht, hd]
    rw [i64_wrap (n := ((m % 10 : Nat) : Int) + 1) (by omega), i64_wrap (n := ((m / 10 : Nat) : Int)) (by omega)]
    simp only [toNat1, toNat_nat, digit_at (Nat.mod_lt m (by omega : 0 < 10))]
    rw [gd_pos (by decide), gd_pos (by decide), gd_pos (by simp only [List.length_cons, List.length_nil]; omega), gd_pos (by simp only [List.length_singleton]; omega), gd_pos (by decide)]
    refine hag _ ⟨m / 10, rfl, by omega, ?_⟩ ?_
    · by_cases h10 : m < 10
      · right
        rw [dec_lt h10] at he
        rw [Nat.mod_eq_of_lt h10]
        exact ⟨by omega, he⟩
      · left
        rw [dec_ge h10, List.append_assoc] at he
        exact ⟨.inl (by omega), he⟩
    · simp only [Int.toNat_natCast]
      rw [if_neg (by simp)]
      split
      · omega
      · rename_i ho
        rcases hpos with h | h
        · omega
        · exact absurd h ho
  · have hl : 0 < out.length := by rw [he]; exact List.length_pos_iff.2 hne
    have hne' : out ≠ [] := List.length_pos_iff.1 hl
    rw [jn_eq]
    dsimp only
    rw [dF (by omega), cond_false, dF hne', cond_false]
    clear hag
    refine loopK_rule (fun p => p.length ≤ max w out.length ∧ List.replicate (w - p.length) 48 ++ p = numW n w) (fun p => w - p.length) ⟨by omega, by rw [he, ← itoa_nat]; rfl⟩ rfl ?_
    rintro p again ⟨hp0, hp⟩ hag
    have hol : out.length ≤ n + 1 := by rw [he]; exact hlen
    by_cases hc : p.length < w
    · rw [dT (by omega), cond_true, gd_pos (by simp only [List.length_singleton]; omega), bnd_eq]
      refine hag _ ⟨by simp only [List.length_append, List.length_singleton]; omega, ?_⟩ (by simp only [List.length_append, List.length_singleton]; omega)
      rw [← hp, show w - p.length = (w - ([48] ++ p).length) + 1 by simp only [List.length_append, List.length_singleton]; omega, List.replicate_succ', List.append_assoc]
    · rw [dF (by omega), cond_false]
      rw [show w - p.length = 0 by omega] at hp
      exact congrArg some hp
end Go.Proofs.YtnhjoplleldbfaaDoor
