/-
  Chapter 11: texts: the program's test and the reference's are one. No condition.
-/
import Derived.Test.YtnhjoplleldbfaaDoorK4
import Derived.Lib.ValidLaws
import Derived.Lib.TrimUEq
namespace Go.Proofs.YtnhjoplleldbfaaDoor
open Go Go.Nu

theorem gd_if {β : Type} {c : Prop} [Decidable c] {x : Option β} : gd c x = if c then x else none := rfl
theorem bnd_eq {α β : Type} {a : α} {k : α → Option β} : bnd a k = k a := rfl
theorem drop_getD {α : Type} {l : List α} {i : Nat} (d : α) (h : i < l.length) : l.drop i = l.getD i d :: l.drop (i + 1) := by
  rw [List.drop_eq_getElem_cons h, List.getD_eq_getElem?_getD, List.getElem?_eq_getElem h]; rfl

/-- The reference's decoder, in numbers. -/
def decR (n b0 b1 b2 : Nat) : Nat × Nat :=
  if 32 ≤ b0 ∧ b0 < 127 then (b0, 1)
  else if 194 ≤ b0 ∧ b0 < 224 ∧ 1 < n ∧ 128 ≤ b1 ∧ b1 < 192 then (if 160 ≤ (b0 - 192) * 64 + (b1 - 128) then ((b0 - 192) * 64 + (b1 - 128), 2) else (0, 0))
  else if 224 ≤ b0 ∧ b0 < 240 ∧ 2 < n ∧ 128 ≤ b1 ∧ b1 < 192 ∧ 128 ≤ b2 ∧ b2 < 192 then
    (if 2048 ≤ (b0 - 224) * 4096 + (b1 - 128) * 64 + (b2 - 128) ∧ ((b0 - 224) * 4096 + (b1 - 128) * 64 + (b2 - 128) < 55296 ∨ 57343 < (b0 - 224) * 4096 + (b1 - 128) * 64 + (b2 - 128))
     then ((b0 - 224) * 4096 + (b1 - 128) * 64 + (b2 - 128), 3) else (0, 0))
  else (0, 0)
/-- A character that a text may have. -/
def okC (c : Nat) : Prop := 32 ≤ c ∧ ¬ (127 ≤ c ∧ c ≤ 159) ∧ c ≤ 65535
instance (c : Nat) : Decidable (okC c) := by unfold okC; infer_instance
set_option maxRecDepth 100000 in
set_option maxHeartbeats 2000000 in
theorem decR_eq (n b0 b1 b2 b3 : Nat) (h0 : b0 < 256) (h1 : b1 < 256) (h2 : b2 < 256) (h3 : b3 < 256) (hn : 0 < n) :
    (decR n b0 b1 b2).2 = if Lib.decodeN n b0 b1 b2 b3 = (65533, 1) ∨ ¬ okC (Lib.decodeN n b0 b1 b2 b3).1 then 0 else (Lib.decodeN n b0 b1 b2 b3).2 := by
  by_cases a0 : b0 < 128
  · have e : Lib.decodeN n b0 b1 b2 b3 = (b0, 1) := by unfold Lib.decodeN; rw [if_pos a0]
    rw [e]
    unfold decR okC
    by_cases a1 : 32 ≤ b0 ∧ b0 < 127
    · rw [if_pos a1, if_neg]
      simp only [Prod.mk.injEq]; omega
    · rw [if_neg a1, if_neg (by omega), if_neg (by omega), if_pos]
      simp only [Prod.mk.injEq]; omega
  · by_cases a1 : b0 / 32 = 6 ∧ (1 < n ∧ b1 / 64 = 2)
    · have e : Lib.decodeN n b0 b1 b2 b3 = if b0 % 32 * 64 + b1 % 64 ≥ 128 then (b0 % 32 * 64 + b1 % 64, 2) else (65533, 1) := by unfold Lib.decodeN; rw [if_neg a0, if_pos a1]
      have ex : b0 % 32 * 64 + b1 % 64 = (b0 - 192) * 64 + (b1 - 128) := by omega
      rw [ex] at e
      generalize hc : (b0 - 192) * 64 + (b1 - 128) = c at e
      have hR : decR n b0 b1 b2 = if 194 ≤ b0 ∧ 160 ≤ c then (c, 2) else (0, 0) := by
        unfold decR
        rw [if_neg (by omega), hc]
        by_cases a2 : 194 ≤ b0
        · rw [if_pos (by omega)]
          by_cases a3 : 160 ≤ c
          · rw [if_pos a3, if_pos ⟨a2, a3⟩]
          · rw [if_neg a3, if_neg (fun h => a3 h.2)]
        · rw [if_neg (by omega), if_neg (by omega), if_neg (fun h => a2 h.1)]
      rw [hR, e]
      unfold okC
      by_cases a2 : 194 ≤ b0 ∧ 160 ≤ c
      · rw [if_pos a2, if_pos (show c ≥ 128 by omega), if_neg]
        simp only [Prod.mk.injEq]; omega
      · rw [if_neg a2]
        by_cases a4 : c ≥ 128
        · rw [if_pos a4, if_pos]
          simp only [Prod.mk.injEq]; omega
        · rw [if_neg a4, if_pos (.inl rfl)]
    · by_cases a2 : b0 / 16 = 14 ∧ (1 < n ∧ b1 / 64 = 2) ∧ (2 < n ∧ b2 / 64 = 2)
      · have e : Lib.decodeN n b0 b1 b2 b3 = if b0 % 16 * 4096 + b1 % 64 * 64 + b2 % 64 ≥ 2048 ∧ (b0 % 16 * 4096 + b1 % 64 * 64 + b2 % 64 < 55296 ∨ (57344 ≤ b0 % 16 * 4096 + b1 % 64 * 64 + b2 % 64 ∧ b0 % 16 * 4096 + b1 % 64 * 64 + b2 % 64 ≤ 1114111))
            then (b0 % 16 * 4096 + b1 % 64 * 64 + b2 % 64, 3) else (65533, 1) := by unfold Lib.decodeN; rw [if_neg a0, if_neg a1, if_pos a2]
        have ex : b0 % 16 * 4096 + b1 % 64 * 64 + b2 % 64 = (b0 - 224) * 4096 + (b1 - 128) * 64 + (b2 - 128) := by omega
        rw [ex] at e
        have hc2 : (b0 - 224) * 4096 + (b1 - 128) * 64 + (b2 - 128) ≤ 65535 := by omega
        generalize hc : (b0 - 224) * 4096 + (b1 - 128) * 64 + (b2 - 128) = c at e hc2
        have hR : decR n b0 b1 b2 = if 2048 ≤ c ∧ (c < 55296 ∨ 57343 < c) then (c, 3) else (0, 0) := by
          unfold decR
          rw [if_neg (by omega), if_neg (by omega), if_pos (by omega), hc]
        rw [hR, e]
        unfold okC
        by_cases a3 : 2048 ≤ c ∧ (c < 55296 ∨ 57343 < c)
        · rw [if_pos a3, if_pos (show c ≥ 2048 ∧ (c < 55296 ∨ 57344 ≤ c ∧ c ≤ 1114111) by omega), if_neg]
          simp only [Prod.mk.injEq]; omega
        · rw [if_neg a3, if_neg (show ¬ (c ≥ 2048 ∧ (c < 55296 ∨ 57344 ≤ c ∧ c ≤ 1114111)) by omega), if_pos (.inl rfl)]
      · have hR : (decR n b0 b1 b2).2 = 0 := by
          unfold decR
          rw [if_neg (by omega), if_neg (by omega), if_neg (by omega)]
        rw [hR]
        have e : Lib.decodeN n b0 b1 b2 b3 = if b0 / 8 = 30 ∧ (1 < n ∧ b1 / 64 = 2) ∧ (2 < n ∧ b2 / 64 = 2) ∧ (3 < n ∧ b3 / 64 = 2) then
            (if b0 % 8 * 262144 + b1 % 64 * 4096 + b2 % 64 * 64 + b3 % 64 ≥ 65536 ∧ (b0 % 8 * 262144 + b1 % 64 * 4096 + b2 % 64 * 64 + b3 % 64 < 55296 ∨ (57344 ≤ b0 % 8 * 262144 + b1 % 64 * 4096 + b2 % 64 * 64 + b3 % 64 ∧ b0 % 8 * 262144 + b1 % 64 * 4096 + b2 % 64 * 64 + b3 % 64 ≤ 1114111))
             then (b0 % 8 * 262144 + b1 % 64 * 4096 + b2 % 64 * 64 + b3 % 64, 4) else (65533, 1)) else (65533, 1) := by unfold Lib.decodeN; rw [if_neg a0, if_neg a1, if_neg a2]
        rw [e]
        split
        · split
          · rw [if_pos]; unfold okC; simp only [Prod.mk.injEq]; omega
          · rw [if_pos (.inl rfl)]
        · rw [if_pos (.inl rfl)]

/-- How many bytes the character at the head has; 0: there is none that a text may have. -/
def dec0 (l : List UInt8) : Nat := (decR l.length (l.getD 0 0).toNat (l.getD 1 0).toNat (l.getD 2 0).toNat).2
theorem dec0_eq {l : List UInt8} (hne : l ≠ []) : dec0 l = if Lib.decodeL l = (65533, 1) ∨ ¬ okC (Lib.decodeL l).1 then 0 else (Lib.decodeL l).2 := by
  rw [Lib.decodeL_N]
  exact decR_eq _ _ _ _ _ (UInt8.toNat_lt _) (UInt8.toNat_lt _) (UInt8.toNat_lt _) (UInt8.toNat_lt _) (List.length_pos_iff.2 hne)
def validG : Nat → List UInt8 → Bool
  | 0, l => l.isEmpty
  | f + 1, l => if l = [] then true else if dec0 l = 0 then false else validG f (l.drop (dec0 l))
def validT (l : List UInt8) : Bool := validG l.length l
theorem validG_fuel : ∀ (f g : Nat) (l : List UInt8), l.length ≤ f → l.length ≤ g → validG f l = validG g l
  | 0, 0, _, _, _ => rfl
  | 0, g + 1, l, h, _ => by
    have : l = [] := List.length_eq_zero_iff.1 (by omega)
    subst this; rfl
  | f + 1, 0, l, _, h => by
    have : l = [] := List.length_eq_zero_iff.1 (by omega)
    subst this; rfl
  | f + 1, g + 1, l, h1, h2 => by
    unfold validG
    split
    · rfl
    · split
      · rfl
      · refine validG_fuel f g _ ?_ ?_ <;> rw [List.length_drop] <;> omega
theorem validT_nil : validT [] = true := rfl
theorem validT_step {l : List UInt8} (hne : l ≠ []) : validT l = if dec0 l = 0 then false else validT (l.drop (dec0 l)) := by
  have hl : 0 < l.length := List.length_pos_iff.2 hne
  unfold validT
  obtain ⟨n, hn⟩ : ∃ n, l.length = n + 1 := ⟨l.length - 1, by omega⟩
  rw [hn]
  conv => lhs; unfold validG
  rw [if_neg hne]
  split
  · rfl
  · refine validG_fuel _ _ _ ?_ (Nat.le_refl _)
    rw [List.length_drop]; omega
end Go.Proofs.YtnhjoplleldbfaaDoor
