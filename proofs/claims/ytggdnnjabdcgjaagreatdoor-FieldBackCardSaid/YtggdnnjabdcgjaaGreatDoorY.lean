/-
  Chapter 7: the laws, as plain functions.
-/
import Derived.Test.YtggdnnjabdcgjaaGreatDoorX
namespace Go.Proofs.YtggdnnjabdcgjaaGreatDoor
open Go Go.Nu

/-! ### the examples -/
def fa : Field := ([50, 52, 53], [49, 48], [(97, [68, 111, 103, 115]), (98, [97, 110, 100, 32, 36, 53]), (97, [120])], 0)
def fb : Field := ([54, 53, 48], [32, 48], [(97, [68, 111, 103, 115])], 3)
def fc : Field := ([48, 48, 57], [49, 48], [(97, [68, 111, 103, 115]), (98, [97, 110, 100, 32, 36, 53]), (97, [120])], 0)
theorem err_a : errF fa = 0 := by decide
theorem err_b : errF fb = 0 := by decide
theorem err_c : errF fc = 6 := by decide
theorem print_a : printF fa = [50, 52, 53, 32, 49, 48, 32, 36, 97, 68, 111, 103, 115, 36, 98, 97, 110, 100, 32, 36, 36, 53, 36, 97, 120] := by
  unfold printF
  rw [if_pos (show fa.2.2.2 = 0 from rfl)]; rfl
theorem itoa3 : Lib.itoa 3 = [51] := by rw [show (3 : Int) = ((3 : Nat) : Int) from rfl, itoa_nat, dec_lt (by omega)]; rfl
theorem print_b : printF fb = [54, 53, 48, 64, 51, 32, 35, 48, 32, 36, 97, 68, 111, 103, 115] := by
  unfold printF
  rw [if_neg (show ¬ fb.2.2.2 = 0 by decide), show fb.2.2.2 = 3 from rfl, itoa3]; rfl
theorem parse_d : parseP [50, 52, 53, 32, 49, 48, 32, 36, 97] = (zeroF, 3) := by
  refine parseP_no ?_
  rintro ⟨f, h1, h2⟩
  have h3 := readP_print (okF_of h1)
  rw [h2] at h3
  have h4 : readP [50, 52, 53, 32, 49, 48, 32, 36, 97] = (([50, 52, 53], [49, 48], [(97, [])], 0), true) := by rfl
  rw [h4] at h3
  have h5 : f = ([50, 52, 53], [49, 48], [(97, [])], 0) := (congrArg Prod.fst h3).symm
  rw [h5] at h1
  exact absurd h1 (by decide)
theorem size_a : sizeS fa.2.2.1 := by
  intro s hs
  simp only [fa, List.mem_cons, List.not_mem_nil, or_false] at hs
  rcases hs with rfl | rfl | rfl <;> decide
theorem small_a : ∀ s ∈ fa.2.2.1, s.2.length ≤ 1000 := by
  intro s hs
  simp only [fa, List.mem_cons, List.not_mem_nil, or_false] at hs
  rcases hs with rfl | rfl | rfl <;> decide
theorem alive : F10 = some true := by
  unfold F10
  rw [gd_pos (by decide), gd_pos (by decide), gd_pos (by decide)]
  have ea : (([50, 52, 53] : List UInt8), ([49, 48] : List UInt8), [((UInt8.ofNat (Int.toNat (97 : Int))), ([68, 111, 103, 115] : List UInt8)), ((UInt8.ofNat (Int.toNat (98 : Int))), ([97, 110, 100, 32, 36, 53] : List UInt8)), ((UInt8.ofNat (Int.toNat (97 : Int))), ([120] : List UInt8))], (0 : Int)) = fa := rfl
  have ec : (([48, 48, 57] : List UInt8), ([49, 48] : List UInt8), [((UInt8.ofNat (Int.toNat (97 : Int))), ([68, 111, 103, 115] : List UInt8)), ((UInt8.ofNat (Int.toNat (98 : Int))), ([97, 110, 100, 32, 36, 53] : List UInt8)), ((UInt8.ofNat (Int.toNat (97 : Int))), ([120] : List UInt8))], (0 : Int)) = fc := rfl
  rw [ea, ec]
  have p1 := f26 fa size_a
  unfold printP at p1
  rw [if_pos err_a, print_a] at p1
  rw [p1, bindO_some]
  dsimp only
  rw [dT rfl, Bool.not_true, cond_false, dT rfl, Bool.not_true, cond_false, gd_pos (by decide), f12 fa _ (by decide), bindO_some]
  rw [show getL (UInt8.ofNat (Int.toNat (97 : Int))) fa.2.2.1 = ([68, 111, 103, 115], true) by decide]
  dsimp only
  rw [Bool.not_true, cond_false, dT rfl, Bool.not_true, cond_false, f15 fa _ (by decide), bindO_some]
  rw [show allV [97] fa.2.2.1 = [[68, 111, 103, 115], [120]] by decide]
  rw [f14 _ _ (by decide), bindO_some, dT rfl, Bool.not_true, cond_false, f17 fa _ (by decide) small_a, bindO_some]
  rw [show Lib.join (allV [97, 98] fa.2.2.1) [32] = [68, 111, 103, 115, 32, 97, 110, 100, 32, 36, 53, 32, 120] by decide]
  rw [dT rfl, Bool.not_true, cond_false, gd_pos (by decide)]
  rw [show fSet fa (UInt8.ofNat (Int.toNat (97 : Int))) ([] : List UInt8) = some (setF fa 97 []) from if_pos (by decide), bindO_some]
  rw [show (setF fa 97 []).2.2.1.length = 1 by decide, dT (by decide), Bool.not_true, cond_false]
  rw [show ([54, 53, 48, 64, 51, 32, 35, 48, 32, 36, 97, 68, 111, 103, 115] : List UInt8) = printF fb from print_b.symm, f49 _ (by rw [print_b]; decide), bindO_some, parseP_print err_b]
  dsimp only
  rw [dT rfl, Bool.not_true, cond_false, dT (show fb.2.2.2 = 3 from rfl), Bool.not_true, cond_false, dT (show fb.2.1 = [32, 48] from rfl), Bool.not_true, cond_false, f49 _ (by decide), bindO_some, parse_d, f36 fc size_a, bindO_some, err_c]
  dsimp only
  rw [dT rfl, cond_true, dT rfl]

/-! ### the laws -/
theorem law3 (f : Field) (c : UInt8) (codes : List UInt8) : F3 f c codes = some true := by
  unfold F3
  rw [alive, bindO_some, Bool.not_true, cond_false, f11, bindO_some]
  cases hs : smallB f with
  | false => rfl
  | true =>
    have h := small_of hs
    have hn := h.n
    have hv : ∀ s ∈ f.2.2.1, s.2.length ≤ 1000 := fun s h1 => by have := h.v s h1; omega
    rw [Bool.not_true, cond_false]
    by_cases hc : 300 < codes.length
    · rw [dT (by omega), cond_true]
    · rw [dF (by omega), cond_false, f12 f c (by omega), bindO_some, f13 f c (by omega), bindO_some, dT rfl, cond_true, beq_self_eq_true, cond_true,
        f15 f codes (by omega), bindO_some, f16 f codes (by omega) (by omega), bindO_some, f14 _ _ (Nat.le_trans (allV_len _ _) (by omega)), bindO_some, dT rfl, cond_true,
        f17 f codes (Nat.le_trans hn (by omega)) hv, bindO_some, f18 f codes (Nat.le_trans hn (by omega)) hv (by omega), bindO_some, dT rfl]
theorem setS_len (c : UInt8) (v : List UInt8) : ∀ l : List Sub, (setS c v l).length ≤ l.length + 1
  | [] => by simp [setS]
  | s :: l => by
    unfold setS
    split
    · simp
    · have := setS_len c v l
      simp only [List.length_cons]; omega
theorem setL_len (l : List Sub) (c : UInt8) (v : List UInt8) : (setL l c v).length ≤ l.length + 1 := by
  unfold setL
  split
  · exact Nat.le_succ_of_le (List.length_filter_le _ _)
  · exact setS_len c v l
theorem fSet_some (f : Field) (c : UInt8) (v : List UInt8) (h : f.2.2.1.length ≤ 30) : fSet f c v = some (setF f c v) := if_pos (by omega)
theorem law4 (f : Field) (c : UInt8) (v : List UInt8) : F4 f c v = some true := by
  unfold F4
  rw [alive, bindO_some, Bool.not_true, cond_false, f11, bindO_some]
  cases hs : smallB f with
  | false => rfl
  | true =>
    have hn := (small_of hs).n
    rw [Bool.not_true, cond_false]
    by_cases hc : 300 < v.length
    · rw [dT (by omega), cond_true]
    · have hl : (setF f c v).2.2.1.length ≤ 1000000 := Nat.le_trans (setL_len f.2.2.1 c v) (by omega)
      rw [dF (by omega), cond_false, fSet_some f c v hn, bindO_some, f21 f c v (by omega), bindO_some, f19 _ _ hl, bindO_some, dT rfl]
theorem law5 (f : Field) : F5 f = some true := by
  unfold F5
  rw [alive, bindO_some, Bool.not_true, cond_false, f11, bindO_some]
  cases hs : smallB f with
  | false => rfl
  | true =>
    rw [Bool.not_true, cond_false, f26 f (small_of hs).size, bindO_some, f30 f (small_of hs).size, bindO_some, dT rfl, cond_true, dT rfl]
theorem parse_size (s : List UInt8) : (parseP s).1.2.2.1.length ≤ 1000000 := by
  by_cases h : (parseP s).2 = 0
  · have := (okF_of (parseP_ok h).1).len
    omega
  · unfold parseP at h ⊢
    split at h
    · exact absurd rfl h
    · rename_i hn
      rw [dif_neg hn]
      decide
theorem law6 (s : List UInt8) : F6 s = some true := by
  unfold F6
  rw [alive, bindO_some, Bool.not_true, cond_false]
  by_cases hc : 1000 < s.length
  · rw [dT (by omega), cond_true]
  · rw [dF (by omega), cond_false, f49 s (by omega), bindO_some, f52 s (by omega), bindO_some, dT rfl, cond_true, f19 _ _ (parse_size s), bindO_some, dT rfl]
theorem getL_setS (c : UInt8) (v : List UInt8) : ∀ l : List Sub, getL c (setS c v l) = (v, true)
  | [] => by simp [setS, getL]
  | s :: l => by
    unfold setS
    by_cases h : s.1 = c
    · rw [if_pos h]; simp [getL, h]
    · rw [if_neg h]; simp only [getL, if_neg h]; exact getL_setS c v l
theorem getL_none (c : UInt8) : ∀ l : List Sub, getL c (l.filter fun s => s.1 != c) = ([], false)
  | [] => rfl
  | s :: l => by
    by_cases h : s.1 = c
    · rw [List.filter_cons, if_neg (by simp [h])]; exact getL_none c l
    · rw [List.filter_cons, if_pos (by simpa using h)]
      simp only [getL, if_neg h]; exact getL_none c l
theorem codeIn_one (o c : UInt8) : codeIn [o] c = decide (c = o) := by
  unfold codeIn
  by_cases h : c = o <;> simp [h]
theorem allV_setS {o c : UInt8} (h : o ≠ c) (v : List UInt8) : ∀ l : List Sub, allV [o] (setS c v l) = allV [o] l
  | [] => by
    unfold allV setS
    rw [List.filter_cons, if_neg (by rw [codeIn_one]; simpa using Ne.symm h)]
  | s :: l => by
    have ih := allV_setS h v l
    unfold setS
    by_cases hs : s.1 = c
    · rw [if_pos hs]
      unfold allV
      rw [List.filter_cons, List.filter_cons, if_neg (by rw [codeIn_one, hs]; simpa using Ne.symm h), if_neg (by rw [codeIn_one, hs]; simpa using Ne.symm h)]
    · rw [if_neg hs]
      unfold allV at ih ⊢
      rw [List.filter_cons, List.filter_cons]
      by_cases hc : codeIn [o] s.1 = true
      · rw [if_pos hc, if_pos hc, List.map_cons, List.map_cons, ih]
      · rw [if_neg hc, if_neg hc, ih]
theorem allV_filter {o c : UInt8} (h : o ≠ c) : ∀ l : List Sub, allV [o] (l.filter fun s => s.1 != c) = allV [o] l
  | [] => rfl
  | s :: l => by
    have ih := allV_filter h l
    unfold allV at ih ⊢
    by_cases hs : s.1 = c
    · rw [List.filter_cons, if_neg (by simp [hs]), ih]
      conv => rhs; rw [List.filter_cons, if_neg (by rw [codeIn_one, hs]; simpa using Ne.symm h)]
    · rw [List.filter_cons (p := fun s : Sub => s.1 != c), if_pos (by simpa using hs), List.filter_cons, List.filter_cons]
      by_cases hc : codeIn [o] s.1 = true
      · rw [if_pos hc, if_pos hc, List.map_cons, List.map_cons, ih]
      · rw [if_neg hc, if_neg hc, ih]
theorem law7 (f : Field) (c : UInt8) (v : List UInt8) (o : UInt8) : F7 f c v o = some true := by
  unfold F7
  rw [alive, bindO_some, Bool.not_true, cond_false, f11, bindO_some]
  cases hs : smallB f with
  | false => rfl
  | true =>
    have hn := (small_of hs).n
    rw [Bool.not_true, cond_false]
    by_cases hc : 300 < v.length
    · rw [dT (by omega), cond_true]
    · have hl : (setF f c v).2.2.1.length ≤ 1000000 := Nat.le_trans (setL_len f.2.2.1 c v) (by omega)
      rw [dF (by omega), cond_false, fSet_some f c v hn, bindO_some, f12 _ c hl, bindO_some]
      have hg : getL c (setF f c v).2.2.1 = (v, !decide (v = [])) := by
        show getL c (setL f.2.2.1 c v) = _
        unfold setL
        by_cases hv : v = []
        · rw [if_pos hv, getL_none, hv]; rfl
        · rw [if_neg hv, getL_setS, dF hv]; rfl
      rw [hg]
      dsimp only
      rw [dT rfl, Bool.not_true, cond_false, beq_self_eq_true, Bool.not_true, cond_false]
      by_cases ho : o = c
      · rw [dT (byN.2 ho), cond_true]
      · rw [dF (fun h => ho (byN.1 h)), cond_false, f15 f [o] (by omega), bindO_some, f15 _ [o] hl, bindO_some, f14 _ _ (Nat.le_trans (allV_len _ _) (by omega)), bindO_some]
        have : allV [o] (setF f c v).2.2.1 = allV [o] f.2.2.1 := by
          show allV [o] (setL f.2.2.1 c v) = _
          unfold setL
          split
          · exact allV_filter ho _
          · exact allV_setS ho v _
        rw [this, dT rfl]
theorem law8 (f g : Field) : F8 f g = some true := by
  unfold F8
  rw [alive, bindO_some, Bool.not_true, cond_false, f11, bindO_some]
  cases hs : smallB f with
  | false => rfl
  | true =>
    have h := small_of hs
    have hn := h.n
    rw [Bool.not_true, cond_false, f11, bindO_some]
    cases hg : smallB g with
    | false => rfl
    | true =>
      rw [Bool.not_true, cond_false, f36 f h.size, bindO_some, f42 f h.size, bindO_some, dT rfl, cond_true, f28 f g (by omega), bindO_some, f19 f g (by omega), bindO_some, beq_self_eq_true, cond_true, f28 f f (by omega), bindO_some, dT rfl]
theorem law9 (f g : Field) : F9 f g = some true := by
  unfold F9
  rw [alive, bindO_some, Bool.not_true, cond_false, f11, bindO_some]
  cases hs : smallB f with
  | false => rfl
  | true =>
    have h := small_of hs
    have hn := h.n
    rw [Bool.not_true, cond_false, f11, bindO_some]
    cases hg : smallB g with
    | false => rfl
    | true =>
      have h' := small_of hg
      rw [Bool.not_true, cond_false, f36 f h.size, bindO_some]
      by_cases h1 : errF f = 0
      · rw [dT h1, Bool.not_true, cond_false, f36 g h'.size, bindO_some]
        by_cases h2 : errF g = 0
        · have p1 := f26 f h.size
          have p2 := f26 g h'.size
          unfold printP at p1 p2
          rw [if_pos h1] at p1
          rw [if_pos h2] at p2
          rw [dT h2, Bool.not_true, cond_false, p1, bindO_some, p2, bindO_some]
          dsimp only
          rw [f49 _ (Nat.le_trans (printF_len (okF_of h1)) (by omega)), bindO_some, parseP_print h1]
          dsimp only
          rw [dT rfl, cond_true, cond_true, cond_true, f28 f f (by omega), bindO_some, dT rfl, cond_true, f28 f g (by omega), bindO_some]
          by_cases he : f = g
          · rw [he]; simp
          · rw [dF he, dF (fun hp => he (printF_inj (okF_of h1) (okF_of h2) hp))]; rfl
        · rw [dF h2, Bool.not_false, cond_true]
      · rw [dF h1, Bool.not_false, cond_true]
end Go.Proofs.YtggdnnjabdcgjaaGreatDoor
