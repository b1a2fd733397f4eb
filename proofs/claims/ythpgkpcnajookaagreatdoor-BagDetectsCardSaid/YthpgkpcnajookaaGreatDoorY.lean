/-
  Chapter 44: the examples, and the laws BagRights, BagManifests, BagVerifies, BagPacks, BagUnpacks, BagRestores. No condition.
-/
import Derived.Test.YthpgkpcnajookaaGreatDoorX
namespace Go.Proofs.YthpgkpcnajookaaGreatDoor
open Go Go.Nu
set_option linter.unusedVariables false

theorem up_dig : ∀ (q : List (List UInt8)), (∀ s ∈ q, isDig s = true) → ∀ s ∈ up q, isDig s = true
  | [], _, s, h => by rw [up] at h; cases h
  | [a], hs, s, h => by rw [up] at h; exact hs s h
  | a :: b :: l, hs, s, h => by
    rw [up] at h
    rcases List.mem_cons.1 h with rfl | h
    · exact dig_isDig _
    · exact up_dig l (fun s h => hs s (List.mem_cons_of_mem _ (List.mem_cons_of_mem _ h))) s h
theorem top_dig : ∀ (n : Nat) (q : List (List UInt8)), q.length ≤ n → 1 ≤ q.length → (∀ s ∈ q, isDig s = true) → isDig (top q) = true
  | 0, q, h1, h2, _ => by omega
  | n + 1, q, h1, h2, hs => by
    by_cases h : q.length ≤ 1
    · rw [top_one h]
      match q, h2 with
      | s :: _, _ => exact hs s List.mem_cons_self
    · rw [top_up h]
      exact top_dig n _ (by rw [up_len]; omega) (by rw [up_len]; omega) (up_dig q hs)
theorem root_dig {l : List File} (h : 1 ≤ l.length) : isDig (rootP l) = true := by
  unfold rootP root
  rw [if_neg (by rw [List.length_map]; omega)]
  refine top_dig _ _ (Nat.le_refl _) (by rw [List.length_map, List.length_map]; exact h) fun s hs => ?_
  obtain ⟨x, _, rfl⟩ := List.mem_map.1 hs
  exact dig_isDig _

theorem pack_len {l : List File} (h : rightP l = 0) : (packT l).length ≤ 50000 := by
  have hn := right_len h
  have hr := root_len hn.1
  have hd := dec_len5 (u := l.length) (by omega)
  have h1 := flat_len entF 70 l fun f hf => by
    obtain ⟨h1, h2⟩ := right_all h f hf
    have := (path_ne h1).2
    have := dec_len5 (u := f.2.length) (by omega)
    unfold entF
    rw [List.length_append, List.length_cons, List.length_append, List.length_singleton]
    omega
  have h2 := flat_len Prod.snd 2000 l fun f hf => (right_all h f hf).2
  have e1 : 70 * l.length ≤ 70 * 16 := Nat.mul_le_mul_left _ hn.2
  have e2 : 2000 * l.length ≤ 2000 * 16 := Nat.mul_le_mul_left _ hn.2
  unfold packT headP
  simp only [List.length_append, List.length_cons, List.length_nil]
  omega
theorem unpack_len (s : List UInt8) : (unpackP s).1.length ≤ 1000000 := by
  by_cases h : (unpackP s).2 = 0
  · have := pack_unpack (s := s) (l := (unpackP s).1) (Prod.ext rfl h)
    have := right_len this.1
    omega
  · rw [unpack_no h]; simp
theorem miss_len (g : File → Bool) : ∀ (l : List File) (n : Int), (missL g n l).length ≤ l.length
  | [], _ => Nat.le_refl _
  | f :: l, n => by
    show ((if g f = true then [] else [n]) ++ missL g (n + 1) l).length ≤ _
    have := miss_len g l (n + 1)
    rw [List.length_append, List.length_cons]
    split <;> simp <;> omega
theorem verify_len {l : List File} (h : Fit l) (s : List UInt8) : (verifyP l s).length ≤ 1000000 := by
  have h1 := h.1
  unfold verifyP
  split
  · rename_i hm
    refine Nat.le_trans (m := l.length + 1) ?_ (by omega)
    rw [List.length_append, List.length_singleton]
    exact Nat.add_le_add_right (miss_len _ l 0) 1
  · rename_i m hm
    have := miss_len (matchB m) l 0
    rw [List.length_append]
    split <;> simp <;> omega

/-! ### the examples -/
abbrev fA : File := ([97, 46, 116, 120, 116], [104, 105])
abbrev fB : File := ([98, 47, 99], [])
theorem path_a : pathB [97, 46, 116, 120, 116] = true := by unfold pathB; rw [segs_no (by simp)]; decide
theorem path_b : pathB [98, 47, 99] = true := by unfold pathB; rw [show ([98, 47, 99] : List UInt8) = [98] ++ 47 :: [99] from rfl, segs_at (by simp), segs_no (by simp)]; decide
theorem path_c : pathB [97, 47, 47, 98] = false := by unfold pathB; rw [show ([97, 47, 47, 98] : List UInt8) = [97] ++ 47 :: ([] ++ 47 :: [98]) from rfl, segs_at (by simp), segs_at (by simp), segs_no (by simp)]; decide
theorem path_d : pathB [98] = true := by unfold pathB; rw [segs_no (by simp)]; decide
theorem path_e : pathB [97] = true := by unfold pathB; rw [segs_no (by simp)]; decide
theorem right_ab : rightP [fA, fB] = 0 := rightP_of (by decide) (by decide) (rightL_of _ _ (fun _ h => by cases h) (by decide) (by
  intro f hf
  rcases List.mem_cons.1 hf with rfl | hf
  · exact ⟨path_a, by decide⟩
  · rw [List.mem_singleton] at hf
    subst hf
    exact ⟨path_b, by decide⟩))
theorem right_a : rightP [fA] = 0 := rightP_of (by decide) (by decide) (rightL_of _ _ (fun _ h => by cases h) (by decide) (by
  intro f hf
  rw [List.mem_singleton] at hf
  subst hf
  exact ⟨path_a, by decide⟩))
theorem right_c : rightP [(([97, 47, 47, 98] : List UInt8), ([] : List UInt8))] = 3 := by
  unfold rightP
  rw [if_neg (by decide), if_neg (by decide), rightL_cons, if_pos path_c]
theorem right_d : rightP [(([98] : List UInt8), ([] : List UInt8)), (([97] : List UInt8), ([] : List UInt8))] = 7 := by
  unfold rightP
  rw [if_neg (by decide), if_neg (by decide), rightL_cons, if_neg (by rw [path_d]; simp), if_neg (by decide), if_neg (by decide), rightL_cons, if_neg (by rw [path_e]; simp), if_pos (by decide)]
theorem man_of {l : List File} (h : rightP l = 0) : manP l = (l.flatMap manF, 0) := if_pos h
theorem pack_of {l : List File} (h : rightP l = 0) : packP l = (packT l, 0) := if_pos h
theorem text_ab : packT [fA, fB] = [66, 65, 71, 49, 10, 50, 10, 50, 32, 97, 46, 116, 120, 116, 10, 48, 32, 98, 47, 99, 10, 104, 105] ++ rootP [fA, fB] := by
  unfold packT headP
  simp only [List.flatMap_cons, List.flatMap_nil]
  unfold entF
  rw [show ([fA, fB] : List File).length = 2 from rfl, show (fA.2 : List UInt8).length = 2 from rfl, show (fB.2 : List UInt8).length = 0 from rfl, dec_lt (by omega), dec_lt (by omega)]
  rfl
theorem man_ab_len : ([fA, fB].flatMap manF).length = 44 := by
  simp only [List.flatMap_cons, List.flatMap_nil]
  unfold manF
  simp only [List.length_append, List.length_cons, List.length_nil, dig_len]
theorem ver_1 : verifyP [fA, fB] [] = [0, 1] := rfl
theorem ver_2 : verifyP [fA, fB] ([fA].flatMap manF) = [1] := by
  rw [verify_man right_a, surplus_no (fun f hf => ⟨f, by rw [List.mem_singleton] at hf; subst hf; exact List.mem_cons_self, rfl⟩)]
  show missL (matchB (entM [fA])) 0 ([fA] ++ fB :: []) ++ [] = _
  rw [miss_one (fun x hx => match_at (right_dist right_a) hx) (by unfold matchB; rw [sum_out (by
    intro f hf
    rw [List.mem_singleton] at hf
    subst hf
    decide)]) (fun x hx => by cases hx)]
  rfl
theorem ver_3 : verifyP [fA, fB] [120] = [0, 1, 2] := by
  unfold verifyP
  have : entsP [120] = none := by
    unfold entsP
    rw [entsG_step, if_neg (by simp), if_pos (.inl (by rw [cut_no (by simp)]))]
  rw [this]
  rfl
theorem ver_4 : verifyP [fA, fB] ([fA, fB].flatMap manF) = [] := by
  rw [verify_man right_ab, surplus_no (fun f hf => ⟨f, hf, rfl⟩), miss_all _ _ (fun f hf => match_at (right_dist right_ab) hf)]
  rfl
theorem unp_x : unpackP ((packT [fA, fB]).take ((packT [fA, fB]).length - 1) ++ [120]) = ([], 5) := by
  have hr := root_len (l := [fA, fB]) (by decide)
  have hd := root_dig (l := [fA, fB]) (by decide)
  have e : (packT [fA, fB]).take ((packT [fA, fB]).length - 1) ++ [120] = headP [fA, fB].length ++ [fA, fB].flatMap entF ++ ([fA, fB].flatMap Prod.snd ++ ((rootP [fA, fB]).take 15 ++ [120])) := by
    unfold packT
    rw [List.length_append, hr, Nat.add_sub_assoc (by omega), List.take_length_add_append]
    simp only [List.append_assoc]
  rw [e, unpack_any (right_len right_ab).2 (right_all right_ab) rfl]
  unfold finP
  rw [if_pos ⟨by rw [List.length_append, List.length_take, hr]; rfl, right_ab⟩, if_neg]
  intro h
  unfold isDig at hd
  rw [Bool.and_eq_true] at hd
  have : (120 : UInt8) ∈ rootP [fA, fB] := by rw [← h]; simp
  have := List.all_eq_true.1 hd.2 _ this
  cases this

theorem g12 : F12 = some true := by
  have hf := right_fit right_ab
  have hr := root_len (l := [fA, fB]) (by decide)
  have hpl := pack_len right_ab
  have hp1 : 1 ≤ (packT [fA, fB]).length := by rw [text_ab, List.length_append, hr]; omega
  unfold F12
  rw [show F28 = some [fA, fB] from rfl, bindO_some, g22 _ hf, bindO_some, pack_of right_ab]
  dsimp only
  rw [dT rfl, Bool.not_true, cond_false, g15 _ hf, bindO_some, gd_pos (by unfold big; simp only [List.length_cons, List.length_nil]; omega), bnd_eq, ← text_ab, dT rfl, Bool.not_true, cond_false, bindO_some, hr, dT (by rfl), Bool.not_true, cond_false,
    g17 _ hf, bindO_some, gd_pos (by decide), bnd_eq, show List.take (Int.toNat 1) [fA, fB] = [fA] from rfl, g17 _ (right_fit right_a), bindO_some, man_of right_ab, man_of right_a]
  dsimp only
  rw [dT rfl, Bool.not_true, cond_false, cond_false, man_ab_len, dT (by rfl), Bool.not_true, cond_false,
    fVerify_pos hf (by simp), bindO_some, ver_1, g19 _ _ (by decide) (by decide), bindO_some, dT rfl, Bool.not_true, cond_false,
    fVerify_pos hf (man_len right_a), bindO_some, ver_2, g19 _ _ (by decide) (by decide), bindO_some, dT rfl, Bool.not_true, cond_false,
    fVerify_pos hf (by simp), bindO_some, ver_3, g19 _ _ (by decide) (by decide), bindO_some, dT rfl, Bool.not_true, cond_false,
    fVerify_pos hf (man_len right_ab), bindO_some, ver_4, dT (by rfl), Bool.not_true, cond_false, g24 _ hpl, bindO_some, unpack_pack right_ab, bnd_eq, i64_wrap (by omega), gd_pos (by omega), bnd_eq,
    show (((packT [fA, fB]).length : Int) - 1).toNat = (packT [fA, fB]).length - 1 by omega, gd_pos (by unfold big; rw [List.length_take]; simp only [List.length_cons, List.length_nil]; omega), bnd_eq,
    g24 _ (by rw [List.length_append, List.length_take]; simp only [List.length_cons, List.length_nil]; omega), bindO_some, unp_x]
  dsimp only
  rw [dT rfl, cond_true, g26 _ (by decide), bindO_some, cond_true, dT rfl, cond_true, g13 _ ⟨by decide, by decide⟩, bindO_some, right_c, dT rfl, cond_true, g13 _ ⟨by decide, by decide⟩, bindO_some, right_d, dT rfl]

theorem law3 (l : List File) : F3 l = some true := by
  unfold F3
  rw [g11, bindO_some]
  cases hs : smallB l with
  | false => rw [Bool.not_false, cond_true, g12, bindO_some]
  | true =>
    have hf := fit_small hs
    rw [Bool.not_true, cond_false, g13 l hf, bindO_some, g14 l hf, bindO_some, dT rfl, cond_true, g15 l hf, bindO_some, g16 l hf, bindO_some, dT rfl, cond_true, g12, bindO_some]
theorem law4 (l : List File) : F4 l = some true := by
  unfold F4
  rw [g11, bindO_some]
  cases hs : smallB l with
  | false => rw [Bool.not_false, cond_true, g12, bindO_some]
  | true =>
    have hf := fit_small hs
    rw [Bool.not_true, cond_false, g17 l hf, bindO_some, g18 l hf, bindO_some, dT rfl, cond_true, dT rfl, cond_true, g12, bindO_some]
theorem law5 (l : List File) (s : List UInt8) : F5 l s = some true := by
  unfold F5
  rw [g11, bindO_some]
  cases hs : smallB l with
  | false => rw [Bool.not_false, cond_true, g12, bindO_some]
  | true =>
    have hf := fit_small hs
    rw [Bool.not_true, cond_false]
    by_cases h3 : 3000 < s.length
    · rw [dT (by omega), cond_true, g12, bindO_some]
    · rw [dF (by omega), cond_false, fVerify_pos hf (by omega), bindO_some, g21 l s hf (by omega), bindO_some, g19 _ _ (verify_len hf s) (verify_len hf s), bindO_some, dT rfl, cond_true, g12, bindO_some]
theorem law6 (l : List File) : F6 l = some true := by
  unfold F6
  rw [g11, bindO_some]
  cases hs : smallB l with
  | false => rw [Bool.not_false, cond_true, g12, bindO_some]
  | true =>
    have hf := fit_small hs
    rw [Bool.not_true, cond_false, g22 l hf, bindO_some, g23 l hf, bindO_some, dT rfl, cond_true, dT rfl, cond_true, g12, bindO_some]
theorem law7 (s : List UInt8) : F7 s = some true := by
  unfold F7
  by_cases h3 : 40000 < s.length
  · rw [dT (by omega), cond_true, g12, bindO_some]
  · rw [dF (by omega), cond_false, g24 s (by omega), bindO_some, g25 s (by omega), bindO_some, g26 _ (unpack_len s), bindO_some, cond_true, dT rfl, cond_true, g12, bindO_some]
theorem law8 (l : List File) (s : List UInt8) : F8 l s = some true := by
  unfold F8
  rw [g11, bindO_some]
  cases hs : smallB l with
  | false => rw [Bool.not_false, cond_true, g12, bindO_some]
  | true =>
    have hf := fit_small hs
    rw [Bool.not_true, cond_false]
    by_cases h3 : 40000 < s.length
    · rw [dT (by omega), cond_true, g12, bindO_some]
    · rw [dF (by omega), cond_false, g22 l hf, bindO_some]
      refine jn_rule (fun _ => True) (fun next hn => ?_) (fun _ _ => ?_)
      · by_cases h0 : rightP l = 0
        · rw [pack_of h0]
          dsimp only
          rw [dT rfl, cond_true, g24 _ (pack_len h0), bindO_some, unpack_pack h0]
          dsimp only
          rw [dT rfl, Bool.not_true, cond_false, g26 l (by have := hf.1; omega), bindO_some, Bool.not_true, cond_false]
          exact hn () trivial
        · rw [show packP l = ([], rightP l) from if_neg h0]
          dsimp only
          rw [dF h0, cond_false]
          exact hn () trivial
      · rw [g24 s (by omega), bindO_some]
        by_cases h0 : (unpackP s).2 = 0
        · obtain ⟨h1, h2⟩ := pack_unpack (s := s) (l := (unpackP s).1) (Prod.ext rfl h0)
          rw [dT h0, cond_true, g22 _ (right_fit h1), bindO_some, pack_of h1]
          dsimp only
          rw [dT h2, cond_true, dT rfl, cond_true, g12, bindO_some]
        · rw [dF h0, cond_false, unpack_no h0, dT (by rfl), cond_true, g12, bindO_some]
end Go.Proofs.YthpgkpcnajookaaGreatDoor
