/-
  Chapter 11: the header of a record is read back, by the program and by the reference. No condition.
-/
import Derived.Test.YtbkaenpcmbplpaaDoorU
namespace Go.Proofs.YtbkaenpcmbplpaaDoor
open Go Go.Nu

theorem dec_len4 {u : Nat} (h : u ≤ 9999) : (Lib.decDigits u).length ≤ 4 := by
  by_cases h1 : u < 10
  · rw [dec_lt h1]; simp
  rw [dec_ge h1]
  by_cases h2 : u / 10 < 10
  · rw [dec_lt h2]; simp
  rw [dec_ge h2]
  by_cases h3 : u / 10 / 10 < 10
  · rw [dec_lt h3]; simp
  rw [dec_ge h3, dec_lt (by omega)]
  simp
theorem itoa_one {n : Int} (h0 : 0 ≤ n) (h1 : n < 10) : (Lib.itoa n).length = 1 := by
  rw [itoa_pos h0, dec_lt (by omega)]; rfl
def kindN (w : List UInt8) : Int := if w = [98, 111, 111, 107] then 1 else if w = [115, 101, 114, 105, 97, 108] then 2 else if w = [109, 97, 112] then 3 else if w = [100, 105, 103, 105, 116, 97, 108] then 4 else 0
theorem kindN_S {k : Int} (h0 : 1 ≤ k) (h1 : k ≤ 4) : kindN (kindS k) = k := by
  have : k = 1 ∨ k = 2 ∨ k = 3 ∨ k = 4 := by omega
  rcases this with rfl | rfl | rfl | rfl <;> decide
theorem kindS_no {k : Int} (h0 : 1 ≤ k) (h1 : k ≤ 4) : (32 : UInt8) ∉ kindS k := by
  have : k = 1 ∨ k = 2 ∨ k = 3 ∨ k = 4 := by omega
  rcases this with rfl | rfl | rfl | rfl <;> decide
def KN : List (List UInt8) := [([] : List UInt8), ([98, 111, 111, 107] : List UInt8), ([115, 101, 114, 105, 97, 108] : List UInt8), ([109, 97, 112] : List UInt8), ([100, 105, 103, 105, 116, 97, 108] : List UInt8)]
theorem kind_step (w : List UInt8) (i : Nat) (hi : i < 5) : (if 0 < i ∧ KN.getD i [] = w then (i : Int) else if kindN w < i then kindN w else 0) = if kindN w < (i : Int) + 1 then kindN w else 0 := by
  have hi' : i = 0 ∨ i = 1 ∨ i = 2 ∨ i = 3 ∨ i = 4 := by omega
  unfold kindN KN
  by_cases h1 : w = [98, 111, 111, 107]
  · subst h1; rcases hi' with rfl | rfl | rfl | rfl | rfl <;> decide
  by_cases h2 : w = [115, 101, 114, 105, 97, 108]
  · subst h2; rcases hi' with rfl | rfl | rfl | rfl | rfl <;> decide
  by_cases h3 : w = [109, 97, 112]
  · subst h3; rcases hi' with rfl | rfl | rfl | rfl | rfl <;> decide
  by_cases h4 : w = [100, 105, 103, 105, 116, 97, 108]
  · subst h4; rcases hi' with rfl | rfl | rfl | rfl | rfl <;> decide
  rw [if_neg h1, if_neg h2, if_neg h3, if_neg h4]
  have hno : ¬ (0 < i ∧ List.getD [([] : List UInt8), ([98, 111, 111, 107] : List UInt8), ([115, 101, 114, 105, 97, 108] : List UInt8), ([109, 97, 112] : List UInt8), ([100, 105, 103, 105, 116, 97, 108] : List UInt8)] i [] = w) := by
    rintro ⟨hp, he⟩
    rcases hi' with rfl | rfl | rfl | rfl | rfl
    · omega
    · exact h1 he.symm
    · exact h2 he.symm
    · exact h3 he.symm
    · exact h4 he.symm
  rw [if_neg hno]
  split <;> split <;> rfl
/-- What is read of a header. -/
structure HdrOk (s : List UInt8) (y : Rec × Bool) : Prop where
  nil : y.1.2.2.2.2 = []
  yes : y.2 = true → OkH y.1 ∧ headR y.1 = s
  no : y.2 = false → ¬ ∃ r, OkH r ∧ headR r = s
def partsH (s : List UInt8) : List (List UInt8) := Lib.splitK [32] 0 (Lib.count s [32]) s
theorem lang_no {t : List UInt8} (h : langB t = true) {c : UInt8} (hc : isL c = false) : c ∉ t := not_mem_of (lang_len h).2 hc
theorem headR_parts {r : Rec} (h : OkH r) : partsH (headR r) = [61 :: Lib.itoa r.1, Lib.itoa r.2.1, kindS r.2.2.1, r.2.2.2.1] := by
  have h1 : (32 : UInt8) ∉ 61 :: Lib.itoa r.1 := by
    rw [List.mem_cons]
    rintro (e | e)
    · exact absurd e (by decide)
    · exact not_mem_of (itoa_digs h.id0).1 (by decide) e
  have h2 : (32 : UInt8) ∉ Lib.itoa r.2.1 := not_mem_of (itoa_digs (by have := h.v0; omega)).1 (by decide)
  have h3 := kindS_no h.k0 h.k1
  have h4 : (32 : UInt8) ∉ r.2.2.2.1 := lang_no h.lang (by decide)
  have hs : headR r = (61 :: Lib.itoa r.1) ++ 32 :: (Lib.itoa r.2.1 ++ 32 :: (kindS r.2.2.1 ++ 32 :: r.2.2.2.1)) := by unfold headR headH; rfl
  have hc : ∃ m, Lib.count (headR r) [32] = m + 1 + 1 + 1 := by
    rw [Lib.count_one, hs]
    simp only [List.count_append, List.count_cons]
    refine ⟨List.count 32 (Lib.itoa r.1) + (if (61 : UInt8) == 32 then 1 else 0) + List.count 32 (Lib.itoa r.2.1) + List.count 32 (kindS r.2.2.1) + List.count 32 r.2.2.2.1, ?_⟩
    simp
    omega
  obtain ⟨m, hm⟩ := hc
  unfold partsH
  rw [hm, hs, split_at h1, split_at h2, split_at h3, split_no h4]
theorem headR_inj {r r' : Rec} (h : OkH r) (h' : OkH r') (e : headR r = headR r') (hn : r.2.2.2.2 = r'.2.2.2.2) : r = r' := by
  have h1 := headR_parts h
  rw [e, headR_parts h'] at h1
  simp only [List.cons.injEq, and_true, true_and] at h1
  obtain ⟨e1, e2, e3, e4⟩ := h1
  have a1 := congrArg atoiN e1
  rw [atoi_itoa h.id0 h.id1, atoi_itoa h'.id0 h'.id1] at a1
  have a2 := congrArg atoiN e2
  rw [atoi_itoa (n := r.2.1) (by have := h.v0; omega) (by have := h.v1; omega), atoi_itoa (n := r'.2.1) (by have := h'.v0; omega) (by have := h'.v1; omega)] at a2
  have a3 := congrArg kindN e3
  rw [kindN_S h.k0 h.k1, kindN_S h'.k0 h'.k1] at a3
  obtain ⟨x1, x2, x3, x4, x5⟩ := r
  obtain ⟨y1, y2, y3, y4, y5⟩ := r'
  simp only [Prod.mk.injEq, and_true] at *
  exact ⟨a1.symm, a2.symm, a3.symm, e4.symm, hn⟩
theorem okR_nil {r : Rec} (h : OkH r) (hn : r.2.2.2.2 = []) : OkR r := ⟨h, by rw [hn]; simp, by rw [hn]; intro f hf; cases hf⟩
theorem f48 (s : List UInt8) (hs : s.length ≤ 1000000) : ∃ y, F17 s = some y ∧ HdrOk s y := by
  have hparts : ∀ r, OkH r → headR r = s → partsH s = [61 :: Lib.itoa r.1, Lib.itoa r.2.1, kindS r.2.2.1, r.2.2.2.1] := fun r h e => by rw [← e]; exact headR_parts h
  have hno : (∀ r, OkH r → headR r = s → False) → HdrOk s (((0, 0, 0, [], []) : Rec), false) := fun h => ⟨rfl, fun e => by (cases e), fun _ ⟨r, h1, h2⟩ => h r h1 h2⟩
  unfold F17 fSplit
  rw [if_pos ⟨by omega, by simp⟩, bindO_some]
  have hsm := split_small (c := 32) (Lib.count s [32]) s
  have hpe : Lib.splitK [32] 0 (Lib.count s [32]) s = partsH s := rfl
  rw [hpe] at hsm ⊢
  generalize partsH s = y at *
  by_cases h4' : ¬ y.length = 4
  · rw [dF (by omega), Bool.not_false, cond_true]
    exact ⟨_, rfl, hno fun r h e => h4' (by rw [hparts r h e]; rfl)⟩
  have h4 : y.length = 4 := Decidable.not_not.1 h4'
  obtain ⟨y0, y1, y2, y3, rfl⟩ : ∃ y0 y1 y2 y3, y = [y0, y1, y2, y3] := by
    match y, h4 with
    | [y0, y1, y2, y3], _ => exact ⟨y0, y1, y2, y3, rfl⟩
  have m0 := hsm y0 (by simp)
  have m1 := hsm y1 (by simp)
  simp only [List.cons.injEq, and_true] at hparts
  rw [dT (by simp), Bool.not_true, cond_false]
  simp only [show Int.toNat (0 : Int) = 0 from rfl, show Int.toNat (1 : Int) = 1 from rfl, show Int.toNat (2 : Int) = 2 from rfl, show Int.toNat (3 : Int) = 3 from rfl, show List.getD [y0, y1, y2, y3] 0 [] = y0 from rfl, show List.getD [y0, y1, y2, y3] 1 [] = y1 from rfl, show List.getD [y0, y1, y2, y3] 2 [] = y2 from rfl, show List.getD [y0, y1, y2, y3] 3 [] = y3 from rfl]
  have g : ∀ (k : Int) (x : Option (Rec × Bool)), 0 ≤ k → k < 4 → gd (0 ≤ k ∧ k < (([y0, y1, y2, y3] : List (List UInt8)).length : Int)) x = x := fun k x h0 h1 => gd_pos ⟨h0, by simpa using h1⟩
  rw [g 0 _ (by omega) (by omega)]
  unfold fHas
  rw [bindO_some]
  cases hp : ([61] : List UInt8).isPrefixOf y0 with
  | false =>
    rw [Bool.not_false, cond_true]
    refine ⟨_, rfl, hno fun r h e => ?_⟩
    rw [(hparts r h e).1] at hp
    simp [List.isPrefixOf] at hp
  | true =>
  rw [Bool.not_true, cond_false, g 0 _ (by omega) (by omega)]
  by_cases h6 : 6 < y0.length
  · rw [dT (by omega), cond_true]
    refine ⟨_, rfl, hno fun r h e => ?_⟩
    have := dec_len4 (u := r.1.toNat) (by have := h.id1; omega)
    rw [(hparts r h e).1, itoa_pos h.id0, List.length_cons] at h6
    omega
  rw [dF (by omega), cond_false, g 1 _ (by omega) (by omega)]
  by_cases h1' : ¬ y1.length = 1
  · rw [dF (by omega), Bool.not_false, cond_true]
    refine ⟨_, rfl, hno fun r h e => ?_⟩
    rw [(hparts r h e).2.1, itoa_one (by have := h.v0; omega) (by have := h.v1; omega)] at h1'
    exact h1' rfl
  have h1 : y1.length = 1 := Decidable.not_not.1 h1'
  rw [dT (by omega), Bool.not_true, cond_false, g 0 _ (by omega) (by omega)]
  have hy0 : 1 ≤ y0.length := by
    cases y0 with
    | nil => simp [List.isPrefixOf] at hp
    | cons c t => simp
  unfold fAtoi
  rw [gd_pos (by omega), bnd_eq, if_pos (by rw [List.length_drop]; omega), bindO_some, g 1 _ (by omega) (by omega), if_pos (by omega), bindO_some]
  have hat : ∀ r, OkH r → headR r = s → atoiN (y0.drop 1) = (r.1, none) ∧ atoiN y1 = (r.2.1, none) := fun r h e => by
    rw [(hparts r h e).1, (hparts r h e).2.1]
    exact ⟨atoi_itoa h.id0 h.id1, atoi_itoa (by have := h.v0; omega) (by have := h.v1; omega)⟩
  cases ha : (atoiN (y0.drop 1)).2 with
  | some x =>
    refine ⟨_, rfl, hno fun r h e => ?_⟩
    rw [(hat r h e).1] at ha; cases ha
  | none =>
  rw [show (!(Option.isNone (none : Option (List UInt8)))) = false from rfl, cond_false]
  cases hb : (atoiN y1).2 with
  | some x =>
    refine ⟨_, rfl, hno fun r h e => ?_⟩
    rw [(hat r h e).2] at hb; cases hb
  | none =>
  rw [show (!(Option.isNone (none : Option (List UInt8)))) = false from rfl, cond_false, g 3 _ (by omega) (by omega)]
  unfold F23
  rw [bindO_some]
  generalize hid : (atoiN (y0.drop 1)).1 = id at *
  generalize hver : (atoiN y1).1 = ver at *
  have hKN : ([([] : List UInt8), ([98, 111, 111, 107] : List UInt8), ([115, 101, 114, 105, 97, 108] : List UInt8), ([109, 97, 112] : List UInt8), ([100, 105, 103, 105, 116, 97, 108] : List UInt8)]) = KN := rfl
  rw [hKN]
  have hKl : KN.length = 5 := rfl
  refine ⟨((id, ver, kindN y2, y3, []), if errR (id, ver, kindN y2, y3, []) = 0 then decide (headR (id, ver, kindN y2, y3, []) = s) else false), ?_, rfl, fun e => ?_, fun e => ?_⟩
  · refine loopK_rule (fun p : Int × (Int × Int × Int × List UInt8 × Unit) => ∃ i : Nat, i ≤ 5 ∧ p = ((i : Int), (id, ver, (if kindN y2 < (i : Int) then kindN y2 else 0), y3, ()))) (fun p => 5 - p.1.toNat) ⟨0, by omega, ?_⟩ rfl ?_
    · have : ¬ kindN y2 < ((0 : Nat) : Int) := by
        unfold kindN
        split
        · omega
        · split
          · omega
          · split
            · omega
            · split <;> omega
      rw [if_neg this]; rfl
    · rintro _ again ⟨i, hi, rfl⟩ hag
      simp only []
      rw [hKl]
      by_cases hlt : i < 5
      · rw [dT (by omega), cond_true, gd_pos (by omega), toNat_nat]
        have hstep := kind_step y2 i hlt
        have hgo := hag ((i : Int) + 1, (id, ver, (if kindN y2 < (i : Int) + 1 then kindN y2 else 0), y3, ())) ⟨i + 1, by omega, by simp⟩ (by simp only []; omega)
        by_cases h0 : 0 < i
        · rw [dT (by omega), cond_true, g 2 _ (by omega) (by omega)]
          by_cases he : KN.getD i [] = y2
          · rw [dT he, cond_true, bnd_eq, i64_wrap (by omega)]
            rw [if_pos ⟨h0, he⟩] at hstep
            rw [← hstep] at hgo; exact hgo
          · rw [dF he, cond_false, bnd_eq, i64_wrap (by omega)]
            rw [if_neg (fun h => he h.2)] at hstep
            rw [hstep]; exact hgo
        · rw [dF (by omega), cond_false, bnd_eq, i64_wrap (by omega)]
          rw [if_neg (fun h => h0 h.1)] at hstep
          rw [hstep]; exact hgo
      · have : i = 5 := by omega
        subst this
        have hk : (if kindN y2 < ((5 : Nat) : Int) then kindN y2 else 0) = kindN y2 := by
          rw [if_pos]
          unfold kindN
          split
          · omega
          · split
            · omega
            · split
              · omega
              · split <;> omega
        rw [dF (by omega), cond_false, hk, f23 _ (fun f hf => by cases hf), bindO_some]
        by_cases he : errR (id, ver, kindN y2, y3, []) = 0
        · rw [dT he, cond_true, f25 _ (okR_of he).toOkH, bindO_some, if_pos he]
        · rw [dF he, cond_false, if_neg he]
  · simp only at e ⊢
    by_cases he : errR (id, ver, kindN y2, y3, []) = 0
    · rw [if_pos he, decide_eq_true_eq] at e
      exact ⟨(okR_of he).toOkH, e⟩
    · rw [if_neg he] at e; cases e
  · rintro ⟨r, h, hr⟩
    simp only at e
    have q := hparts r h hr
    have q2 := hat r h hr
    rw [q2.1] at hid
    rw [q2.2] at hver
    have e1 : (id, ver, kindN y2, y3, []) = ((r.1, r.2.1, r.2.2.1, r.2.2.2.1, []) : Rec) := by
      rw [← hid, ← hver, q.2.2.1, q.2.2.2, kindN_S h.k0 h.k1]
    have h' : OkH (r.1, r.2.1, r.2.2.1, r.2.2.2.1, []) := ⟨h.id0, h.id1, h.v0, h.v1, h.k0, h.k1, h.lang⟩
    rw [e1, if_pos (errR_of (okR_nil h' rfl))] at e
    have : headR (r.1, r.2.1, r.2.2.1, r.2.2.2.1, []) = s := hr
    rw [this] at e
    simp at e

/-! ### the reference -/
end Go.Proofs.YtbkaenpcmbplpaaDoor
