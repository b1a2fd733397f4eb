/-
  Chapter 11: the header of a record is read back, by the program and by the reference. No condition.
-/
import Derived.Test.YtbkaenpcmbplpaaGreatDoorU
namespace Go.Proofs.YtbkaenpcmbplpaaGreatDoor
open Go Go.Nu

theorem dec_len4 {u : Nat} (h : u ≤ 9999) : (Lib.decDigits u).length ≤ 4 := by
  by_cases h1 : u < 10
  · rw [dec_lt h1]; simp
  rw [dec_ge h1]
  by_cases h2 : u / 10 < 10
  · rw [dec_lt h2]; simp
  rw [dec_ge h2]
  by_cases h3 : u / 10 / 10 < 10
  · rw [dec_lt h3]; simp
  rw [dec_ge h3, dec_lt (by omega)]
  simp
theorem itoa_one {n : Int} (h0 : 0 ≤ n) (h1 : n < 10) : (Lib.itoa n).length = 1 := by
  rw [itoa_pos h0, dec_lt (by omega)]; rfl
def kindN (w : List UInt8) : Int := if w = [98, 111, 111, 107] then 1 else if w = [115, 101, 114, 105, 97, 108] then 2 else if w = [109, 97, 112] then 3 else if w = [100, 105, 103, 105, 116, 97, 108] then 4 else 0
theorem kindN_S {k : Int} (h0 : 1 ≤ k) (h1 : k ≤ 4) : kindN (kindS k) = k := by
  have : k = 1 ∨ k = 2 ∨ k = 3 ∨ k = 4 := by omega
  rcases this with rfl | rfl | rfl | rfl <;> decide
theorem kindS_no {k : Int} (h0 : 1 ≤ k) (h1 : k ≤ 4) : (32 : UInt8) ∉ kindS k := by
  have : k = 1 ∨ k = 2 ∨ k = 3 ∨ k = 4 := by omega
  rcases this with rfl | rfl | rfl | rfl <;> decide
def KN : List (List UInt8) := [([] : List UInt8), ([98, 111, 111, 107] : List UInt8), ([115, 101, 114, 105, 97, 108] : List UInt8), ([109, 97, 112] : List UInt8), ([100, 105, 103, 105, 116, 97, 108] : List UInt8)]
theorem kind_step (w : List UInt8) (i : Nat) (hi : i < 5) : (if 0 < i ∧ KN.getD i [] = w then (i : Int) else if kindN w < i then kindN w else 0) = if kindN w < (i : Int) + 1 then kindN w else 0 := by
  have hi' : i = 0 ∨ i = 1 ∨ i = 2 ∨ i = 3 ∨ i = 4 := by omega
  unfold kindN KN
  by_cases h1 : w = [98, 111, 111, 107]
  · subst h1; rcases hi' with rfl | rfl | rfl | rfl | rfl <;> decide
  by_cases h2 : w = [115, 101, 114, 105, 97, 108]
  · subst h2; rcases hi' with rfl | rfl | rfl | rfl | rfl <;> decide
  by_cases h3 : w = [109, 97, 112]
  · subst h3; rcases hi' with rfl | rfl | rfl | rfl | rfl <;> decide
  by_cases h4 : w = [100, 105, 103, 105, 116, 97, 108]
  · subst h4; rcases hi' with rfl | rfl | rfl | rfl | rfl <;> decide
  rw [if_neg h1, if_neg h2, if_neg h3, if_neg h4]
  have hno : ¬ (0 < i ∧ List.getD [([] : List UInt8), ([98, 111, 111, 107] : List UInt8), ([115, 101, 114, 105, 97, 108] : List UInt8), ([109, 97, 112] : List UInt8), ([100, 105, 103, 105, 116, 97, 108] : List UInt8)] i [] = w) := by
    rintro ⟨hp, he⟩
    rcases hi' with rfl | rfl | rfl | rfl | rfl
    · omega
    · exact h1 he.symm
    · exact h2 he.symm
    · exact h3 he.symm
    · exact h4 he.symm
  rw [if_neg hno]
  split <;> split <;> rfl
/-- What is read of a header. -/
structure HdrOk (s : List UInt8) (y : Rec × Bool) : Prop where
  nil : y.1.2.2.2.2 = []
  yes : y.2 = true → OkH y.1 ∧ headR y.1 = s
  no : y.2 = false → ¬ ∃ r, OkH r ∧ headR r = s
def partsH (s : List UInt8) : List (List UInt8) := Lib.splitK [32] 0 (Lib.count s [32]) s
theorem lang_no {t : List UInt8} (h : langB t = true) {c : UInt8} (hc : isL c = false) : c ∉ t := not_mem_of (lang_len h).2 hc
theorem headR_parts {r : Rec} (h : OkH r) : partsH (headR r) = [61 :: Lib.itoa r.1, Lib.itoa r.2.1, kindS r.2.2.1, r.2.2.2.1] := by
  have h1 : (32 : UInt8) ∉ 61 :: Lib.itoa r.1 := by
    rw [List.mem_cons]
    rintro (e | e)
    · exact absurd e (by decide)
    · exact not_mem_of (itoa_digs h.id0).1 (by decide) e
  have h2 : (32 : UInt8) ∉ Lib.itoa r.2.1 := not_mem_of (itoa_digs (by have := h.v0; omega)).1 (by decide)
  have h3 := kindS_no h.k0 h.k1
  have h4 : (32 : UInt8) ∉ r.2.2.2.1 := lang_no h.lang (by decide)
  have hs : headR r = (61 :: Lib.itoa r.1) ++ 32 :: (Lib.itoa r.2.1 ++ 32 :: (kindS r.2.2.1 ++ 32 :: r.2.2.2.1)) := by unfold headR headH; rfl
  have hc : ∃ m, Lib.count (headR r) [32] = m + 1 + 1 + 1 := by
    rw [Lib.count_one, hs]
    simp only [List.count_append, List.count_cons]
    refine ⟨List.count 32 (Lib.itoa r.1) + (if (61 : UInt8) == 32 then 1 else 0) + List.count 32 (Lib.itoa r.2.1) + List.count 32 (kindS r.2.2.1) + List.count 32 r.2.2.2.1, ?_⟩
    simp
    omega
  obtain ⟨m, hm⟩ := hc
  unfold partsH
  rw [hm, hs, split_at h1, split_at h2, split_at h3, split_no h4]
theorem headR_inj {r r' : Rec} (h : OkH r) (h' : OkH r') (e : headR r = headR r') (hn : r.2.2.2.2 = r'.2.2.2.2) : r = r' := by
  have h1 := headR_parts h
  rw [e, headR_parts h'] at h1
  simp only [List.cons.injEq, and_true, true_and] at h1
  obtain ⟨e1, e2, e3, e4⟩ := h1
  have a1 := congrArg atoiN e1
  rw [atoi_itoa h.id0 h.id1, atoi_itoa h'.id0 h'.id1] at a1
  have a2 := congrArg atoiN e2
  rw [atoi_itoa (n := r.2.1) (by have := h.v0; omega) (by have := h.v1; omega), atoi_itoa (n := r'.2.1) (by have := h'.v0; omega) (by have := h'.v1; omega)] at a2
  have a3 := congrArg kindN e3
  rw [kindN_S h.k0 h.k1, kindN_S h'.k0 h'.k1] at a3
  obtain ⟨x1, x2, x3, x4, x5⟩ := r
  obtain ⟨y1, y2, y3, y4, y5⟩ := r'
  simp only [Prod.mk.injEq, and_true] at *
  exact ⟨a1.symm, a2.symm, a3.symm, e4.symm, hn⟩
theorem okR_nil {r : Rec} (h : OkH r) (hn : r.2.2.2.2 = []) : OkR r := ⟨h, by rw [hn]; simp, by rw [hn]; intro f hf; cases hf⟩
theorem f48 (s : List UInt8) (hs : s.length ≤ 1000000) : ∃ y, F48 s = some y ∧ HdrOk s y := by
  have hparts : ∀ r, OkH r → headR r = s → partsH s = [61 :: Lib.itoa r.1, Lib.itoa r.2.1, kindS r.2.2.1, r.2.2.2.1] := fun r h e => by rw [← e]; exact headR_parts h
  have hno : (∀ r, OkH r → headR r = s → False) → HdrOk s (((0, 0, 0, [], []) : Rec), false) := fun h => ⟨rfl, fun e => by (cases e), fun _ ⟨r, h1, h2⟩ => h r h1 h2⟩
  unfold F48 fSplit
  rw [if_pos ⟨by omega, by simp⟩, bindO_some]
  have hsm := split_small (c := 32) (Lib.count s [32]) s
  have hpe : Lib.splitK [32] 0 (Lib.count s [32]) s = partsH s := rfl
  rw [hpe] at hsm ⊢
  generalize partsH s = y at *
  by_cases h4' : ¬ y.length = 4
  · rw [dF (by omega), Bool.not_false, cond_true]
    exact ⟨_, rfl, hno fun r h e => h4' (by rw [hparts r h e]; rfl)⟩
  have h4 : y.length = 4 := Decidable.not_not.1 h4'
  obtain ⟨y0, y1, y2, y3, rfl⟩ : ∃ y0 y1 y2 y3, y = [y0, y1, y2, y3] := by
    match y, h4 with
    | [y0, y1, y2, y3], _ => exact ⟨y0, y1, y2, y3, rfl⟩
  have m0 := hsm y0 (by simp)
  have m1 := hsm y1 (by simp)
  simp only [List.cons.injEq, and_true] at hparts
  rw [dT (by simp), Bool.not_true, cond_false]
  simp only [show Int.toNat (0 : Int) = 0 from rfl, show Int.toNat (1 : Int) = 1 from rfl, show Int.toNat (2 : Int) = 2 from rfl, show Int.toNat (3 : Int) = 3 from rfl, show List.getD [y0, y1, y2, y3] 0 [] = y0 from rfl, show List.getD [y0, y1, y2, y3] 1 [] = y1 from rfl, show List.getD [y0, y1, y2, y3] 2 [] = y2 from rfl, show List.getD [y0, y1, y2, y3] 3 [] = y3 from rfl]
  have g : ∀ (k : Int) (x : Option (Rec × Bool)), 0 ≤ k → k < 4 → gd (0 ≤ k ∧ k < (([y0, y1, y2, y3] : List (List UInt8)).length : Int)) x = x := fun k x h0 h1 => gd_pos ⟨h0, by simpa using h1⟩
  rw [g 0 _ (by omega) (by omega)]
  unfold fHas
  rw [bindO_some]
  cases hp : ([61] : List UInt8).isPrefixOf y0 with
  | false =>
    rw [Bool.not_false, cond_true]
    refine ⟨_, rfl, hno fun r h e => ?_⟩
    rw [(hparts r h e).1] at hp
    simp [List.isPrefixOf] at hp
  | true =>
  rw [Bool.not_true, cond_false, g 0 _ (by omega) (by omega)]
  by_cases h6 : 6 < y0.length
  · rw [dT (by omega), cond_true]
    refine ⟨_, rfl, hno fun r h e => ?_⟩
    have := dec_len4 (u := r.1.toNat) (by have := h.id1; omega)
    rw [(hparts r h e).1, itoa_pos h.id0, List.length_cons] at h6
    omega
  rw [dF (by omega), cond_false, g 1 _ (by omega) (by omega)]
  by_cases h1' : ¬ y1.length = 1
  · rw [dF (by omega), Bool.not_false, cond_true]
    refine ⟨_, rfl, hno fun r h e => ?_⟩
    rw [(hparts r h e).2.1, itoa_one (by have := h.v0; omega) (by have := h.v1; omega)] at h1'
    exact h1' rfl
  have h1 : y1.length = 1 := Decidable.not_not.1 h1'
  rw [dT (by omega), Bool.not_true, cond_false, g 0 _ (by omega) (by omega)]
  have hy0 : 1 ≤ y0.length := by
    cases y0 with
    | nil => simp [List.isPrefixOf] at hp
    | cons c t => simp
  unfold fAtoi
  rw [gd_pos (by omega), bnd_eq, if_pos (by rw [List.length_drop]; omega), bindO_some, g 1 _ (by omega) (by omega), if_pos (by omega), bindO_some]
  have hat : ∀ r, OkH r → headR r = s → atoiN (y0.drop 1) = (r.1, none) ∧ atoiN y1 = (r.2.1, none) := fun r h e => by
    rw [(hparts r h e).1, (hparts r h e).2.1]
    exact ⟨atoi_itoa h.id0 h.id1, atoi_itoa (by have := h.v0; omega) (by have := h.v1; omega)⟩
  cases ha : (atoiN (y0.drop 1)).2 with
  | some x =>
    refine ⟨_, rfl, hno fun r h e => ?_⟩
    rw [(hat r h e).1] at ha; cases ha
  | none =>
  rw [show (!(Option.isNone (none : Option (List UInt8)))) = false from rfl, cond_false]
  cases hb : (atoiN y1).2 with
  | some x =>
    refine ⟨_, rfl, hno fun r h e => ?_⟩
    rw [(hat r h e).2] at hb; cases hb
  | none =>
  rw [show (!(Option.isNone (none : Option (List UInt8)))) = false from rfl, cond_false, g 3 _ (by omega) (by omega)]
  unfold F39
  rw [bindO_some]
  generalize hid : (atoiN (y0.drop 1)).1 = id at *
  generalize hver : (atoiN y1).1 = ver at *
  have hKN : ([([] : List UInt8), ([98, 111, 111, 107] : List UInt8), ([115, 101, 114, 105, 97, 108] : List UInt8), ([109, 97, 112] : List UInt8), ([100, 105, 103, 105, 116, 97, 108] : List UInt8)]) = KN := rfl
  rw [hKN]
  have hKl : KN.length = 5 := rfl
  refine ⟨((id, ver, kindN y2, y3, []), if errR (id, ver, kindN y2, y3, []) = 0 then decide (headR (id, ver, kindN y2, y3, []) = s) else false), ?_, rfl, fun e => ?_, fun e => ?_⟩
  · refine loopK_rule (fun p : Int × (Int × Int × Int × List UInt8 × Unit) => ∃ i : Nat, i ≤ 5 ∧ p = ((i : Int), (id, ver, (if kindN y2 < (i : Int) then kindN y2 else 0), y3, ()))) (fun p => 5 - p.1.toNat) ⟨0, by omega, ?_⟩ rfl ?_
    · have : ¬ kindN y2 < ((0 : Nat) : Int) := by
        unfold kindN
        split
        · omega
        · split
          · omega
          · split
            · omega
            · split <;> omega
      rw [if_neg this]; rfl
    · rintro _ again ⟨i, hi, rfl⟩ hag
      simp only []
      rw [hKl]
      by_cases hlt : i < 5
      · rw [dT (by omega), cond_true, gd_pos (by omega), toNat_nat]
        have hstep := kind_step y2 i hlt
        have hgo := hag ((i : Int) + 1, (id, ver, (if kindN y2 < (i : Int) + 1 then kindN y2 else 0), y3, ())) ⟨i + 1, by omega, by simp⟩ (by simp only []; omega)
        by_cases h0 : 0 < i
        · rw [dT (by omega), cond_true, g 2 _ (by omega) (by omega)]
          by_cases he : KN.getD i [] = y2
          · rw [dT he, cond_true, bnd_eq, i64_wrap (by omega)]
            rw [if_pos ⟨h0, he⟩] at hstep
            rw [← hstep] at hgo; exact hgo
          · rw [dF he, cond_false, bnd_eq, i64_wrap (by omega)]
            rw [if_neg (fun h => he h.2)] at hstep
            rw [hstep]; exact hgo
        · rw [dF (by omega), cond_false, bnd_eq, i64_wrap (by omega)]
          rw [if_neg (fun h => h0 h.1)] at hstep
          rw [hstep]; exact hgo
      · have : i = 5 := by omega
        subst this
        have hk : (if kindN y2 < ((5 : Nat) : Int) then kindN y2 else 0) = kindN y2 := by
          rw [if_pos]
          unfold kindN
          split
          · omega
          · split
            · omega
            · split
              · omega
              · split <;> omega
        rw [dF (by omega), cond_false, hk, f23 _ (fun f hf => by cases hf), bindO_some]
        by_cases he : errR (id, ver, kindN y2, y3, []) = 0
        · rw [dT he, cond_true, f25 _ (okR_of he).toOkH, bindO_some, if_pos he]
        · rw [dF he, cond_false, if_neg he]
  · simp only at e ⊢
    by_cases he : errR (id, ver, kindN y2, y3, []) = 0
    · rw [if_pos he, decide_eq_true_eq] at e
      exact ⟨(okR_of he).toOkH, e⟩
    · rw [if_neg he] at e; cases e
  · rintro ⟨r, h, hr⟩
    simp only at e
    have q := hparts r h hr
    have q2 := hat r h hr
    rw [q2.1] at hid
    rw [q2.2] at hver
    have e1 : (id, ver, kindN y2, y3, []) = ((r.1, r.2.1, r.2.2.1, r.2.2.2.1, []) : Rec) := by
      rw [← hid, ← hver, q.2.2.1, q.2.2.2, kindN_S h.k0 h.k1]
    have h' : OkH (r.1, r.2.1, r.2.2.1, r.2.2.2.1, []) := ⟨h.id0, h.id1, h.v0, h.v1, h.k0, h.k1, h.lang⟩
    rw [e1, if_pos (errR_of (okR_nil h' rfl))] at e
    have : headR (r.1, r.2.1, r.2.2.1, r.2.2.2.1, []) = s := hr
    rw [this] at e
    simp at e

/-! ### the reference -/
def numP (t : List UInt8) : Int × Bool := if t = [] ∨ 9 < t.length ∨ (t.getD 0 0 = 48 ∧ 1 < t.length) then (0, false) else if t.all isD = true then ((valN 0 t : Int), true) else (0, false)
theorem by48 {a : UInt8} : a.toNat = 48 ↔ a = 48 := by rw [← UInt8.toNat_inj]; rfl
theorem valN_lt : ∀ (t : List UInt8) (n k : Nat), t.all isD = true → n < 10 ^ k → valN n t < 10 ^ (k + t.length)
  | [], n, k, _, h => h
  | c :: t, n, k, hd, h => by
    rw [List.all_cons, Bool.and_eq_true] at hd
    have hc : 48 ≤ c.toNat ∧ c.toNat ≤ 57 := by simpa [isD] using hd.1
    have := valN_lt t (n * 10 + (c.toNat - 48)) (k + 1) hd.2 (by rw [Nat.pow_succ]; omega)
    rw [List.length_cons, show k + (t.length + 1) = k + 1 + t.length by omega]
    exact this
theorem valN_app (n : Nat) (a b : List UInt8) : valN n (a ++ b) = valN (valN n a) b := by unfold valN; rw [List.foldl_append]
theorem f76 (t : List UInt8) : F76 t = some (numP t) := by
  unfold F76 numP
  rw [jn_eq]
  dsimp only
  by_cases h0 : t = []
  · subst h0; rfl
  have hp : 0 < t.length := List.length_pos_iff.2 h0
  rw [dF (by omega), cond_false]
  by_cases h9 : 9 < t.length
  · rw [dT (by omega), cond_true, if_pos (.inr (.inl h9))]
  rw [dF (by omega), cond_false, gd_pos (by omega)]
  simp only [show Int.toNat (0 : Int) = 0 from rfl]
  have rest : ∀ r : Option (Int × Bool), (if t.all isD = true then some ((valN 0 t : Int), true) else some (0, false)) = r → loopK (σ := Int × Int) (fun p2 againp2 =>
    cond (decide (p2.2 < (List.length t : Int)))
      (gd (0 ≤ p2.2 ∧ p2.2 < (List.length t : Int)) <|
      cond (decide ((UInt8.toNat (List.getD t (Int.toNat p2.2) 0) : Int) < (48 : Int)))
        (some ((0 : Int), false))
        (gd (0 ≤ p2.2 ∧ p2.2 < (List.length t : Int)) <|
        cond (decide ((57 : Int) < (UInt8.toNat (List.getD t (Int.toNat p2.2) 0) : Int)))
          (some ((0 : Int), false))
          (bnd (IntKind.wrap .i64 (p2.1 * (10 : Int))) fun x3 =>
          gd (0 ≤ p2.2 ∧ p2.2 < (List.length t : Int)) <|
          bnd (IntKind.wrap .u8 ((UInt8.toNat (List.getD t (Int.toNat p2.2) 0) : Int) - (48 : Int))) fun x4 =>
          bnd (IntKind.wrap .i64 (x3 + (IntKind.wrap .i64 x4))) fun x5 =>
          bnd (IntKind.wrap .i64 (p2.2 + (1 : Int))) fun x6 =>
          againp2 (x5, x6))))
      (some (p2.1, true))) ((0 : Int), (0 : Int)) = r := by
    rintro r rfl
    refine loopK_rule (fun p : Int × Int => ∃ i : Nat, p = ((valN 0 (t.take i) : Int), (i : Int)) ∧ i ≤ t.length ∧ (t.take i).all isD = true) (fun p => t.length - p.2.toNat) ⟨0, by simp [valN], Nat.zero_le _, by simp⟩ (by split <;> rfl) ?_
    rintro _ again ⟨i, rfl, hi, hd⟩ hag
    simp only []
    by_cases hlt : i < t.length
    · rw [dT (by omega), cond_true, gd_pos (by omega), toNat_nat]
      have htk : t.take (i + 1) = t.take i ++ [t.getD i 0] := by
        rw [List.take_succ_eq_append_getElem hlt, List.getD_eq_getElem?_getD, List.getElem?_eq_getElem hlt]; rfl
      have hbad : isD (t.getD i 0) = false → t.all isD = false := fun h => by
        cases hx : t.all isD with
        | false => rfl
        | true =>
          rw [List.all_eq_true] at hx
          rw [hx _ (getD_mem 0 hlt)] at h
          cases h
      by_cases d1 : (t.getD i 0).toNat < 48
      · rw [dT (by omega), cond_true, if_neg]
        rw [hbad (by unfold isD; exact dF (by omega))]; simp
      · rw [dF (by omega), cond_false, gd_pos (by omega)]
        by_cases d2 : 57 < (t.getD i 0).toNat
        · rw [dT (by omega), cond_true, if_neg]
          rw [hbad (by unfold isD; exact dF (by omega))]; simp
        · rw [dF (by omega), cond_false]
          have hD : isD (t.getD i 0) = true := by unfold isD; exact dT (by omega)
          have hv := valN_lt (t.take i) 0 0 hd (by simp)
          rw [List.length_take, Nat.min_eq_left (by omega), Nat.zero_add] at hv
          have hv9 : valN 0 (t.take i) < 1000000000 := Nat.lt_of_lt_of_le hv (by
            have : 10 ^ i ≤ 10 ^ 9 := Nat.pow_le_pow_right (by omega) (by omega)
            simpa using this)
          simp only [bnd_eq]
          have hw : IntKind.wrap .u8 (((t.getD i 0).toNat : Int) - 48) = ((t.getD i 0).toNat : Int) - 48 := by rw [IntKind.wrap_u8]; omega
          rw [gd_pos (by omega), hw, i64_wrap (n := (valN 0 (t.take i) : Int) * 10) (by omega), i64_wrap (n := ((t.getD i 0).toNat : Int) - 48) (by omega), i64_wrap (n := (valN 0 (t.take i) : Int) * 10 + (((t.getD i 0).toNat : Int) - 48)) (by omega), i64_wrap (by omega)]
          refine hag _ ⟨i + 1, ?_, by omega, by rw [htk, List.all_append, hd, List.all_cons, List.all_nil, hD]; rfl⟩ (by simp only []; omega)
          rw [htk, valN_app]
          have : valN (valN 0 (t.take i)) [t.getD i 0] = valN 0 (t.take i) * 10 + ((t.getD i 0).toNat - 48) := rfl
          rw [this]
          refine Prod.ext ?_ ?_ <;> simp only [] <;> omega
    · have : i = t.length := by omega
      subst this
      rw [List.take_length] at hd ⊢
      rw [dF (by omega), cond_false, if_pos hd]
  by_cases h48 : t.getD 0 0 = 48
  · have := by48.2 h48
    rw [dT (by omega), cond_true]
    by_cases h1 : 1 < t.length
    · rw [dT (by omega), cond_true, if_pos (.inr (.inr ⟨h48, h1⟩))]
    · rw [dF (by omega), cond_false, if_neg (by
        rintro (h | h | h)
        · exact h0 h
        · exact h9 h
        · exact h1 h.2)]
      exact rest _ (by split <;> rfl)
  · have : ¬ (t.getD 0 0).toNat = 48 := fun e => h48 (by48.1 e)
    rw [dF (by omega), cond_false, if_neg (by
      rintro (h | h | h)
      · exact h0 h
      · exact h9 h
      · exact h48 h.1)]
    exact rest _ (by split <;> rfl)
theorem numP_itoa {n : Int} (h0 : 0 ≤ n) (h1 : n ≤ 9999) : numP (Lib.itoa n) = (n, true) := by
  unfold numP
  rw [itoa_pos h0]
  obtain ⟨d1, d2, d3, d4⟩ := dec_digits n.toNat
  have hl := dec_len4 (u := n.toNat) (by omega)
  rw [if_neg, if_pos d1, d2, Int.toNat_of_nonneg h0]
  rintro (h | h | ⟨h, h'⟩)
  · exact d3 h
  · omega
  · by_cases hz : n.toNat = 0
    · rw [hz, dec_lt (by omega)] at h'; simp at h'
    · have := d4 hz
      cases hx : Lib.decDigits n.toNat with
      | nil => exact d3 hx
      | cons c r =>
        rw [hx] at h this
        have : c = 48 := h
        subst this
        simp at *
theorem f51 (s : List UInt8) (hs : s.length ≤ 1000000) : ∃ y, F51 s = some y ∧ HdrOk s y := by
  have hno : (∀ r, OkH r → headR r = s → False) → HdrOk s (((0, 0, 0, [], []) : Rec), false) := fun h => ⟨rfl, fun e => by (cases e), fun _ ⟨r, h1, h2⟩ => h r h1 h2⟩
  have hfind : ∀ r, OkH r → headR r = s → findN s 32 = (Lib.itoa r.1).length + 1 ∧ s.length = (Lib.itoa r.1).length + 1 + (6 + (kindS r.2.2.1).length + 1) ∧ s.getD 0 0 = 61 ∧ (s.take (findN s 32)).drop 1 = Lib.itoa r.1 ∧ s.drop (s.length - 3) = r.2.2.2.1 := fun r h e => by
    have hn : (32 : UInt8) ∉ 61 :: Lib.itoa r.1 := by
      rw [List.mem_cons]
      rintro (e | e)
      · exact absurd e (by decide)
      · exact not_mem_of (itoa_digs h.id0).1 (by decide) e
    have e0 : s = (61 :: Lib.itoa r.1) ++ 32 :: (Lib.itoa r.2.1 ++ 32 :: (kindS r.2.2.1 ++ 32 :: r.2.2.2.1)) := by rw [← e]; rfl
    have e1 : findN s 32 = (Lib.itoa r.1).length + 1 := by rw [e0, findN_at hn]; rfl
    have hv := itoa_one (n := r.2.1) (by have := h.v0; omega) (by have := h.v1; omega)
    have hll := (lang_len h.lang).1
    have e2 : s.length = (Lib.itoa r.1).length + 1 + (6 + (kindS r.2.2.1).length + 1) := by
      rw [e0]; simp only [List.length_append, List.length_cons, hv, hll]; omega
    refine ⟨e1, e2, by rw [e0]; rfl, ?_, ?_⟩
    · rw [e1, e0, show (Lib.itoa r.1).length + 1 = (61 :: Lib.itoa r.1).length from rfl, List.take_left]; rfl
    · have e3 : s = ((61 :: Lib.itoa r.1) ++ 32 :: (Lib.itoa r.2.1 ++ 32 :: (kindS r.2.2.1 ++ [32]))) ++ r.2.2.2.1 := by rw [e0]; simp [List.append_assoc]
      have e4 : s.length - 3 = ((61 :: Lib.itoa r.1) ++ 32 :: (Lib.itoa r.2.1 ++ 32 :: (kindS r.2.2.1 ++ [32]))).length := by
        conv => lhs; rw [e3]
        rw [List.length_append, hll]; omega
      rw [e4]
      conv => lhs; rw [e3]
      rw [List.drop_left]
  unfold F51
  -- the first blank
  have hjn : ∀ (k : Int → Option (Rec × Bool)) (r : Option (Rec × Bool)), r.isSome = true → k (findN s 32 : Nat) = r → jn (σ := Int) (fun nextj1 =>
    loopK (σ := Int) (fun p2 againp2 =>
      cond (decide (p2 < (List.length s : Int)))
        (gd (0 ≤ p2 ∧ p2 < (List.length s : Int)) <|
        cond (!decide ((UInt8.toNat (List.getD s (Int.toNat p2) 0) : Int) = (32 : Int)))
          (bnd (IntKind.wrap .i64 (p2 + (1 : Int))) fun x3 =>
          againp2 x3)
          (nextj1 p2))
        (nextj1 p2)) (0 : Int)) k = r := by
    intro k r hr hk
    refine jn_rule (fun y => y = (findN s 32 : Nat)) (fun next hn => ?_) (by rintro _ rfl; exact hk)
    refine loopK_rule (fun p : Int => ∃ i : Nat, p = i ∧ i ≤ s.length ∧ i + findN (s.drop i) 32 = findN s 32) (fun p => s.length - p.toNat) ⟨0, rfl, Nat.zero_le _, by simp⟩ hr ?_
    rintro _ again ⟨i, rfl, hi, he⟩ hag
    by_cases hlt : i < s.length
    · rw [dT (by omega), cond_true, gd_pos (by omega), toNat_nat]
      rw [drop_cons hlt, findN_cons] at he
      by_cases hc : s.getD i 0 = 32
      · have := by32.2 hc
        rw [dT (by omega), Bool.not_true, cond_false]
        rw [if_pos hc] at he
        exact hn _ (by omega)
      · have : ¬ (s.getD i 0).toNat = 32 := fun e => hc (by32.1 e)
        rw [dF (by omega), Bool.not_false, cond_true, bnd_eq, i64_wrap (by omega)]
        rw [if_neg hc] at he
        exact hag _ ⟨i + 1, by omega, by omega, by omega⟩ (by omega)
    · rw [dF (by omega), cond_false]
      rw [List.drop_eq_nil_of_le (by omega)] at he
      have hf0 : findN ([] : List UInt8) 32 = 0 := rfl
      rw [hf0] at he
      exact hn _ (by omega)
  have hfl := findN_le s 32
  have mkno : ∀ k : Int → Option (Rec × Bool), k (findN s 32 : Nat) = some ((0, 0, 0, [], []), false) → (∀ r, OkH r → headR r = s → False) → ∃ y, jn (σ := Int) (fun nextj1 =>
    loopK (σ := Int) (fun p2 againp2 =>
      cond (decide (p2 < (List.length s : Int)))
        (gd (0 ≤ p2 ∧ p2 < (List.length s : Int)) <|
        cond (!decide ((UInt8.toNat (List.getD s (Int.toNat p2) 0) : Int) = (32 : Int)))
          (bnd (IntKind.wrap .i64 (p2 + (1 : Int))) fun x3 =>
          againp2 x3)
          (nextj1 p2))
        (nextj1 p2)) (0 : Int)) k = some y ∧ HdrOk s y := fun k hk h => ⟨_, hjn k _ rfl hk, hno h⟩
  by_cases c1 : findN s 32 < 2
  · refine mkno _ ?_ fun r h e => ?_
    · rw [dT (by omega), cond_true]
    · obtain ⟨q1, _⟩ := hfind r h e
      have := List.length_pos_iff.2 (itoa_digs h.id0).2
      omega
  by_cases c2 : s.length < findN s 32 + 4
  · refine mkno _ ?_ fun r h e => ?_
    · rw [dF (by omega), cond_false, bnd_eq, i64_wrap (by omega), dT (by omega), cond_true]
    · obtain ⟨q1, q2, _⟩ := hfind r h e
      omega
  by_cases c3' : ¬ s.getD 0 0 = 61
  · refine mkno _ ?_ fun r h e => ?_
    · have : ¬ (s.getD 0 0).toNat = 61 := fun e => c3' (by rw [← UInt8.toNat_inj]; exact e)
      rw [dF (by omega), cond_false, bnd_eq, i64_wrap (by omega), dF (by omega), cond_false, gd_pos (by omega), show Int.toNat (0 : Int) = 0 from rfl, dF (by omega), Bool.not_false, cond_true]
    · exact c3' (hfind r h e).2.2.1
  have c3 : s.getD 0 0 = 61 := Decidable.not_not.1 c3'
  have c3n : (s.getD 0 0).toNat = 61 := by rw [c3]; rfl
  have hcut : List.drop (Int.toNat 1) (List.take (Int.toNat ((findN s 32 : Nat) : Int)) s) = (s.take (findN s 32)).drop 1 := by rw [toNat_nat]; rfl
  cases hnum : (numP ((s.take (findN s 32)).drop 1)).2 with
  | false =>
    refine mkno _ ?_ fun r h e => ?_
    · rw [dF (by omega), cond_false, bnd_eq, i64_wrap (by omega), dF (by omega), cond_false, gd_pos (by omega), show Int.toNat (0 : Int) = 0 from rfl, dT (by omega), Bool.not_true, cond_false, gd_pos (by omega), bnd_eq, hcut, f76, bindO_some, hnum, Bool.not_false, cond_true]
    · rw [(hfind r h e).2.2.2.1, numP_itoa h.id0 h.id1] at hnum; cases hnum
  | true =>
  generalize hid : (numP ((s.take (findN s 32)).drop 1)).1 = id at *
  -- the ways through the numbers
  have hdr3 : List.drop (Int.toNat ((s.length : Int) - 3)) s = s.drop (s.length - 3) := by rw [show Int.toNat ((s.length : Int) - 3) = s.length - 3 by omega]
  have main : ∀ R : Rec × Bool, (∀ (v k : Int), OkH (id, v, k, s.drop (s.length - 3), []) → headR (id, v, k, s.drop (s.length - 3), []) = s → R = ((id, v, k, s.drop (s.length - 3), []), true)) →
      ((∀ (v k : Int), OkH (id, v, k, s.drop (s.length - 3), []) → headR (id, v, k, s.drop (s.length - 3), []) = s → False) → R = ((0, 0, 0, [], []), false)) → F51 s = some R := by
    intro R hyes hnone
    unfold F51
    refine hjn _ _ rfl ?_
    rw [dF (by omega), cond_false, bnd_eq, i64_wrap (by omega), dF (by omega), cond_false, gd_pos (by omega), show Int.toNat (0 : Int) = 0 from rfl, dT (by omega), Bool.not_true, cond_false, gd_pos (by omega), bnd_eq, hcut, f76, bindO_some, hnum, Bool.not_true, cond_false, bnd_eq, i64_wrap (n := (s.length : Int) - 3) (by omega), gd_pos (by omega), bnd_eq, hdr3, hid]
    generalize s.drop (s.length - 3) = lang at *
    -- nothing before has matched
    refine loopK_rule (fun p : Int × (Int × Int × Int × List UInt8 × Unit) => 1 ≤ p.1 ∧ p.1 ≤ 4 ∧ ∀ v k, v < p.1 → OkH (id, v, k, lang, []) → headR (id, v, k, lang, []) = s → False) (fun p => 4 - p.1.toNat) ⟨by omega, by omega, fun v k hv h => by have := h.v0; simp only at this hv; omega⟩ rfl ?_
    rintro ⟨v, junk⟩ again ⟨hv1, hv4, hnv⟩ hag
    simp only at hv1 hv4 hnv hag ⊢
    by_cases hv : v ≤ 3
    · rw [dT hv, cond_true]
      refine loopK_rule (fun q : Int × (Int × Int × Int × List UInt8 × Unit) => 1 ≤ q.1 ∧ q.1 ≤ 5 ∧ ∀ k, k < q.1 → OkH (id, v, k, lang, []) → headR (id, v, k, lang, []) = s → False) (fun q => 5 - q.1.toNat) ⟨by omega, by omega, fun k hk h => by have := h.k0; simp only at this hk; omega⟩ rfl ?_
      rintro ⟨k, junk2⟩ again2 ⟨hk1, hk5, hnk⟩ hag2
      simp only at hk1 hk5 hnk hag2 ⊢
      by_cases hk : k ≤ 4
      · rw [dT hk, cond_true, f28 _ (fun f hf => by cases hf), bindO_some]
        have hnext : ∀ junk', (OkH (id, v, k, lang, []) → headR (id, v, k, lang, []) = s → False) → again2 (k + 1, junk') = some R := fun junk' hne =>
          hag2 (k + 1, junk') ⟨by simp only []; omega, by simp only []; omega, fun k' hk' h1 h2 => by
            simp only at hk'
            by_cases he : k' = k
            · subst he; exact hne h1 h2
            · exact hnk k' (by omega) h1 h2⟩ (by simp only []; omega)
        by_cases he : errR (id, v, k, lang, []) = 0
        · have ok := (okR_of he).toOkH
          have h29 := f29 (id, v, k, lang, []) ok
          simp only at h29
          rw [dT he, cond_true, h29, bindO_some]
          by_cases hh : headR (id, v, k, lang, []) = s
          · rw [dT hh, cond_true, hyes v k ok hh]
          · rw [dF hh, cond_false, bnd_eq, i64_wrap (by omega)]
            exact hnext _ fun _ h => hh h
        · rw [dF he, cond_false, bnd_eq, i64_wrap (by omega)]
          exact hnext _ fun h _ => he (errR_of (okR_nil h rfl))
      · rw [dF hk, cond_false, bnd_eq, i64_wrap (by omega)]
        exact hag _ ⟨by simp only []; omega, by simp only []; omega, fun v' k' hv' h1 h2 => by
          simp only at hv'
          by_cases he : v' = v
          · subst he
            exact hnk k' (by have := h1.k1; simp only at this; omega) h1 h2
          · exact hnv v' k' (by omega) h1 h2⟩ (by simp only []; omega)
    · rw [dF hv, cond_false, hnone fun v' k' h1 h2 => hnv v' k' (by have := h1.v1; simp only at this; omega) h1 h2]
  by_cases hex : ∃ r, OkH r ∧ headR r = s
  · obtain ⟨r, h, e⟩ := hex
    obtain ⟨_, _, _, q4, q5⟩ := hfind r h e
    rw [q4, numP_itoa h.id0 h.id1] at hid
    have hid' : r.1 = id := hid
    subst hid'
    have h' : OkH (r.1, r.2.1, r.2.2.1, s.drop (s.length - 3), []) := by rw [q5]; exact ⟨h.id0, h.id1, h.v0, h.v1, h.k0, h.k1, h.lang⟩
    have e' : headR (r.1, r.2.1, r.2.2.1, s.drop (s.length - 3), []) = s := by rw [q5]; exact e
    refine ⟨((r.1, r.2.1, r.2.2.1, s.drop (s.length - 3), []), true), ?_, rfl, fun _ => ⟨h', e'⟩, fun x => by cases x⟩
    have := main ((r.1, r.2.1, r.2.2.1, s.drop (s.length - 3), []), true) (fun v k h1 h2 => by rw [headR_inj h' h1 (e'.trans h2.symm) rfl]) (fun hn => (hn _ _ h' e').elim)
    unfold F51 at this
    exact this
  · have := main ((0, 0, 0, [], []), false) (fun v k h1 h2 => (hex ⟨_, h1, h2⟩).elim) (fun _ => rfl)
    unfold F51 at this
    exact ⟨_, this, hno fun r h e => hex ⟨r, h, e⟩⟩
end Go.Proofs.YtbkaenpcmbplpaaGreatDoor
