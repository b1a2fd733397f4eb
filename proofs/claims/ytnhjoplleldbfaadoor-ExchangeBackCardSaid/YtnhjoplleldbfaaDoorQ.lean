/-
  Chapter 11: the reference's checks of fields, numbers in decimal. No condition.
-/
import Derived.Test.YtnhjoplleldbfaaDoorP
namespace Go.Proofs.YtnhjoplleldbfaaDoor
open Go Go.Nu

theorem dT {p : Prop} [Decidable p] (h : p) : decide p = true := decide_eq_true h
theorem dF {p : Prop} [Decidable p] (h : ¬ p) : decide p = false := decide_eq_false h
theorem toNat1 (i : Nat) : ((i : Int) + 1).toNat = i + 1 := by omega
theorem toNat2 (i : Nat) : ((i : Int) + 2).toNat = i + 2 := by omega

theorem f80 (s : List UInt8) (i : Nat) (h : i < s.length) (hs : s.length ≤ 1000000000) : F80 s i = some (((decR (s.length - i) (s.getD i 0).toNat (s.getD (i + 1) 0).toNat (s.getD (i + 2) 0).toNat).1 : Int), ((decR (s.length - i) (s.getD i 0).toNat (s.getD (i + 1) 0).toNat (s.getD (i + 2) 0).toNat).2 : Int)) := by
  unfold F80
  have e1 : IntKind.wrap .i64 ((i : Int) + 1) = (i : Int) + 1 := i64_wrap (by omega)
  have e2 : IntKind.wrap .i64 ((i : Int) + 2) = (i : Int) + 2 := i64_wrap (by omega)
  rw [gd_pos (by omega)]
  simp only [e1, e2, bnd_eq, toNat1, toNat2, toNat_nat]
  have h0 := UInt8.toNat_lt (s.getD i 0)
  have h1 := UInt8.toNat_lt (s.getD (i + 1) 0)
  have h2 := UInt8.toNat_lt (s.getD (i + 2) 0)
  generalize (s.getD i 0).toNat = b0 at *
  generalize (s.getD (i + 1) 0).toNat = b1 at *
  generalize (s.getD (i + 2) 0).toNat = b2 at *
  have w0 : IntKind.wrap .i64 (b0 : Int) = b0 := i64_wrap (by omega)
  have w1 : IntKind.wrap .i64 (b1 : Int) = b1 := i64_wrap (by omega)
  have w2 : IntKind.wrap .i64 (b2 : Int) = b2 := i64_wrap (by omega)
  simp only [w0, w1, w2]
  unfold decR
  rw [jn_eq]
  dsimp only
  by_cases c1 : 32 ≤ b0 ∧ b0 < 127
  · rw [if_pos c1, dT (by omega), cond_true, dT (by omega), cond_true]
    rfl
  rw [if_neg c1]
  have skip : ∀ (x y : Option (Int × Int)), (bif decide ((32 : Int) ≤ b0) then bif decide ((b0 : Int) < 127) then x else y else y) = y := by
    intro x y
    by_cases c2 : 32 ≤ b0
    · rw [dT (by omega), cond_true, dF (by omega), cond_false]
    · rw [dF (by omega), cond_false]
  rw [skip]
  by_cases c2 : 194 ≤ b0 ∧ b0 < 224 ∧ 1 < s.length - i ∧ 128 ≤ b1 ∧ b1 < 192
  · rw [jn_eq]
    dsimp only
    rw [if_pos c2, dT (by omega), cond_true, dT (by omega), cond_true, dT (by omega), cond_true, gd_pos (by omega), dT (by omega), cond_true, gd_pos (by omega), dT (by omega), cond_true]
    rw [i64_wrap (n := (b0 : Int) - 192) (by omega), i64_wrap (n := ((b0 : Int) - 192) * 64) (by omega), gd_pos (by omega), i64_wrap (n := ((b0 : Int) - 192) * 64 + b1) (by omega), i64_wrap (by omega)]
    by_cases c3 : 160 ≤ (b0 - 192) * 64 + (b1 - 128)
    · rw [if_pos c3, dT (by omega), cond_true]
      congr 2
      omega
    · rw [if_neg c3, dF (by omega), cond_false]
      rfl
  rw [if_neg c2]
  refine jn_rule (fun b => b = false) (fun next hn => ?_) ?_
  · by_cases d1 : 194 ≤ b0
    · rw [dT (by omega), cond_true]
      by_cases d2 : b0 < 224
      · rw [dT (by omega), cond_true]
        by_cases d3 : i + 1 < s.length
        · rw [dT (by omega), cond_true, gd_pos (by omega)]
          by_cases d4 : 128 ≤ b1
          · rw [dT (by omega), cond_true, gd_pos (by omega), dF (by omega)]
            exact hn _ rfl
          · rw [dF (by omega), cond_false]
            exact hn _ rfl
        · rw [dF (by omega), cond_false]
          exact hn _ rfl
      · rw [dF (by omega), cond_false]
        exact hn _ rfl
    · rw [dF (by omega), cond_false]
      exact hn _ rfl
  rintro _ rfl
  rw [cond_false]
  by_cases c3 : 224 ≤ b0 ∧ b0 < 240 ∧ 2 < s.length - i ∧ 128 ≤ b1 ∧ b1 < 192 ∧ 128 ≤ b2 ∧ b2 < 192
  · rw [jn_eq]
    dsimp only
    rw [if_pos c3, dT (by omega), cond_true, dT (by omega), cond_true, dT (by omega), cond_true, gd_pos (by omega), dT (by omega), cond_true, gd_pos (by omega), dT (by omega), cond_true, gd_pos (by omega), dT (by omega), cond_true, gd_pos (by omega), dT (by omega), cond_true]
    rw [i64_wrap (n := (b0 : Int) - 224) (by omega), i64_wrap (n := ((b0 : Int) - 224) * 4096) (by omega), gd_pos (by omega), i64_wrap (n := (b1 : Int) - 128) (by omega), i64_wrap (n := ((b1 : Int) - 128) * 64) (by omega), i64_wrap (n := ((b0 : Int) - 224) * 4096 + ((b1 : Int) - 128) * 64) (by omega), gd_pos (by omega),
      i64_wrap (n := ((b0 : Int) - 224) * 4096 + ((b1 : Int) - 128) * 64 + b2) (by omega), i64_wrap (by omega)]
    by_cases c4 : 2048 ≤ (b0 - 224) * 4096 + (b1 - 128) * 64 + (b2 - 128)
    · rw [dT (by omega), cond_true]
      by_cases c5 : (b0 - 224) * 4096 + (b1 - 128) * 64 + (b2 - 128) < 55296
      · rw [dT (by omega), cond_true, if_pos (by omega)]
        congr 2
        omega
      · rw [dF (by omega), cond_false]
        by_cases c6 : 57343 < (b0 - 224) * 4096 + (b1 - 128) * 64 + (b2 - 128)
        · rw [dT (by omega), cond_true, if_pos (by omega)]
          congr 2
          omega
        · rw [dF (by omega), cond_false, if_neg (by omega)]
          rfl
    · rw [dF (by omega), cond_false, if_neg (by omega)]
      rfl
  · rw [if_neg c3]
    refine jn_rule (fun b => b = false) (fun next hn => ?_) ?_
    · by_cases d1 : 224 ≤ b0
      · rw [dT (by omega), cond_true]
        by_cases d2 : b0 < 240
        · rw [dT (by omega), cond_true]
          by_cases d3 : i + 2 < s.length
          · rw [dT (by omega), cond_true, gd_pos (by omega)]
            by_cases d4 : 128 ≤ b1
            · rw [dT (by omega), cond_true, gd_pos (by omega)]
              by_cases d5 : b1 < 192
              · rw [dT (by omega), cond_true, gd_pos (by omega)]
                by_cases d6 : 128 ≤ b2
                · rw [dT (by omega), cond_true, gd_pos (by omega), dF (by omega)]
                  exact hn _ rfl
                · rw [dF (by omega), cond_false]
                  exact hn _ rfl
              · rw [dF (by omega), cond_false]
                exact hn _ rfl
            · rw [dF (by omega), cond_false]
              exact hn _ rfl
          · rw [dF (by omega), cond_false]
            exact hn _ rfl
        · rw [dF (by omega), cond_false]
          exact hn _ rfl
      · rw [dF (by omega), cond_false]
        exact hn _ rfl
    rintro _ rfl
    rfl

theorem dec0_drop (s : List UInt8) (i : Nat) : dec0 (s.drop i) = (decR (s.length - i) (s.getD i 0).toNat (s.getD (i + 1) 0).toNat (s.getD (i + 2) 0).toNat).2 := by
  unfold dec0
  simp only [List.length_drop, List.getD_eq_getElem?_getD, List.getElem?_drop, Nat.add_zero]
theorem f61 (s : List UInt8) (hs : s.length ≤ 1000000000) : F61 s = some (validT s) := by
  unfold F61
  refine loopK_rule (fun p : Int => ∃ i : Nat, p = i ∧ i ≤ s.length ∧ validT (s.drop i) = validT s) (fun p => s.length - p.toNat) ⟨0, rfl, Nat.zero_le _, rfl⟩ rfl ?_
  rintro _ again ⟨i, rfl, hi, he⟩ hag
  by_cases hlt : i < s.length
  · rw [dT (by omega), cond_true, f80 s i hlt hs, bindO_some]
    have hne : s.drop i ≠ [] := by
      intro e
      have := congrArg List.length e
      rw [List.length_drop] at this
      simp at this; omega
    rw [validT_step hne] at he
    have hd := dec0_drop s i
    simp only [← hd]
    have hle : dec0 (s.drop i) ≤ s.length - i := by
      rw [dec0_eq hne]
      split
      · omega
      · have := Lib.decodeL_le (s.drop i) hne
        rw [List.length_drop] at this; exact this
    by_cases hz : dec0 (s.drop i) = 0
    · rw [if_pos hz] at he
      rw [dT (by omega), cond_true, he]
    · rw [if_neg hz, List.drop_drop] at he
      rw [dF (by omega), cond_false, bnd_eq, i64_wrap (by omega)]
      exact hag _ ⟨i + dec0 (s.drop i), by omega, by omega, he⟩ (by omega)
  · rw [dF (by omega), cond_false]
    rw [List.drop_eq_nil_of_le (by omega)] at he
    rw [← he]; rfl

theorem f59 (c : UInt8) : F59 c = some (isD c) := by
  unfold F59 isD
  by_cases h : 48 ≤ c.toNat
  · rw [dT (by omega), cond_true]
    congr 1
    rw [Bool.eq_iff_iff, decide_eq_true_eq, decide_eq_true_eq]
    omega
  · rw [dF (by omega), cond_false, dF (by omega)]
theorem f60 (c : UInt8) : F60 c = some (codeB c) := by
  unfold F60 codeB
  rw [f59, bindO_some]
  cases isD c with
  | true => rfl
  | false =>
    rw [cond_false, Bool.false_or]
    by_cases h : 97 ≤ c.toNat
    · rw [dT (by omega), cond_true]
      congr 1
      rw [Bool.eq_iff_iff, decide_eq_true_eq, decide_eq_true_eq]
      omega
    · rw [dF (by omega), cond_false, dF (by omega)]
theorem f58 (t : List UInt8) : F58 t = some (tagB t) := by
  unfold F58 tagB
  by_cases h : t.length = 3
  · match t, h with
    | [a, b, c], _ =>
      rw [dT (by simp), cond_true, gd_pos (by simp), f59, bindO_some]
      rw [dT (show ([a, b, c] : List UInt8).length = 3 from rfl), Bool.true_and]
      show (bif isD a then _ else _) = some (((isD a) && ((isD b) && ((isD c) && true))) && _)
      cases ha : isD a with
      | false => rfl
      | true =>
        rw [cond_true, gd_pos (by simp), f59, bindO_some]
        show (bif isD b then _ else _) = _
        cases hb : isD b with
        | false => rfl
        | true =>
          rw [cond_true, gd_pos (by simp), f59, bindO_some]
          show (bif isD c then _ else _) = _
          cases hc : isD c with
          | false => rfl
          | true =>
            rw [cond_true, ltag ha hb hc]
            rfl
  · rw [dF (by omega), cond_false, dF h, Bool.false_and]
theorem ind_two {a b : UInt8} : indB [a, b] = ((decide (a = 32) || isD a) && (decide (b = 32) || isD b)) := by
  unfold indB
  simp
theorem by32 {a : UInt8} : a.toNat = 32 ↔ a = 32 := by rw [← UInt8.toNat_inj]; rfl
theorem f39 (f : Field) (hs : sizeS f.2.2.1) : F39 f = some (errF f) := by
  obtain ⟨tag, ind, subs, auth⟩ := f
  unfold F39 errF
  simp only [] at hs ⊢
  rw [f58, bindO_some]
  cases htag : tagB tag with
  | false => rfl
  | true =>
  rw [Bool.not_true, cond_false, if_neg (by simp), jn_eq]
  dsimp only
  by_cases h2' : ¬ ind.length = 2
  · rw [dF (by omega), Bool.not_false, cond_true, if_pos]
    unfold indB; rw [dF h2']; rfl
  have h2 : ind.length = 2 := Decidable.not_not.1 h2'
  rw [dT (by omega), Bool.not_true, cond_false]
  match ind, h2 with
  | [a, b], _ =>
  rw [gd_pos (by simp)]
  simp only [show Int.toNat (0 : Int) = 0 from rfl, show Int.toNat (1 : Int) = 1 from rfl, show List.getD [a, b] 0 0 = a from rfl, show List.getD [a, b] 1 0 = b from rfl, f59, bindO_some, ind_two]
  have g0 : ∀ x : Option Int, gd (0 ≤ (0 : Int) ∧ (0 : Int) < (([a, b] : List UInt8).length : Int)) x = x := fun x => gd_pos (by simp)
  have g1 : ∀ x : Option Int, gd (0 ≤ (1 : Int) ∧ (1 : Int) < (([a, b] : List UInt8).length : Int)) x = x := fun x => gd_pos (by simp)
  simp only [g0, g1]
  have hi : ∀ c : UInt8, decide (((c.toNat : Nat) : Int) = 32) = decide (c = 32) := fun c => by
    rw [Bool.eq_iff_iff, decide_eq_true_eq, decide_eq_true_eq, ← by32]; omega
  simp only [hi]
  have rest : (bif decide ((subs.length : Int) = 0) then some (8 : Int) else bif decide ((16 : Int) < (subs.length : Int)) then some (4 : Int) else loopK (σ := Int) (fun p6 againp6 =>
          cond (decide (p6 < (List.length subs : Int)))
            (gd (0 ≤ p6 ∧ p6 < (List.length subs : Int)) <|
            bindO (F60 ((List.getD subs (Int.toNat p6) (0, [])).1)) fun y7 =>
            cond (!y7)
              (some (1 : Int))
              (cond (decide ((List.getD subs (Int.toNat p6) (0, [])).2 = ([] : List UInt8)))
                (some (8 : Int))
                (bindO (F61 ((List.getD subs (Int.toNat p6) (0, [])).2)) fun y8 =>
                cond (!y8)
                  (some (3 : Int))
                  (cond (decide ((200 : Int) < (List.length ((List.getD subs (Int.toNat p6) (0, [])).2) : Int)))
                    (some (4 : Int))
                    (bnd (IntKind.wrap .i64 (p6 + (1 : Int))) fun x9 =>
                    againp6 x9)))))
            (cond (decide (auth < (0 : Int)))
              (some (2 : Int))
              (cond (decide ((9999 : Int) < auth))
                (some (2 : Int))
                (some (0 : Int))))) (0 : Int)) = some (if subs = [] then 8 else if 16 < subs.length then 4 else if errL subs ≠ 0 then errL subs else if auth < 0 ∨ 9999 < auth then 2 else 0) := by
    by_cases h3 : subs = []
    · subst h3; rfl
    have h3' : subs.length ≠ 0 := fun e => h3 (List.length_eq_zero_iff.1 e)
    rw [dF (by omega), cond_false, if_neg h3]
    by_cases h4 : 16 < subs.length
    · rw [dT (by omega), cond_true, if_pos h4]
    rw [dF (by omega), cond_false, if_neg h4]
    refine loopK_rule (fun p : Int => ∃ i : Nat, p = i ∧ i ≤ subs.length ∧ errL (subs.drop i) = errL subs) (fun p => subs.length - p.toNat) ⟨0, rfl, Nat.zero_le _, rfl⟩ rfl ?_
    rintro _ again ⟨i, rfl, hi, he⟩ hag
    by_cases hlt : i < subs.length
    · rw [dT (by omega), cond_true, gd_pos (by omega), toNat_nat]
      rw [errL_drop hlt] at he
      have hmem : subs.getD i (0, []) ∈ subs := by
        rw [List.getD_eq_getElem?_getD, List.getElem?_eq_getElem hlt]
        exact List.getElem_mem hlt
      have hsz := hs _ hmem
      generalize subs.getD i (0, []) = x at *
      rw [f60, bindO_some]
      unfold errS at he
      cases h1 : codeB x.1 with
      | false =>
        rw [if_pos h1, if_pos (by decide)] at he
        rw [← he]; rfl
      | true =>
        rw [if_neg (show ¬ codeB x.1 = false by simp [h1])] at he
        rw [Bool.not_true, cond_false]
        by_cases h2 : x.2 = []
        · rw [if_pos h2, if_pos (by decide)] at he
          rw [dT h2, cond_true, ← he]; rfl
        · rw [if_neg h2] at he
          rw [dF h2, cond_false, f61 _ (by omega), bindO_some]
          cases h3 : validT x.2 with
          | false =>
            rw [if_pos h3, if_pos (by decide)] at he
            rw [← he]; rfl
          | true =>
            rw [if_neg (show ¬ validT x.2 = false by simp [h3])] at he
            rw [Bool.not_true, cond_false]
            by_cases h4 : 200 < x.2.length
            · rw [if_pos h4, if_pos (by decide)] at he
              rw [dT (by omega), cond_true, ← he]; rfl
            · rw [if_neg h4, if_neg (by decide)] at he
              rw [dF (by omega), cond_false, bnd_eq, i64_wrap (by omega)]
              exact hag _ ⟨i + 1, by omega, by omega, he⟩ (by omega)
    · rw [dF (by omega), cond_false]
      rw [List.drop_eq_nil_of_le (by omega)] at he
      rw [← he, if_neg (by simp [errL])]
      by_cases ha : auth < 0
      · rw [dT ha, cond_true, if_pos (.inl ha)]
      · rw [dF ha, cond_false]
        by_cases hb : 9999 < auth
        · rw [dT hb, cond_true, if_pos (.inr hb)]
        · rw [dF hb, cond_false, if_neg (by omega)]
  simp only [rest]
  by_cases ha : a = 32
  · rw [dT ha, Bool.not_true, cond_false, Bool.true_or, Bool.true_and]
    by_cases hb : b = 32
    · rw [dT hb, Bool.not_true, cond_false, Bool.true_or, if_neg (show ¬ (true = false) by decide)]
    · rw [dF hb, Bool.not_false, cond_true, Bool.false_or]
      cases isD b <;> rfl
  · rw [dF ha, Bool.not_false, cond_true, Bool.false_or]
    cases isD a with
    | false => rfl
    | true =>
      rw [Bool.not_true, cond_false, Bool.true_and]
      by_cases hb : b = 32
      · rw [dT hb, Bool.not_true, cond_false, Bool.true_or, if_neg (show ¬ (true = false) by decide)]
      · rw [dF hb, Bool.not_false, cond_true, Bool.false_or]
        cases isD b <;> rfl
end Go.Proofs.YtnhjoplleldbfaaDoor
