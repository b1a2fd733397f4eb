/-
  Chapter 11: records: their checks and their lines. No condition.
-/
import Derived.Test.YtnhjoplleldbfaaDoorQ
namespace Go.Proofs.YtnhjoplleldbfaaDoor
open Go Go.Nu

theorem trim_all {cs : List UInt8} {p : UInt8 → Bool} (hp : ∀ c, cs.contains c = p c) (s : List UInt8) : Lib.trimS s cs = [] ↔ s.all p = true := by
  unfold Lib.trimS Lib.trimLeftS Lib.trimRightS
  have e : (fun x => cs.contains x) = p := funext hp
  rw [e, dropWhile_nil, List.all_reverse]
  constructor
  · intro h
    have key : ∀ l : List UInt8, (l.dropWhile p).all p = true → l.all p = true := by
      intro l
      induction l with
      | nil => intro _; rfl
      | cons c l ih =>
        rw [List.dropWhile_cons]
        cases hc : p c
        · intro h; simp [hc] at h
        · intro h
          rw [List.all_cons, hc, Bool.true_and]
          exact ih (by simpa using h)
    have := key s.reverse h
    rwa [List.all_reverse] at this
  · intro h
    have : s.reverse.dropWhile p = [] := dropWhile_nil.2 (by rw [List.all_reverse]; exact h)
    rw [this]; rfl
def isL (c : UInt8) : Bool := decide (97 ≤ c.toNat ∧ c.toNat ≤ 122)
theorem letters_contains (c : UInt8) : ([97, 98, 99, 100, 101, 102, 103, 104, 105, 106, 107, 108, 109, 110, 111, 112, 113, 114, 115, 116, 117, 118, 119, 120, 121, 122] : List UInt8).contains c = isL c := by
  rw [Bool.eq_iff_iff]
  simp only [List.contains_eq_mem, decide_eq_true_eq, List.mem_cons, List.not_mem_nil, or_false, isL, ← UInt8.toNat_inj]
  show (c.toNat = 97 ∨ c.toNat = 98 ∨ c.toNat = 99 ∨ c.toNat = 100 ∨ c.toNat = 101 ∨ c.toNat = 102 ∨ c.toNat = 103 ∨ c.toNat = 104 ∨ c.toNat = 105 ∨ c.toNat = 106 ∨ c.toNat = 107 ∨ c.toNat = 108 ∨ c.toNat = 109 ∨ c.toNat = 110 ∨ c.toNat = 111 ∨ c.toNat = 112 ∨ c.toNat = 113 ∨ c.toNat = 114 ∨ c.toNat = 115 ∨ c.toNat = 116 ∨ c.toNat = 117 ∨ c.toNat = 118 ∨ c.toNat = 119 ∨ c.toNat = 120 ∨ c.toNat = 121 ∨ c.toNat = 122) ↔ _
  omega
def langB (t : List UInt8) : Bool := decide (t.length = 3) && t.all isL
def errFs : List Field → Int
  | [] => 0
  | f :: l => if errF f ≠ 0 then errF f else errFs l
def errR (r : Rec) : Int := if r.1 < 0 ∨ 9999 < r.1 then 2 else if r.2.1 < 1 ∨ 3 < r.2.1 then 20 else if r.2.2.1 < 1 ∨ 4 < r.2.2.1 then 1 else if langB r.2.2.2.1 = false then 3 else if 64 < r.2.2.2.2.length then 4 else errFs r.2.2.2.2
def sizeF (l : List Field) : Prop := ∀ f ∈ l, sizeS f.2.2.1
theorem errFs_drop {l : List Field} {i : Nat} (h : i < l.length) : errFs (l.drop i) = if errF (l.getD i ([], [], [], 0)) ≠ 0 then errF (l.getD i ([], [], [], 0)) else errFs (l.drop (i + 1)) := by
  rw [drop_getD ([], [], [], 0) h]; rfl
theorem getD_mem {α : Type} {l : List α} {i : Nat} (d : α) (h : i < l.length) : l.getD i d ∈ l := by
  rw [List.getD_eq_getElem?_getD, List.getElem?_eq_getElem h]
  exact List.getElem_mem h
theorem f20 (r : Rec) (hs : sizeF r.2.2.2.2) : F20 r = some (errR r) := by
  obtain ⟨id, ver, kind, lang, fs⟩ := r
  unfold F20 errR
  simp only [] at hs ⊢
  refine jn_rule (fun b => b = decide (id < 0 ∨ 9999 < id)) (fun next hn => ?_) ?_
  · by_cases h : id < 0
    · rw [dT h, cond_true]; exact hn _ (dT (.inl h)).symm
    · rw [dF h, cond_false]; exact hn _ (by rw [Bool.eq_iff_iff, decide_eq_true_eq, decide_eq_true_eq]; omega)
  rintro _ rfl
  by_cases h1 : id < 0 ∨ 9999 < id
  · rw [dT h1, cond_true, if_pos h1]
  rw [dF h1, cond_false, if_neg h1]
  refine jn_rule (fun b => b = decide (ver < 1 ∨ 3 < ver)) (fun next hn => ?_) ?_
  · by_cases h : ver < 1
    · rw [dT h, cond_true]; exact hn _ (dT (.inl h)).symm
    · rw [dF h, cond_false]; exact hn _ (by rw [Bool.eq_iff_iff, decide_eq_true_eq, decide_eq_true_eq]; omega)
  rintro _ rfl
  by_cases h2 : ver < 1 ∨ 3 < ver
  · rw [dT h2, cond_true, if_pos h2]
  rw [dF h2, cond_false, if_neg h2]
  refine jn_rule (fun b => b = decide (kind < 1 ∨ 4 < kind)) (fun next hn => ?_) ?_
  · by_cases h : kind < 1
    · rw [dT h, cond_true]; exact hn _ (dT (.inl h)).symm
    · rw [dF h, cond_false]; exact hn _ (by rw [Bool.eq_iff_iff, decide_eq_true_eq, decide_eq_true_eq]; omega)
  rintro _ rfl
  by_cases h3 : kind < 1 ∨ 4 < kind
  · rw [dT h3, cond_true, if_pos h3]
  rw [dF h3, cond_false, if_neg h3]
  refine jn_rule (fun b => b = !langB lang) (fun next hn => ?_) ?_
  · by_cases h : lang.length = 3
    · rw [dT (by omega), Bool.not_true, cond_false]
      unfold fTrim
      rw [if_pos ⟨by omega, by simp, by decide⟩, bindO_some]
      refine hn _ ?_
      unfold langB
      rw [dT h, Bool.true_and]
      congr 1
      rw [Bool.eq_iff_iff, decide_eq_true_eq]
      exact trim_all letters_contains lang
    · rw [dF (by omega), Bool.not_false, cond_true]
      exact hn _ (by unfold langB; rw [dF h]; rfl)
  rintro _ rfl
  cases hl : langB lang with
  | false => rfl
  | true =>
  rw [Bool.not_true, cond_false, if_neg (by simp)]
  by_cases h4 : 64 < fs.length
  · rw [dT (by omega), cond_true, if_pos h4]
  rw [dF (by omega), cond_false, if_neg h4]
  refine loopK_rule (fun p : Int => ∃ i : Nat, p = i ∧ i ≤ fs.length ∧ errFs (fs.drop i) = errFs fs) (fun p => fs.length - p.toNat) ⟨0, rfl, Nat.zero_le _, rfl⟩ rfl ?_
  rintro _ again ⟨i, rfl, hi, he⟩ hag
  by_cases hlt : i < fs.length
  · rw [dT (by omega), cond_true, gd_pos (by omega), toNat_nat]
    rw [errFs_drop hlt] at he
    rw [f35 _ (hs _ (getD_mem _ hlt)), bindO_some]
    by_cases hz : errF (fs.getD i ([], [], [], 0)) = 0
    · rw [dT hz, Bool.not_true, cond_false, bnd_eq, i64_wrap (by omega)]
      rw [if_neg (not_not_intro hz)] at he
      exact hag _ ⟨i + 1, by omega, by omega, he⟩ (by omega)
    · rw [dF hz, Bool.not_false, cond_true]
      rw [if_pos hz] at he
      rw [he]
  · rw [dF (by omega), cond_false]
    rw [List.drop_eq_nil_of_le (by omega)] at he
    rw [← he]; rfl
theorem f26 (r : Rec) (hs : sizeF r.2.2.2.2) : F26 r = some (errR r) := by
  obtain ⟨id, ver, kind, lang, fs⟩ := r
  unfold F26 errR
  simp only [] at hs ⊢
  by_cases a1 : id < 0
  · rw [dT a1, cond_true, if_pos (.inl a1)]
  rw [dF a1, cond_false]
  by_cases a2 : 9999 < id
  · rw [dT a2, cond_true, if_pos (.inr a2)]
  rw [dF a2, cond_false, if_neg (by omega)]
  by_cases b1 : ver < 1
  · rw [dT b1, cond_true, if_pos (.inl b1)]
  rw [dF b1, cond_false]
  by_cases b2 : 3 < ver
  · rw [dT b2, cond_true, if_pos (.inr b2)]
  rw [dF b2, cond_false, if_neg (by omega)]
  by_cases c1 : kind < 1
  · rw [dT c1, cond_true, if_pos (.inl c1)]
  rw [dF c1, cond_false]
  by_cases c2 : 4 < kind
  · rw [dT c2, cond_true, if_pos (.inr c2)]
  rw [dF c2, cond_false, if_neg (by omega)]
  by_cases h : lang.length = 3
  · rw [dT (by omega), Bool.not_true, cond_false]
    refine loopK_rule (fun p : Int => ∃ i : Nat, p = i ∧ i ≤ 3 ∧ (lang.drop i).all isL = lang.all isL) (fun p => 3 - p.toNat) ⟨0, rfl, Nat.zero_le _, rfl⟩ rfl ?_
    rintro _ again ⟨i, rfl, hi, he⟩ hag
    by_cases hlt : i < 3
    · rw [dT (by omega), cond_true, gd_pos (by omega), toNat_nat]
      rw [drop_getD 0 (by omega), List.all_cons] at he
      have hno : isL (lang.getD i 0) = false → (3 : Int) = if langB lang = false then 3 else if 64 < fs.length then 4 else errFs fs := by
        intro hf
        rw [hf, Bool.false_and] at he
        rw [if_pos]
        unfold langB
        rw [← he, Bool.and_false]
      by_cases d1 : (lang.getD i 0).toNat < 97
      · rw [dT (by omega), cond_true]
        exact congrArg some (hno (by unfold isL; exact dF (by omega)))
      · rw [dF (by omega), cond_false, gd_pos (by omega)]
        by_cases d2 : 122 < (lang.getD i 0).toNat
        · rw [dT (by omega), cond_true]
          exact congrArg some (hno (by unfold isL; exact dF (by omega)))
        · rw [dF (by omega), cond_false, bnd_eq, i64_wrap (by omega)]
          have : isL (lang.getD i 0) = true := by unfold isL; exact dT (by omega)
          rw [this, Bool.true_and] at he
          exact hag _ ⟨i + 1, by omega, by omega, he⟩ (by omega)
    · have : i = 3 := by omega
      subst this
      rw [List.drop_eq_nil_of_le (by omega)] at he
      have hl : langB lang = true := by unfold langB; rw [dT h, ← he]; rfl
      rw [dF (by omega), cond_false, if_neg (by simp [hl])]
      by_cases h4 : 64 < fs.length
      · rw [dT (by omega), cond_true, if_pos h4]
      rw [dF (by omega), cond_false, if_neg h4]
      clear hag he
      refine loopK_rule (fun p : Int => ∃ i : Nat, p = i ∧ i ≤ fs.length ∧ errFs (fs.drop i) = errFs fs) (fun p => fs.length - p.toNat) ⟨0, rfl, Nat.zero_le _, rfl⟩ rfl ?_
      rintro _ again ⟨i, rfl, hi, he⟩ hag
      by_cases hlt : i < fs.length
      · rw [dT (by omega), cond_true, gd_pos (by omega), toNat_nat]
        rw [errFs_drop hlt] at he
        rw [f39 _ (hs _ (getD_mem _ hlt)), bindO_some]
        by_cases hz : errF (fs.getD i ([], [], [], 0)) = 0
        · rw [dT hz, Bool.not_true, cond_false, bnd_eq, i64_wrap (by omega)]
          rw [if_neg (not_not_intro hz)] at he
          exact hag _ ⟨i + 1, by omega, by omega, he⟩ (by omega)
        · rw [dF hz, Bool.not_false, cond_true]
          rw [if_pos hz] at he
          rw [he]
      · rw [dF (by omega), cond_false]
        rw [List.drop_eq_nil_of_le (by omega)] at he
        rw [← he]; rfl
  · rw [dF (by omega), Bool.not_false, cond_true, if_pos]
    unfold langB
    rw [dF h]; rfl

/-! ### numbers -/
theorem digit_at {d : Nat} (h : d < 10) : List.drop d (List.take (d + 1) ([48, 49, 50, 51, 52, 53, 54, 55, 56, 57] : List UInt8)) = [UInt8.ofNat (48 + d)] := by
  have : d = 0 ∨ d = 1 ∨ d = 2 ∨ d = 3 ∨ d = 4 ∨ d = 5 ∨ d = 6 ∨ d = 7 ∨ d = 8 ∨ d = 9 := by omega
  rcases this with rfl | rfl | rfl | rfl | rfl | rfl | rfl | rfl | rfl | rfl <;> rfl
/-! ### the lines of fields -/
end Go.Proofs.YtnhjoplleldbfaaDoor
