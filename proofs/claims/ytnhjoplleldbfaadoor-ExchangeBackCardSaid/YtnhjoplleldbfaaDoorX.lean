/-
  Records of moderate size, and Export. No condition beyond what each line says.
-/
import Derived.Test.YtnhjoplleldbfaaDoorV
namespace Go.Proofs.YtnhjoplleldbfaaDoor
open Go Go.Nu
set_option linter.unusedVariables false

abbrev R00 : Rec := (0, 0, 0, [], [])
/-- What 'small' says. -/
def SmallR (r : Rec) : Prop := sizeF r.2.2.2.2
theorem f8 (r : Rec) : ∃ b, F8 r = some b ∧ (b = true → SmallR r) := by
  obtain ⟨id, ver, kind, lang, fs⟩ := r
  unfold F8 SmallR
  simp only []
  by_cases h1 : (70 : Int) < (fs.length : Int)
  · rw [dT h1, cond_true]; exact ⟨_, rfl, by simp⟩
  rw [dF h1, cond_false]
  by_cases h2 : (300 : Int) < (lang.length : Int)
  · rw [dT h2, cond_true]; exact ⟨_, rfl, by simp⟩
  rw [dF h2, cond_false]
  suffices h : ∃ b, loopK (σ := Int) _ (0 : Int) = some b ∧ (b = true → sizeF fs) from h
  let r : Bool := decide (∀ f ∈ fs, f.2.2.1.length ≤ 20 ∧ f.1.length ≤ 300 ∧ f.2.1.length ≤ 300 ∧ ∀ s ∈ f.2.2.1, s.2.length ≤ 300)
  refine ⟨r, ?_, fun h f hf s hs => by have := (of_decide_eq_true h f hf).2.2.2 s hs; omega⟩
  refine loopK_rule (fun p : Int => ∃ i : Nat, p = i ∧ i ≤ fs.length ∧ ∀ f ∈ fs.take i, f.2.2.1.length ≤ 20 ∧ f.1.length ≤ 300 ∧ f.2.1.length ≤ 300 ∧ ∀ s ∈ f.2.2.1, s.2.length ≤ 300) (fun p => fs.length - p.toNat) ⟨0, rfl, Nat.zero_le _, by simp⟩ rfl ?_
  rintro _ again ⟨i, rfl, hi, hp⟩ hag
  by_cases hlt : i < fs.length
  rotate_left
  · rw [dF (by omega), cond_false]
    rw [List.take_of_length_le (by omega)] at hp
    exact congrArg some (decide_eq_true hp).symm
  rw [dT (by omega), cond_true, gd_pos ⟨by omega, by omega⟩]
  simp only [toNat_nat]
  have hm : fs.getD i ([], [], [], 0) ∈ fs := getD_mem _ hlt
  have bad : ¬ ((fs.getD i ([], [], [], 0)).2.2.1.length ≤ 20 ∧ (fs.getD i ([], [], [], 0)).1.length ≤ 300 ∧ (fs.getD i ([], [], [], 0)).2.1.length ≤ 300 ∧ ∀ s ∈ (fs.getD i ([], [], [], 0)).2.2.1, s.2.length ≤ 300) → (some false : Option Bool) = some r := fun h => congrArg some (decide_eq_false fun hh => h (hh _ hm)).symm
  have step : (fs.getD i ([], [], [], 0)).2.2.1.length ≤ 20 ∧ (fs.getD i ([], [], [], 0)).1.length ≤ 300 ∧ (fs.getD i ([], [], [], 0)).2.1.length ≤ 300 ∧ (∀ s ∈ (fs.getD i ([], [], [], 0)).2.2.1, s.2.length ≤ 300) → again ((i : Int) + 1) = some r := fun h => by
    refine hag _ ⟨i + 1, rfl, hlt, ?_⟩ (by omega)
    have e : fs.take (i + 1) = fs.take i ++ [fs.getD i ([], [], [], 0)] := by
      rw [List.take_add_one, List.getElem?_eq_getElem hlt, List.getD_eq_getElem?_getD, List.getElem?_eq_getElem hlt]; rfl
    intro f hf
    rw [e, List.mem_append] at hf
    rcases hf with hf | hf
    · exact hp f hf
    · rw [List.mem_singleton] at hf; subst hf; exact h
  generalize fs.getD i ([], [], [], 0) = f at *
  by_cases a1 : f.2.2.1.length ≤ 20
  rotate_left
  · rw [dT (by omega), cond_true]; exact bad fun h => a1 h.1
  rw [dF (by omega), cond_false]
  by_cases a2 : f.1.length ≤ 300
  rotate_left
  · rw [dT (by omega), cond_true]; exact bad fun h => a2 h.2.1
  rw [dF (by omega), cond_false]
  by_cases a3 : f.2.1.length ≤ 300
  rotate_left
  · rw [dT (by omega), cond_true]; exact bad fun h => a3 h.2.2.1
  rw [dF (by omega), cond_false]
  refine loopK_rule (fun p : Int => ∃ k : Nat, p = k ∧ k ≤ f.2.2.1.length ∧ ∀ s ∈ f.2.2.1.take k, s.2.length ≤ 300) (fun p => f.2.2.1.length - p.toNat) ⟨0, rfl, Nat.zero_le _, by simp⟩ rfl ?_
  rintro _ again2 ⟨k, rfl, hk, hq⟩ hag2
  by_cases hkl : k < f.2.2.1.length
  · rw [dT (by omega), cond_true, gd_pos ⟨by omega, by omega⟩]
    simp only [toNat_nat]
    have hm2 : f.2.2.1.getD k (0, []) ∈ f.2.2.1 := getD_mem _ hkl
    by_cases a4 : (f.2.2.1.getD k (0, [])).2.length ≤ 300
    · rw [dF (by omega), cond_false, bnd_eq, i64_wrap (by omega)]
      refine hag2 _ ⟨k + 1, rfl, hkl, ?_⟩ (by omega)
      have e : f.2.2.1.take (k + 1) = f.2.2.1.take k ++ [f.2.2.1.getD k (0, [])] := by
        rw [List.take_add_one, List.getElem?_eq_getElem hkl, List.getD_eq_getElem?_getD, List.getElem?_eq_getElem hkl]; rfl
      intro s hs
      rw [e, List.mem_append] at hs
      rcases hs with hs | hs
      · exact hq s hs
      · rw [List.mem_singleton] at hs; subst hs; exact a4
    · rw [dT (by omega), cond_true]; exact bad fun h => a4 (h.2.2.2 _ hm2)
  · rw [dF (by omega), cond_false, bnd_eq, i64_wrap (by omega)]
    rw [List.take_of_length_le (by omega)] at hq
    exact step ⟨a1, a2, a3, hq⟩
theorem take_succ' {α : Type} {l : List α} {i : Nat} (d : α) (h : i < l.length) : l.take (i + 1) = l.take i ++ [l.getD i d] := by
  rw [List.take_add_one, List.getElem?_eq_getElem h, List.getD_eq_getElem?_getD, List.getElem?_eq_getElem h]; rfl
/-- What 'few' says. -/
theorem f14 (l : List Rec) : ∃ b, F14 l = some b ∧ (b = true → l.length ≤ 8 ∧ ∀ r ∈ l, SmallR r) := by
  unfold F14
  by_cases h1 : (8 : Int) < (l.length : Int)
  · rw [dT h1, cond_true]; exact ⟨_, rfl, by simp⟩
  rw [dF h1, cond_false]
  have hb : ∀ r : Rec, ∃ b, F8 r = some b ∧ (b = true → SmallR r) := f8
  let g : Rec → Bool := fun r => Classical.choose (hb r)
  have hg : ∀ r, F8 r = some (g r) ∧ (g r = true → SmallR r) := fun r => Classical.choose_spec (hb r)
  let r : Bool := l.all fun x => g x && decide (x.2.2.2.2.length ≤ 20)
  refine ⟨r, ?_, fun h => ⟨by omega, fun x hx => (hg x).2 ?_⟩⟩
  rotate_left
  · have := List.all_eq_true.1 h x hx
    rw [Bool.and_eq_true] at this
    exact this.1
  refine loopK_rule (fun p : Int => ∃ i : Nat, p = i ∧ i ≤ l.length ∧ (l.take i).all (fun x => g x && decide (x.2.2.2.2.length ≤ 20)) = true) (fun p => l.length - p.toNat) ⟨0, rfl, Nat.zero_le _, rfl⟩ rfl ?_
  rintro _ again ⟨i, rfl, hi, hp⟩ hag
  by_cases hlt : i < l.length
  rotate_left
  · rw [dF (by omega), cond_false]
    rw [List.take_of_length_le (by omega)] at hp
    exact congrArg some hp.symm
  rw [dT (by omega), cond_true, gd_pos ⟨by omega, by omega⟩]
  simp only [toNat_nat]
  have hm : l.getD i R00 ∈ l := getD_mem R00 hlt
  have bad : (g (l.getD i R00) && decide ((l.getD i R00).2.2.2.2.length ≤ 20)) = false → (some false : Option Bool) = some r := fun h => by
    refine congrArg some (Eq.symm ?_)
    show l.all _ = false
    rw [List.all_eq_false]
    exact ⟨_, hm, by simpa using h⟩
  have ht := take_succ' R00 hlt
  generalize l.getD i R00 = x at *
  rw [(hg _).1, bindO_some]
  cases hc : g x
  · exact bad (by rw [hc]; rfl)
  rw [Bool.not_true, cond_false, gd_pos ⟨by omega, by omega⟩]
  by_cases h20 : x.2.2.2.2.length ≤ 20
  · rw [dF (by omega), cond_false, bnd_eq, i64_wrap (by omega)]
    refine hag _ ⟨i + 1, rfl, hlt, ?_⟩ (by omega)
    rw [ht, List.all_append, hp]
    simp [hc, h20]
  · rw [dT (by omega), cond_true]
    exact bad (by rw [hc]; simp; omega)

/-- What Export writes. -/
def outE : List Rec → List UInt8 × Int
  | [] => ([], 0)
  | r :: l => if (encP r).2 ≠ 0 then ([], (encP r).2) else if (outE l).2 ≠ 0 then ([], (outE l).2) else ((encP r).1 ++ (outE l).1, 0)
def expP (l : List Rec) : List UInt8 × Int := if 64 < l.length then ([], 13) else if (outE l).2 ≠ 0 then ([], (outE l).2) else if 65536 < (outE l).1.length then ([], 4) else ((outE l).1, 0)
theorem recE_len {r : Rec} (h : OkR r) (hz : sizeE r ≤ 9999) : (recE r).length ≤ 100000 := by
  have v0 := h.v0; have v1 := h.v1; have k0 := h.k0; have k1 := h.k1; have d0 := h.id0; have d1 := h.id1
  have hlang := (lang_len h.lang).1
  have hz1 : baseE r ≤ 9999 := by unfold sizeE at hz; omega
  have hz2 : (dirE 0 r.2.2.2.2).length ≤ 9999 := by unfold baseE at hz1; omega
  have hz3 : (bodyE r.2.2.2.2).length ≤ 9999 := by unfold sizeE at hz; omega
  have n1 := numW_le (sizeE r) 5
  have n2 := numW_le (baseE r) 5
  have n3 := numW_le r.1.toNat 4
  have hver : (Lib.itoa r.2.1).length ≤ 4 := by
    have := itoa_le r.2.1.toNat
    rw [Int.toNat_of_nonneg (by omega)] at this; omega
  have hk := kindE_len k0 k1
  unfold recE
  simp only [List.length_append, List.length_cons, List.length_nil]
  omega
theorem encP_len (r : Rec) : (encP r).1.length ≤ 100000 := by
  unfold encP
  split
  · simp
  · split
    · simp
    · rename_i h1 h2
      exact recE_len (okR_of (by simpa using h1)) (by omega)
theorem encP_err {r : Rec} (h : (encP r).2 ≠ 0) : (encP r).1 = [] := by
  unfold encP at h ⊢
  split
  · rfl
  · split
    · rfl
    · rename_i h1 h2
      rw [if_neg h1, if_neg h2] at h
      exact absurd rfl h
theorem outE_drop {l : List Rec} {i : Nat} (h : i < l.length) : outE (l.drop i) = if (encP (l.getD i R00)).2 ≠ 0 then ([], (encP (l.getD i R00)).2) else if (outE (l.drop (i + 1))).2 ≠ 0 then ([], (outE (l.drop (i + 1))).2) else ((encP (l.getD i R00)).1 ++ (outE (l.drop (i + 1))).1, 0) := by
  rw [drop_getD R00 h]; rfl
theorem f15 (l : List Rec) (hs : ∀ r ∈ l, SmallR r) : F15 l = some (expP l) := by
  unfold F15 expP
  by_cases h1 : 64 < l.length
  · rw [dT (by omega), cond_true, if_pos h1]
  rw [dF (by omega), cond_false, if_neg h1]
  have g0 : ∀ x : Option (List UInt8 × Int), gdN 0 ([] : List UInt8).length x = x := fun x => gdN_self
  rw [g0]
  refine loopK_rule (fun p : Int × List UInt8 => ∃ i : Nat, p.1 = i ∧ i ≤ l.length ∧ p.2.length ≤ 100000 * i ∧ ((outE l).2 = 0 → (outE (l.drop i)).2 = 0 ∧ (outE l).1 = p.2 ++ (outE (l.drop i)).1) ∧ ((outE l).2 ≠ 0 → (outE (l.drop i)).2 = (outE l).2)) (fun p => l.length - p.1.toNat) ⟨0, rfl, Nat.zero_le _, by simp, fun h => ⟨h, rfl⟩, fun h => rfl⟩ ?_ ?_
  · split
    · rfl
    · split <;> rfl
  rintro ⟨_, out⟩ again ⟨i, rfl, hi, hl, hz, hn⟩ hag
  simp only [gdN_self] at hl hz hn ⊢
  unfold big
  by_cases hlt : i < l.length
  · rw [dT (by omega), cond_true, gd_pos ⟨by omega, by omega⟩]
    simp only [toNat_nat]
    have hm : SmallR (l.getD i R00) := hs _ (getD_mem R00 hlt)
    rw [outE_drop hlt] at hz hn
    have hle := encP_len (l.getD i R00)
    have e9 := f9 (l.getD i R00) hm
    generalize l.getD i R00 = x at *
    rw [e9, bindO_some]
    by_cases hx : (encP x).2 = 0
    · rw [dT hx, Bool.not_true, cond_false, gd_pos (by omega), bnd_eq, bnd_eq, i64_wrap (by omega)]
      rw [if_neg (by simpa using hx)] at hz hn
      refine hag _ ⟨i + 1, rfl, hlt, by rw [List.length_append]; omega, fun h => ?_, fun h => ?_⟩ (by simp only [Int.toNat_natCast]; omega)
      · obtain ⟨q1, q2⟩ := hz h
        by_cases ho : (outE (l.drop (i + 1))).2 = 0
        · rw [if_neg (by simpa using ho)] at q1 q2
          exact ⟨ho, by rw [q2, List.append_assoc]⟩
        · rw [if_pos ho] at q1
          exact absurd q1 ho
      · have q := hn h
        by_cases ho : (outE (l.drop (i + 1))).2 = 0
        · rw [if_neg (by simpa using ho)] at q
          exact absurd q.symm h
        · rw [if_pos ho] at q
          exact q
    · rw [dF hx, Bool.not_false, cond_true]
      rw [if_pos hx] at hz hn
      by_cases h : (outE l).2 = 0
      · exact absurd (hz h).1 hx
      · rw [if_pos h, ← hn h]
  · rw [dF (by omega), cond_false]
    rw [List.drop_eq_nil_of_le (by omega)] at hz hn
    by_cases h : (outE l).2 = 0
    · rw [if_neg (by simpa using h)]
      have q := (hz h).2
      simp only [outE, List.append_nil] at q
      rw [← q]
      by_cases h6 : 65536 < (outE l).1.length
      · rw [dT (by omega), cond_true, if_pos h6]
      · rw [dF (by omega), cond_false, if_neg h6]
    · exact absurd (hn h).symm h
theorem f16 (l : List Rec) (hs : ∀ r ∈ l, SmallR r) : F16 l = some (expP l) := by
  unfold F16 expP
  by_cases h1 : 64 < l.length
  · rw [dT (by omega), cond_true, if_pos h1]
  rw [dF (by omega), cond_false, if_neg h1]
  refine loopK_rule (fun p : List UInt8 × Int => ∃ i : Nat, p.2 = i ∧ i ≤ l.length ∧ p.1.length ≤ 100000 * i ∧ ((outE l).2 = 0 → (outE (l.drop i)).2 = 0 ∧ (outE l).1 = p.1 ++ (outE (l.drop i)).1) ∧ ((outE l).2 ≠ 0 → (outE (l.drop i)).2 = (outE l).2)) (fun p => l.length - p.2.toNat) ⟨0, rfl, Nat.zero_le _, by simp, fun h => ⟨h, rfl⟩, fun h => rfl⟩ ?_ ?_
  · split
    · rfl
    · split <;> rfl
  rintro ⟨out, _⟩ again ⟨i, rfl, hi, hl, hz, hn⟩ hag
  simp only at hl hz hn ⊢
  unfold big
  by_cases hlt : i < l.length
  · rw [dT (by omega), cond_true, gd_pos ⟨by omega, by omega⟩]
    simp only [toNat_nat]
    have hm : SmallR (l.getD i R00) := hs _ (getD_mem R00 hlt)
    rw [outE_drop hlt] at hz hn
    have hle := encP_len (l.getD i R00)
    have e9 := f10 (l.getD i R00) hm
    generalize l.getD i R00 = x at *
    rw [e9, bindO_some]
    by_cases hx : (encP x).2 = 0
    · rw [dT hx, Bool.not_true, cond_false, gd_pos (by omega), bnd_eq, bnd_eq, i64_wrap (by omega)]
      rw [if_neg (by simpa using hx)] at hz hn
      refine hag _ ⟨i + 1, rfl, hlt, by rw [List.length_append]; omega, fun h => ?_, fun h => ?_⟩ (by simp only [Int.toNat_natCast]; omega)
      · obtain ⟨q1, q2⟩ := hz h
        by_cases ho : (outE (l.drop (i + 1))).2 = 0
        · rw [if_neg (by simpa using ho)] at q1 q2
          exact ⟨ho, by rw [q2, List.append_assoc]⟩
        · rw [if_pos ho] at q1
          exact absurd q1 ho
      · have q := hn h
        by_cases ho : (outE (l.drop (i + 1))).2 = 0
        · rw [if_neg (by simpa using ho)] at q
          exact absurd q.symm h
        · rw [if_pos ho] at q
          exact q
    · rw [dF hx, Bool.not_false, cond_true]
      rw [if_pos hx] at hz hn
      by_cases h : (outE l).2 = 0
      · exact absurd (hz h).1 hx
      · rw [if_pos h, ← hn h]
  · rw [dF (by omega), cond_false]
    rw [List.drop_eq_nil_of_le (by omega)] at hz hn
    by_cases h : (outE l).2 = 0
    · rw [if_neg (by simpa using h)]
      have q := (hz h).2
      simp only [outE, List.append_nil] at q
      rw [← q]
      by_cases h6 : 65536 < (outE l).1.length
      · rw [dT (by omega), cond_true, if_pos h6]
      · rw [dF (by omega), cond_false, if_neg h6]
    · exact absurd (hn h).symm h
end Go.Proofs.YtnhjoplleldbfaaDoor
