/-
  Chapter 47: entries that made editions; Right. No condition beyond what each line says.
-/
import Derived.Test.YtecjedagdpnemaaGreatDoorD
namespace Go.Proofs.YtecjedagdpnemaaGreatDoor
open Go Go.Nu
set_option linter.unusedVariables false
theorem madeB_cons (e : List Edn) (n : Nat) (x : Fix) (l : List Fix) : madeB e n (x :: l) = if x.2.1 = 1 ∨ x.2.1 = 3 then
      (match e[n]? with
      | some d => decide (x.2.2.1 = n ∧ (x.2.1 = 1 ↔ n = 0) ∧ x.2.2.2.2.2 = true ∧ x.2.2.2.1 = d.2.2.2.1 ∧ x.1 = d.2.2.1) && madeB e (n + 1) l
      | none => false)
    else madeB e n l := rfl
theorem beq_dec {a b : Prop} [Decidable a] [Decidable b] : ((decide a) == (decide b)) = decide (a ↔ b) := by
  by_cases h : a <;> by_cases h' : b <;> simp [h, h']
theorem made_at {e : List Edn} {n : Nat} (h : n < e.length) : e[n]? = some (e.getD n E0) := by
  rw [List.getD_eq_getElem?_getD, List.getElem?_eq_getElem h]; rfl
theorem c50 (o : Obj) (hn : o.2.2.2.1.length ≤ 1000000) : F50 o = some (madeB o.2.2.1 0 o.2.2.2.1) := by
  unfold F50
  generalize o.2.2.2.1 = l at *
  generalize o.2.2.1 = e at *
  refine loopK_rule (fun p : Int × Int => ∃ i n : Nat, p = ((n : Int), (i : Int)) ∧ i ≤ l.length ∧ n ≤ i ∧ n ≤ e.length ∧ madeB e n (l.drop i) = madeB e 0 l) (fun p => l.length - p.2.toNat) ⟨0, 0, rfl, by omega, by omega, by omega, rfl⟩ rfl ?_
  rintro _ again ⟨i, n, rfl, hi, hni, hne0, he⟩ hag
  simp only []
  by_cases hlt : i < l.length
  · rw [dT (by omega), cond_true, gd_pos (by omega), toNat_nat]
    rw [drop_getD X0 hlt, madeB_cons] at he
    generalize l.getD i X0 = x at *
    refine jn_rule (fun _ => x.2.1 = 1 ∨ x.2.1 = 3) (fun next hnx => ?_) (fun _ hk => ?_)
    · by_cases h1 : x.2.1 = 1
      · rw [dT h1, Bool.not_true, cond_false]; exact hnx () (.inl h1)
      rw [dF h1, Bool.not_false, cond_true]
      by_cases h3 : x.2.1 = 3
      · rw [dT h3, Bool.not_true, cond_false]; exact hnx () (.inr h3)
      rw [dF h3, Bool.not_false, cond_true, bnd_eq, i64_wrap (by omega)]
      rw [if_neg (by omega)] at he
      exact hag _ ⟨i + 1, n, rfl, by omega, by omega, hne0, he⟩ (by simp only []; omega)
    · rw [if_pos hk] at he
      by_cases hne : n < e.length
      rotate_left
      · rw [List.getElem?_eq_none (by omega)] at he
        rw [dT (by omega), cond_true, ← he]
      rw [made_at hne] at he
      simp only [] at he
      rw [dF (by omega), cond_false]
      by_cases h4 : x.2.2.1 = (n : Int)
      rotate_left
      · rw [dF h4, Bool.not_false, cond_true, ← he, dF (by simp [h4])]; rfl
      rw [dT h4, Bool.not_true, cond_false, beq_dec]
      by_cases h5 : (x.2.1 = 1 ↔ (n : Int) = 0)
      rotate_left
      · rw [dF h5, Bool.not_false, cond_true, ← he, dF (by rintro ⟨_, h, _⟩; exact h5 (h.trans (by omega)))]; rfl
      rw [dT h5, Bool.not_true, cond_false]
      cases h6 : x.2.2.2.2.2
      · rw [Bool.not_false, cond_true, ← he, dF (by rintro ⟨_, _, h, _⟩; rw [h6] at h; cases h)]; rfl
      rw [Bool.not_true, cond_false, gd_pos (by omega), toNat_nat]
      by_cases h7 : x.2.2.2.1 = (e.getD n E0).2.2.2.1
      rotate_left
      · rw [dF h7, Bool.not_false, cond_true, ← he, dF (by rintro ⟨_, _, _, h, _⟩; exact h7 h)]; rfl
      rw [dT h7, Bool.not_true, cond_false, gd_pos (by omega)]
      by_cases h8 : x.1 = (e.getD n E0).2.2.1
      rotate_left
      · rw [dF h8, Bool.not_false, cond_true, ← he, dF (by rintro ⟨_, _, _, _, h⟩; exact h8 h)]; rfl
      rw [dT h8, Bool.not_true, cond_false, bnd_eq, i64_wrap (by omega), bnd_eq, i64_wrap (by omega)]
      rw [dT ⟨h4, h5.trans (by omega), h6, h7, h8⟩, Bool.true_and] at he
      exact hag _ ⟨i + 1, n + 1, by norm_cast, by omega, by omega, by omega, he⟩ (by simp only []; omega)
  · rw [dF (by omega), cond_false]
    rw [List.drop_eq_nil_of_le (by omega)] at he
    rw [← he]
    show some (decide ((n : Int) = (e.length : Int))) = some (decide (n = e.length))
    congr 1
    exact decide_eq_decide.2 (by omega)
theorem fitL_of {l : List File} (h : fitL l = true) : Fit l := by
  unfold fitL at h
  rw [Bool.and_eq_true, decide_eq_true_eq, List.all_eq_true] at h
  exact ⟨h.1, fun f hf => of_decide_eq_true (h.2 f hf)⟩
structure FitO (o : Obj) : Prop where
  e : o.2.2.1.length ≤ 1000
  h : o.2.2.2.1.length ≤ 1000
  el : ∀ x ∈ o.2.2.1, x.2.2.2.1.length ≤ 1000 ∧ Fit x.2.2.2.2
  hl : ∀ x ∈ o.2.2.2.1, x.2.2.2.1.length ≤ 1000 ∧ x.2.2.2.2.1.length ≤ 1000
theorem fitO_of {o : Obj} (h : fitO o = true) : FitO o := by
  unfold fitO at h
  rw [Bool.and_eq_true, Bool.and_eq_true, decide_eq_true_eq, List.all_eq_true, List.all_eq_true] at h
  refine ⟨h.1.1.1, h.1.1.2, fun x hx => ?_, fun x hx => of_decide_eq_true (h.2 x hx)⟩
  have := h.1.2 x hx
  rw [Bool.and_eq_true, decide_eq_true_eq] at this
  exact ⟨this.1, fitL_of this.2⟩
theorem ents_in : ∀ (n : Nat) (l : List Fix) (d : Int), n ≤ 1000 → entsB n d l = true → (∀ x ∈ l, x.2.2.2.1.length ≤ 1000 ∧ x.2.2.2.2.1.length ≤ 1000) → ∀ x ∈ l, inX x
  | n, [], d, _, _, _, x, hx => by cases hx
  | n, y :: l, d, hn, h, hl, x, hx => by
    have h' : (decide (1 ≤ y.2.1 ∧ y.2.1 ≤ 4 ∧ 0 ≤ y.2.2.1 ∧ y.2.2.1 < n) && (dayB y.1 && (decide (d ≤ y.1) && (isDig y.2.2.2.1 && entsB n y.1 l)))) = true := h
    simp only [Bool.and_eq_true, decide_eq_true_eq] at h'
    obtain ⟨h1, h2, h3, h4, h5⟩ := h'
    rcases List.mem_cons.1 hx with rfl | hx
    · have h2 := of_decide_eq_true h2
      have := hl x List.mem_cons_self
      refine ⟨?_, ?_, ?_, this.1, this.2⟩ <;> unfold inR <;> omega
    · exact ents_in n l _ hn h5 (fun z hz => hl z (List.mem_cons_of_mem _ hz)) x hx
theorem edns_step {l : List Edn} {i : Nat} (h : i < l.length) : ednsP i (l.drop i) = if ednP i (l.getD i E0) = 0 then ednsP (i + 1) (l.drop (i + 1)) else ednP i (l.getD i E0) := by
  rw [drop_getD E0 h]; rfl
theorem c15 (o : Obj) (hf : FitO o) : F15 o = some (objP o) := by
  have he := hf.e
  have hh := hf.h
  unfold F15 objP
  simp only [c36, bindO_some, c39]
  refine jn_rule (fun b => b = (!idB o.1 || !idB o.2.1)) (fun next hn => ?_) ?_
  · by_cases h1 : idB o.1 = true
    · have e1 : (!idB o.1) = false := by rw [h1]; rfl
      rw [e1, cond_false]
      exact hn _ (by rw [e1]; rfl)
    · have e1 : (!idB o.1) = true := by
        cases h2 : idB o.1 with
        | true => exact absurd h2 h1
        | false => rfl
      rw [e1, cond_true]
      exact hn _ (by rw [e1]; rfl)
  rintro _ rfl
  cases h1 : idB o.1
  · rfl
  cases h2 : idB o.2.1
  · rfl
  rw [Bool.not_true, Bool.or_false, cond_false, if_neg (by simp)]
  by_cases h3 : o.2.2.1.length = 0
  · rw [dT (by omega), cond_true, if_pos h3]
  rw [dF (by omega), cond_false, if_neg h3]
  by_cases h4 : 8 < o.2.2.1.length
  · rw [dT (by omega), cond_true, if_pos (.inl h4)]
  rw [dF (by omega), cond_false]
  by_cases h5 : 64 < o.2.2.2.1.length
  · rw [dT (by omega), cond_true, if_pos (.inr h5)]
  rw [dF (by omega), cond_false, if_neg (by omega)]
  refine loopK_rule (fun p : Int => ∃ i : Nat, p = (i : Int) ∧ i ≤ o.2.2.1.length ∧ ednsP i (o.2.2.1.drop i) = ednsP 0 o.2.2.1) (fun p => o.2.2.1.length - p.toNat) ⟨0, rfl, by omega, rfl⟩ rfl ?_
  rintro _ again ⟨i, rfl, hi, hed⟩ hag
  by_cases hlt : i < o.2.2.1.length
  · rw [dT (by omega), cond_true, gd_pos (by omega), toNat_nat, c48 _ i (all_at hf.el E0 hlt).2, bindO_some]
    rw [edns_step hlt] at hed
    by_cases h6 : ednP i (o.2.2.1.getD i E0) = 0
    · rw [dT h6, Bool.not_true, cond_false, bnd_eq, i64_wrap (by omega)]
      rw [if_pos h6] at hed
      exact hag _ ⟨i + 1, by omega, by omega, hed⟩ (by omega)
    · rw [dF h6, Bool.not_false, cond_true]
      rw [if_neg h6] at hed
      rw [if_pos (by rw [← hed]; exact h6), ← hed]
  · rw [dF (by omega), cond_false]
    rw [List.drop_eq_nil_of_le (by omega)] at hed
    rw [if_neg (by rw [← hed]; simp [ednsP])]
    by_cases h7 : rgtP o.2.2.2.2 = 0
    rotate_left
    · rw [dF h7, Bool.not_false, cond_true, if_pos h7]
    rw [dT h7, Bool.not_true, cond_false, if_neg (by simp [h7]), c49 _ (by omega), bindO_some]
    cases h8 : entsB o.2.2.1.length 0 o.2.2.2.1
    · rfl
    have hin := ents_in _ _ _ he h8 hf.hl
    rw [Bool.not_true, cond_false, if_neg (by simp), c33 _ hin (by omega), bindO_some]
    cases h9 : chainedB [] o.2.2.2.1
    · rfl
    rw [Bool.not_true, cond_false, c50 _ (by omega), bindO_some]
    cases h10 : madeB o.2.2.1 0 o.2.2.2.1
    · rfl
    · rfl
end Go.Proofs.YtecjedagdpnemaaGreatDoor
