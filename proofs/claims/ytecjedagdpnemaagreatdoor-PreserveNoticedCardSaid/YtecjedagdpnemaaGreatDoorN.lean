/-
  Chapter 47: days, sound editions, formats. No condition beyond what each line says.
-/
import Derived.Test.YtecjedagdpnemaaGreatDoorM
namespace Go.Proofs.YtecjedagdpnemaaGreatDoor
open Go Go.Nu
set_option linter.unusedVariables false
theorem last_get {l : List Fix} (h : 0 < l.length) : l.getLast? = some (l.getD (l.length - 1) X0) := by
  rw [List.getLast?_eq_getElem?, List.getD_eq_getElem?_getD, List.getElem?_eq_getElem (by omega)]; rfl
theorem c51 (o : Obj) (d : Int) (hn : o.2.2.2.1.length ≤ 1000000) : F51 o d = some (lateP o d) := by
  unfold F51 lateP
  rw [c37, bindO_some]
  cases h1 : dayB d
  · rfl
  rw [Bool.not_true, cond_false, if_neg (by simp)]
  by_cases h0 : 0 < o.2.2.2.1.length
  · rw [dT (by omega), cond_true, bnd_eq, i64_wrap (by omega), gd_pos (by omega), show ((o.2.2.2.1.length : Int) - 1).toNat = o.2.2.2.1.length - 1 by omega, last_get h0]
    simp only []
    by_cases h2 : d < (o.2.2.2.1.getD (o.2.2.2.1.length - 1) X0).1
    · rw [dT h2, cond_true, if_pos h2]
    · rw [dF h2, cond_false, if_neg h2]
  · rw [dF (by omega), cond_false, List.length_eq_zero_iff.1 (show o.2.2.2.1.length = 0 by omega)]; rfl
theorem c57 (x : Edn) (h : Fit x.2.2.2.2) : F57 x = some (intactB x) := by
  unfold F57
  rw [g15 _ h, bindO_some]; rfl
theorem c21 (o : Obj) (hn : o.2.2.1.length ≤ 1000000) : F21 o = some ((o.2.2.1.length : Int) - 1) := by
  unfold F21
  rw [bnd_eq, i64_wrap (by omega)]
def idxP {α : Type} (P : α → Bool) : List α → Int → Int
  | [], _ => -1
  | x :: l, i => if P x = true then i else idxP P l (i + 1)
theorem idxP_cons {α : Type} (P : α → Bool) (x : α) (l : List α) (i : Int) : idxP P (x :: l) i = if P x = true then i else idxP P l (i + 1) := rfl
theorem idxP_neg {α : Type} (P : α → Bool) : ∀ (l : List α) (i : Int), 0 ≤ i → decide (0 ≤ idxP P l i) = l.any P
  | [], _, _ => rfl
  | x :: l, i, h => by
    unfold idxP
    rw [List.any_cons]
    cases hp : P x
    · rw [if_neg (by simp), idxP_neg P l (i + 1) (by omega), Bool.false_or]
    · rw [if_pos rfl, dT h, Bool.true_or]
theorem idxP_find {α : Type} (P : α → Bool) (d : α) : ∀ (l : List α) (i : Nat), (idxP P l i = -1 ∧ l.find? P = none) ∨ ∃ k, k < l.length ∧ idxP P l i = ((i + k : Nat) : Int) ∧ l.find? P = some (l.getD k d)
  | [], _ => .inl ⟨rfl, rfl⟩
  | x :: l, i => by
    unfold idxP
    cases hp : P x
    · rw [if_neg (by simp), List.find?_cons, hp]
      rcases idxP_find P d l (i + 1) with ⟨h1, h2⟩ | ⟨k, h1, h2, h3⟩
      · exact .inl ⟨by rw [← h1]; norm_cast, h2⟩
      · exact .inr ⟨k + 1, by simpa using h1, by rw [show ((i : Int) + 1) = ((i + 1 : Nat) : Int) by norm_cast, h2]; congr 1; omega, h3⟩
    · rw [if_pos rfl, List.find?_cons, hp]
      exact .inr ⟨0, by simp, by simp, rfl⟩
theorem c83 (l : List Edn) (h : ∀ x ∈ l, Fit x.2.2.2.2) (hn : l.length ≤ 1000000) : F83 l () = some (idxP (fun x => !intactB x) l 0) := by
  unfold F83
  refine loopK_rule (fun p : Int => ∃ i : Nat, p = (i : Int) ∧ i ≤ l.length ∧ idxP (fun x => !intactB x) (l.drop i) i = idxP (fun x => !intactB x) l 0) (fun p => l.length - p.toNat) ⟨0, rfl, by omega, rfl⟩ rfl ?_
  rintro _ again ⟨i, rfl, hi, he⟩ hag
  by_cases hlt : i < l.length
  · rw [drop_getD E0 hlt] at he
    rw [idxP_cons] at he
    rw [dT (by omega), cond_true, gd_pos (by omega), toNat_nat]
    unfold F56
    rw [c57 _ (all_at h E0 hlt), bindO_some, bindO_some]
    cases hb : intactB (l.getD i E0)
    · rw [hb] at he
      rw [Bool.not_false, cond_true, ← he]; rfl
    · rw [hb] at he
      rw [Bool.not_true, cond_false, bnd_eq, i64_wrap (by omega)]
      exact hag _ ⟨i + 1, by omega, by omega, by rw [← he]; norm_cast⟩ (by omega)
  · rw [dF (by omega), cond_false]
    rw [List.drop_eq_nil_of_le (by omega)] at he
    rw [← he]; rfl
def soundB (l : List Edn) : Bool := l.all intactB
theorem c20 (o : Obj) (h : FitO o) : F20 o = some (soundB o.2.2.1) := by
  have he := h.e
  unfold F20 F55
  rw [c83 _ (fun x hx => (h.el x hx).2) (by omega), bindO_some, bindO_some, idxP_neg _ _ _ (by omega)]
  unfold soundB
  congr 1
  rw [List.not_any_eq_all_not]
  congr 1
  funext x
  simp
theorem c85 (l : List Int) (n : Int) (hn : l.length ≤ 1000000) : F85 l n = some (idxP (fun x => decide (n = x)) l 0) := by
  unfold F85
  refine loopK_rule (fun p : Int => ∃ i : Nat, p = (i : Int) ∧ i ≤ l.length ∧ idxP (fun x => decide (n = x)) (l.drop i) i = idxP (fun x => decide (n = x)) l 0) (fun p => l.length - p.toNat) ⟨0, rfl, by omega, rfl⟩ rfl ?_
  rintro _ again ⟨i, rfl, hi, he⟩ hag
  by_cases hlt : i < l.length
  · rw [drop_getD 0 hlt] at he
    rw [idxP_cons] at he
    rw [dT (by omega), cond_true, gd_pos (by omega), toNat_nat]
    by_cases hb : n = l.getD i 0
    · rw [if_pos (dT hb)] at he
      rw [dT hb, cond_true, he]
    · rw [if_neg (by rw [dF hb]; simp)] at he
      rw [dF hb, cond_false, bnd_eq, i64_wrap (by omega)]
      exact hag _ ⟨i + 1, by omega, by omega, by rw [← he]; norm_cast⟩ (by omega)
  · rw [dF (by omega), cond_false]
    rw [List.drop_eq_nil_of_le (by omega)] at he
    rw [← he]; rfl
theorem c61 (l : List Int) (n : Int) (hn : l.length ≤ 1000000) : F61 l n = some (decide (n ∈ l)) := by
  unfold F61
  rw [c85 l n hn, bindO_some, idxP_neg _ _ _ (by omega)]
  congr 1
  rw [Bool.eq_iff_iff, List.any_eq_true, decide_eq_true_eq]
  constructor
  · rintro ⟨x, hx, e⟩; rw [of_decide_eq_true e]; exact hx
  · exact fun h => ⟨n, h, dT rfl⟩
abbrev M0 : Fmt := (0, 0, 0, 0, [], [], [])
theorem c100 (l : List Fmt) (n : Int) (hn : l.length ≤ 1000000) : F100 l (n, ()) = some (idxP (fun f : Fmt => decide (f.1 = n)) l 0) := by
  unfold F100
  refine loopK_rule (fun p : Int => ∃ i : Nat, p = (i : Int) ∧ i ≤ l.length ∧ idxP (fun f : Fmt => decide (f.1 = n)) (l.drop i) i = idxP (fun f : Fmt => decide (f.1 = n)) l 0) (fun p => l.length - p.toNat) ⟨0, rfl, by omega, rfl⟩ rfl ?_
  rintro _ again ⟨i, rfl, hi, he⟩ hag
  by_cases hlt : i < l.length
  · rw [drop_getD M0 hlt] at he
    rw [idxP_cons] at he
    rw [dT (by omega), cond_true, gd_pos (by omega), toNat_nat]
    unfold F101
    rw [bindO_some]
    by_cases hb : (l.getD i M0).1 = n
    · rw [if_pos (dT hb)] at he
      rw [dT hb, cond_true, he]
    · rw [if_neg (by rw [dF hb]; simp)] at he
      rw [dF hb, cond_false, bnd_eq, i64_wrap (by omega)]
      exact hag _ ⟨i + 1, by omega, by omega, by rw [← he]; norm_cast⟩ (by omega)
  · rw [dF (by omega), cond_false]
    rw [List.drop_eq_nil_of_le (by omega)] at he
    rw [← he]; rfl
def getG (l : List Fmt) (n : Int) : Fmt × Bool := match getF l n with | some f => (f, true) | none => (M0, false)
theorem c60 (l : List Fmt) (n : Int) (hn : l.length ≤ 1000000) : F60 l n = some (getG l n) := by
  unfold F60 F84 getG getF
  rw [c100 l n hn, bindO_some, bindO_some]
  rcases idxP_find (fun f : Fmt => decide (f.1 = n)) M0 l 0 with ⟨h1, h2⟩ | ⟨k, h1, h2, h3⟩
  · rw [show ((0 : Nat) : Int) = 0 from rfl] at h1
    rw [h1, h2, dF (by omega), cond_false]
  · rw [show ((0 : Nat) : Int) = 0 from rfl] at h2
    rw [h2, h3, dT (by omega), cond_true, gd_pos (by omega), toNat_nat, Nat.zero_add]
end Go.Proofs.YtecjedagdpnemaaGreatDoor
