/-
  Chapter 44: Right, Root, Small, Same of files. No condition.
-/
import Derived.Test.YthpgkpcnajookaaGreatDoorR
namespace Go.Proofs.YthpgkpcnajookaaGreatDoor
open Go Go.Nu

abbrev File := List UInt8 × List UInt8
/-- Files of a bounded size. -/
def Fit (l : List File) : Prop := l.length ≤ 1000 ∧ ∀ f ∈ l, f.1.length ≤ 50000 ∧ f.2.length ≤ 50000
theorem fit_at {l : List File} (h : Fit l) (i : Nat) : (l.getD i ([], [])).1.length ≤ 50000 ∧ (l.getD i ([], [])).2.length ≤ 50000 := by
  by_cases hi : i < l.length
  · exact h.2 _ (getD_mem _ hi)
  · rw [List.getD_eq_getElem?_getD, List.getElem?_eq_none (by omega)]; simp

def badO (q : Option (List UInt8)) (p : List UInt8) : Bool := match q with | some r => Op.bytesLess p r || decide (p = r) | none => false
def rightL : Option (List UInt8) → List File → Int
  | _, [] => 0
  | q, f :: l => if pathB f.1 = false then 3 else if badO q f.1 = true then 7 else if 2000 < f.2.length then 4 else rightL (some f.1) l
def rightP (l : List File) : Int := if l.length = 0 then 8 else if 16 < l.length then 13 else rightL none l
def prev (l : List File) (i : Nat) : Option (List UInt8) := if i = 0 then none else some (l.getD (i - 1) ([], [])).1
theorem right_step {l : List File} {i : Nat} (h : i < l.length) : rightL (prev l i) (l.drop i) = if pathB (l.getD i ([], [])).1 = false then 3 else if badO (prev l i) (l.getD i ([], [])).1 = true then 7 else if 2000 < (l.getD i ([], [])).2.length then 4 else rightL (prev l (i + 1)) (l.drop (i + 1)) := by
  rw [drop_getD ([], []) h, rightL]
  have : prev l (i + 1) = some (l.getD i ([], [])).1 := by unfold prev; rw [if_neg (by omega), Nat.add_sub_cancel]
  rw [this]
theorem bad_pos (l : List File) {i : Nat} (h : 0 < i) : badO (prev l i) (l.getD i ([], [])).1 = (Op.bytesLess (l.getD i ([], [])).1 (l.getD (i - 1) ([], [])).1 || decide ((l.getD i ([], [])).1 = (l.getD (i - 1) ([], [])).1)) := by
  unfold prev; rw [if_neg (by omega)]; rfl

theorem g13 (l : List File) (hs : Fit l) : F13 l = some (rightP l) := by
  unfold F13 rightP
  by_cases h0 : l.length = 0
  · rw [dT (by omega), cond_true, if_pos h0]
  rw [dF (by omega), cond_false, if_neg h0]
  by_cases h16 : 16 < l.length
  · rw [dT (by omega), cond_true, if_pos h16]
  rw [dF (by omega), cond_false, if_neg h16]
  refine loopK_rule (fun x : Int => ∃ i : Nat, x = (i : Int) ∧ i ≤ l.length ∧ rightL (prev l i) (l.drop i) = rightL none l) (fun x => l.length - x.toNat) ⟨0, rfl, by omega, rfl⟩ rfl ?_
  rintro _ again ⟨i, rfl, h1, h2⟩ hag
  by_cases hc : i < l.length
  · have hf := fit_at hs i
    rw [dT (by omega), cond_true, gd_pos (by omega), getD_nat, g29 _ (by omega), bindO_some, ← h2, right_step hc]
    rw [right_step hc] at h2
    cases hp : pathB (l.getD i ([], [])).1 with
    | false => rfl
    | true =>
      rw [hp] at h2
      rw [Bool.not_true, cond_false, if_neg (by simp), jn_eq]
      dsimp only
      rw [if_neg (by simp)] at h2
      have rest : ∀ b : Bool, b = badO (prev l i) (l.getD i ([], [])).1 → (cond b
              (some (7 : Int))
              (cond (decide ((2000 : Int) < (List.length ((l.getD i ([], [])).2) : Int)))
                (some (4 : Int))
                (bnd (IntKind.wrap .i64 ((i : Int) + (1 : Int))) fun x5 =>
                again x5))) = some (if badO (prev l i) (l.getD i ([], [])).1 = true then 7 else if 2000 < (l.getD i ([], [])).2.length then 4 else rightL (prev l (i + 1)) (l.drop (i + 1))) := by
        rintro b rfl
        cases hb : badO (prev l i) (l.getD i ([], [])).1 with
        | true => rfl
        | false =>
          rw [cond_false, if_neg (by simp)]
          rw [hb, if_neg (by simp)] at h2
          by_cases h3 : 2000 < (l.getD i ([], [])).2.length
          · rw [dT (by omega), cond_true, if_pos h3]
          · rw [dF (by omega), cond_false, if_neg h3]
            rw [if_neg h3] at h2
            simp only [bnd_eq]
            rw [i64_wrap (by omega), h2]
            exact hag _ ⟨i + 1, by simp, by omega, h2⟩ (by omega)
      by_cases hi : 0 < i
      · rw [dT (by omega), cond_true]
        simp only [bnd_eq]
        rw [i64_wrap (by omega), gd_pos (by omega), show ((i : Int) - 1).toNat = i - 1 by omega]
        exact rest _ (bad_pos l hi).symm
      · rw [dF (by omega), cond_false]
        refine rest false ?_
        unfold prev
        rw [if_pos (by omega)]; rfl
  · rw [dF (by omega), cond_false, ← h2, List.drop_of_length_le (by omega)]; rfl

theorem g14 (l : List File) (hs : Fit l) : F14 l = some (rightP l) := by
  unfold F14 rightP
  by_cases h0 : l.length = 0
  · rw [dT (by omega), cond_true, if_pos h0]
  rw [dF (by omega), cond_false, if_neg h0]
  by_cases h16 : 16 < l.length
  · rw [dT (by omega), cond_true, if_pos h16]
  rw [dF (by omega), cond_false, if_neg h16]
  refine loopK_rule (fun x : Int => ∃ i : Nat, x = (i : Int) ∧ i ≤ l.length ∧ rightL (prev l i) (l.drop i) = rightL none l) (fun x => l.length - x.toNat) ⟨0, rfl, by omega, rfl⟩ rfl ?_
  rintro _ again ⟨i, rfl, h1, h2⟩ hag
  by_cases hc : i < l.length
  · have hf := fit_at hs i
    rw [dT (by omega), cond_true, gd_pos (by omega), getD_nat, g30 _ (by omega), bindO_some, ← h2, right_step hc]
    rw [right_step hc] at h2
    cases hp : pathB (l.getD i ([], [])).1 with
    | false => rfl
    | true =>
      rw [hp] at h2
      rw [Bool.not_true, cond_false, if_neg (by simp), jn_eq]
      dsimp only
      rw [if_neg (by simp)] at h2
      have rest : badO (prev l i) (l.getD i ([], [])).1 = false → (gd (0 ≤ (i : Int) ∧ (i : Int) < (List.length l : Int)) <|
            cond (decide ((2000 : Int) < (List.length ((l.getD i ([], [])).2) : Int)))
              (some (4 : Int))
              (bnd (IntKind.wrap .i64 ((i : Int) + (1 : Int))) fun x5 =>
              again x5)) = some (if badO (prev l i) (l.getD i ([], [])).1 = true then 7 else if 2000 < (l.getD i ([], [])).2.length then 4 else rightL (prev l (i + 1)) (l.drop (i + 1))) := by
        intro hb
        rw [hb, if_neg (by simp), gd_pos (by omega)]
        rw [hb, if_neg (by simp)] at h2
        by_cases h3 : 2000 < (l.getD i ([], [])).2.length
        · rw [dT (by omega), cond_true, if_pos h3]
        · rw [dF (by omega), cond_false, if_neg h3]
          rw [if_neg h3] at h2
          simp only [bnd_eq]
          rw [i64_wrap (by omega), h2]
          exact hag _ ⟨i + 1, by simp, by omega, h2⟩ (by omega)
      by_cases hi : 0 < i
      · rw [dT (by omega), cond_true, gd_pos (by omega)]
        simp only [bnd_eq]
        rw [i64_wrap (by omega), gd_pos (by omega), show ((i : Int) - 1).toNat = i - 1 by omega, ← bad_pos l hi]
        cases hb : badO (prev l i) (l.getD i ([], [])).1 with
        | true => rfl
        | false => exact (rest hb).trans (by rw [hb])
      · rw [dF (by omega), cond_false]
        refine rest ?_
        unfold prev
        rw [if_pos (by omega)]; rfl
  · rw [dF (by omega), cond_false, ← h2, List.drop_of_length_le (by omega)]; rfl

/-! ### Root -/
def leafF (f : File) : List UInt8 := dig (f.1 ++ [0] ++ f.2)
def rootP (l : List File) : List UInt8 := root (l.map leafF)
theorem leaves_ok {l : List File} (hs : Fit l) : Ok (l.map leafF) := by
  refine ⟨by rw [List.length_map]; have := hs.1; omega, fun s h => ?_⟩
  obtain ⟨f, _, rfl⟩ := List.mem_map.1 h
  unfold leafF; rw [dig_len]; omega
theorem take_map {α β : Type} (g : α → β) (l : List α) (d : α) {i : Nat} (h : i < l.length) : (l.map g).take (i + 1) = (l.map g).take i ++ [g (l.getD i d)] := by
  rw [List.take_succ_eq_append_getElem (by rw [List.length_map]; exact h), List.getElem_map, List.getD_eq_getElem?_getD, List.getElem?_eq_getElem h]; rfl
theorem gdN_rfl {α : Type} (n : Nat) (x : Option α) : gdN n n x = x := if_pos rfl

theorem g15 (l : List File) (hs : Fit l) : F15 l = some (rootP l) := by
  unfold F15
  rw [gdN_rfl]
  have hl := hs.1
  refine loopK_rule (fun p : List (List UInt8) × Int => ∃ i : Nat, p = ((l.map leafF).take i, (i : Int)) ∧ i ≤ l.length) (fun p => l.length - p.2.toNat) ⟨0, rfl, by omega⟩ rfl ?_
  rintro _ again ⟨i, rfl, h1⟩ hag
  simp only []
  by_cases hc : i < l.length
  · have hf := fit_at hs i
    rw [dT (by omega), cond_true, gd_pos (by omega), getD_nat]
    simp only [bnd_eq]
    rw [gd_pos (by unfold big; simp only [List.length_cons, List.length_nil]; omega), gd_pos (by unfold big; rw [List.length_append]; simp only [List.length_cons, List.length_nil]; omega),
      f11 _ (by rw [List.length_append, List.length_append]; simp only [List.length_cons, List.length_nil]; omega), bindO_some, gdN_rfl,
      gd_pos (by unfold big; rw [List.length_take]; simp only [List.length_cons, List.length_nil]; omega), i64_wrap (by omega), gdN_rfl]
    refine hag _ ⟨i + 1, ?_, by omega⟩ (by simp only []; omega)
    rw [take_map leafF l ([], []) hc]; rfl
  · rw [dF (by omega), cond_false, List.take_of_length_le (by rw [List.length_map]; omega), f18 _ (leaves_ok hs), bindO_some]; rfl

theorem g16 (l : List File) (hs : Fit l) : F16 l = some (rootP l) := by
  unfold F16
  rw [gdN_rfl]
  have hl := hs.1
  refine loopK_rule (fun p : List (List UInt8) × Int => ∃ i : Nat, p = ((l.map leafF).take i, (i : Int)) ∧ i ≤ l.length) (fun p => l.length - p.2.toNat) ⟨0, rfl, by omega⟩ rfl ?_
  rintro _ again ⟨i, rfl, h1⟩ hag
  simp only []
  by_cases hc : i < l.length
  · have hf := fit_at hs i
    rw [dT (by omega), cond_true, gd_pos (by omega), getD_nat]
    simp only [bnd_eq]
    rw [gd_pos (by unfold big; simp only [List.length_cons, List.length_nil]; omega), gd_pos (by omega), gd_pos (by unfold big; rw [List.length_append]; simp only [List.length_cons, List.length_nil]; omega),
      f13 _ (by rw [List.length_append, List.length_append]; simp only [List.length_cons, List.length_nil]; omega), bindO_some, gdN_rfl,
      gd_pos (by unfold big; rw [List.length_take]; simp only [List.length_cons, List.length_nil]; omega), i64_wrap (by omega), gdN_rfl]
    refine hag _ ⟨i + 1, ?_, by omega⟩ (by simp only []; omega)
    rw [take_map leafF l ([], []) hc]; rfl
  · rw [dF (by omega), cond_false, List.take_of_length_le (by rw [List.length_map]; omega), f19 _ (leaves_ok hs), bindO_some]; rfl

/-! ### Small, Same -/
def smallB (l : List File) : Bool := decide (l.length ≤ 20) && l.all fun f => decide (f.1.length ≤ 100) && decide (f.2.length ≤ 3000)
theorem fit_small {l : List File} (h : smallB l = true) : Fit l := by
  unfold smallB at h
  rw [Bool.and_eq_true, decide_eq_true_eq, List.all_eq_true] at h
  refine ⟨by omega, fun f hf => ?_⟩
  have := h.2 f hf
  rw [Bool.and_eq_true, decide_eq_true_eq, decide_eq_true_eq] at this
  omega
theorem g11 (l : List File) : F11 l = some (smallB l) := by
  unfold F11 smallB
  by_cases h20 : 20 < l.length
  · rw [dT (by omega), cond_true, dF (by omega), Bool.false_and]
  rw [dF (by omega), cond_false, dT (by omega), Bool.true_and]
  refine loopK_rule (fun x : Int => ∃ i : Nat, x = (i : Int) ∧ i ≤ l.length ∧ ((l.drop i).all fun f => decide (f.1.length ≤ 100) && decide (f.2.length ≤ 3000)) = l.all fun f => decide (f.1.length ≤ 100) && decide (f.2.length ≤ 3000)) (fun x => l.length - x.toNat) ⟨0, rfl, by omega, rfl⟩ rfl ?_
  rintro _ again ⟨i, rfl, h1, h2⟩ hag
  by_cases hc : i < l.length
  · rw [dT (by omega), cond_true, gd_pos (by omega), getD_nat]
    rw [drop_getD ([], []) hc, List.all_cons] at h2
    by_cases c1 : 100 < (l.getD i ([], [])).1.length
    · rw [dT (by omega), cond_true, ← h2, dF (by omega)]; rfl
    rw [dF (by omega), cond_false, gd_pos (by omega)]
    by_cases c2 : 3000 < (l.getD i ([], [])).2.length
    · rw [dT (by omega), cond_true, ← h2, dF (p := _ ≤ 3000) (by omega), Bool.and_false]; rfl
    rw [dF (by omega), cond_false]
    rw [dT (p := _ ≤ 100) (by omega), dT (p := _ ≤ 3000) (by omega), Bool.true_and, Bool.true_and] at h2
    simp only [bnd_eq]
    rw [i64_wrap (by omega)]
    exact hag _ ⟨i + 1, by simp, by omega, h2⟩ (by omega)
  · rw [dF (by omega), cond_false, ← h2, List.drop_of_length_le (by omega)]; rfl
theorem g26 (a : List File) (h : a.length ≤ 1000000) : F26 a a = some true := by
  unfold F26
  rw [dT rfl, Bool.not_true, cond_false]
  refine loopK_rule (fun x : Int => ∃ i : Nat, x = (i : Int) ∧ i ≤ a.length) (fun x => a.length - x.toNat) ⟨0, rfl, by omega⟩ rfl ?_
  rintro _ again ⟨i, rfl, h1⟩ hag
  by_cases hc : i < a.length
  · rw [dT (by omega), cond_true, gd_pos (by omega), gd_pos (by omega), dT rfl, dT rfl]
    simp only [Bool.and_self, Bool.not_true, cond_false, bnd_eq]
    rw [i64_wrap (by omega)]
    exact hag _ ⟨i + 1, by simp, by omega⟩ (by omega)
  · rw [dF (by omega), cond_false]

end Go.Proofs.YthpgkpcnajookaaGreatDoor
