/-
  Chapter 47: editions with other files, editions more: what is made of right objects is right. No condition beyond what each line says.
-/
import Derived.Test.YtecjedagdpnemaaGreatDoorY
namespace Go.Proofs.YtecjedagdpnemaaGreatDoor
open Go Go.Nu
set_option linter.unusedVariables false
theorem edns_all : ∀ (l : List Edn) (i : Nat), ednsP i l = 0 ↔ ∀ j, j < l.length → ednP (i + j) (l.getD j E0) = 0
  | [], i => ⟨fun _ j h => absurd h (Nat.not_lt_zero _), fun _ => rfl⟩
  | x :: l, i => by
    have hs : ednsP i (x :: l) = if ednP i x = 0 then ednsP (i + 1) l else ednP i x := rfl
    rw [hs]
    constructor
    · intro h j hj
      split at h
      · rename_i h0
        cases j with
        | zero => exact h0
        | succ j =>
          have := (edns_all l (i + 1)).1 h j (by simpa using hj)
          rwa [show i + 1 + j = i + (j + 1) by omega] at this
      · rename_i h0; exact absurd h h0
    · intro h
      have h0 : ednP i x = 0 := h 0 (by simp)
      rw [if_pos h0]
      refine (edns_all l (i + 1)).2 fun j hj => ?_
      have := h (j + 1) (by simpa using hj)
      rwa [show i + (j + 1) = i + 1 + j by omega] at this
theorem edn_files {i : Nat} {x : Edn} (h : ednP i x = 0) : rightP x.2.2.2.2 = 0 ∧ isDig x.2.2.2.1 = true ∧ ∀ l, rightP l = 0 → ednP i (x.1, x.2.1, x.2.2.1, x.2.2.2.1, l) = 0 := by
  unfold ednP at h ⊢
  split at h
  · cases h
  rename_i h1
  split at h
  · cases h
  rename_i h2
  split at h
  · cases h
  rename_i h3
  refine ⟨h, by simpa using h3, fun l hl => ?_⟩
  rw [if_neg h1, if_neg h2, if_neg h3]
  exact hl
theorem getD_set {l : List Edn} {i j : Nat} {y : Edn} (hi : i < l.length) : (l.set i y).getD j E0 = if i = j then y else l.getD j E0 := by
  rw [List.getD_eq_getElem?_getD, List.getD_eq_getElem?_getD, List.getElem?_set]
  split
  · rename_i h; subst h; simp [hi]
  · rfl
theorem made_congr (e e' : List Edn) (hl : e.length = e'.length) (h : ∀ j, j < e.length → (e.getD j E0).2.2.2.1 = (e'.getD j E0).2.2.2.1 ∧ (e.getD j E0).2.2.1 = (e'.getD j E0).2.2.1) : ∀ (l : List Fix) (n : Nat), madeB e n l = madeB e' n l
  | [], n => by
    show decide (n = e.length) = decide (n = e'.length)
    rw [hl]
  | x :: l, n => by
    rw [madeB_cons, madeB_cons, made_congr e e' hl h l (n + 1), made_congr e e' hl h l n]
    by_cases hn : n < e.length
    · rw [made_at hn, made_at (hl ▸ hn)]
      dsimp only
      rw [(h n hn).1, (h n hn).2]
    · rw [List.getElem?_eq_none (by omega), List.getElem?_eq_none (by omega)]
theorem with_at (o : Obj) (i j : Nat) (l : List File) (hi : i < o.2.2.1.length) : (withP o i l).2.2.1.getD j E0 = if i = j then ((o.2.2.1.getD i E0).1, (o.2.2.1.getD i E0).2.1, (o.2.2.1.getD i E0).2.2.1, (o.2.2.1.getD i E0).2.2.2.1, l) else o.2.2.1.getD j E0 := getD_set hi
theorem withE_len (o : Obj) (i : Nat) (l : List File) : (withP o i l).2.2.1.length = o.2.2.1.length := List.length_set
theorem with_right {o : Obj} {i : Nat} {l : List File} (h : RightO o) (hi : i < o.2.2.1.length) (hl : rightP l = 0) : RightO (withP o i l) := by
  have hlen := withE_len o i l
  refine ⟨h.ids, by rw [hlen]; exact h.e1, by rw [hlen]; exact h.e8, h.h64, ?_, h.rgt, by rw [hlen]; exact h.ents, h.chd, ?_⟩
  · refine (edns_all _ 0).2 fun j hj => ?_
    rw [hlen] at hj
    have he := (edns_all _ 0).1 h.eds j hj
    rw [with_at o i j l hi]
    split
    · rename_i e; subst e; exact (edn_files he).2.2 l hl
    · exact he
  · show madeB (withP o i l).2.2.1 0 o.2.2.2.1 = true
    rw [made_congr (withP o i l).2.2.1 o.2.2.1 hlen fun j hj => by
      rw [with_at o i j l hi]
      split
      · rename_i e; subst e; exact ⟨rfl, rfl⟩
      · exact ⟨rfl, rfl⟩]
    exact h.made
theorem repair_ok {o : Obj} {e : Int} {l : List File} {d : Int} (h : (repairP o e l d).2 = 0) : objP o = 0 ∧ (0 ≤ e ∧ e < o.2.2.1.length) ∧ lateP o d = 0 ∧ rightP l = 0 ∧ rootP l = (o.2.2.1.getD e.toNat E0).2.2.2.1 ∧ ¬ 64 ≤ o.2.2.2.1.length ∧ repairP o e l d = (addP (withP o e.toNat l) d 4 e (rootP l) true, 0) := by
  unfold repairP at h ⊢
  split at h
  · cases h
  rename_i h1
  split at h
  · cases h
  rename_i h2
  split at h
  · rename_i h3; exact absurd h h3
  rename_i h3
  split at h
  · rename_i h4; exact absurd h h4
  rename_i h4
  split at h
  · cases h
  rename_i h5
  split at h
  · cases h
  rename_i h6
  rw [if_neg h1, if_neg h2, if_neg h3, if_neg h4, if_neg h5, if_neg h6]
  exact ⟨by simpa using h1, by simpa using h2, by simpa using h3, by simpa using h4, by simpa using h5, h6, rfl⟩
theorem repair_right {o : Obj} {e : Int} {l : List File} {d : Int} (h : (repairP o e l d).2 = 0) : RightO (repairP o e l d).1 := by
  obtain ⟨h0, hi, h1, h2, h3, h4, e0⟩ := repair_ok h
  rw [e0]
  have hr := with_right (rightO_of h0) (show e.toNat < o.2.2.1.length by omega) h2
  refine add_right hr h1 (.inr rfl) ?_ (root_dig _) (by show o.2.2.2.1.length + 1 ≤ 64; omega)
  rw [withE_len]
  exact hi
def SpotIn (o : Obj) (e f a : Int) : Prop := (0 ≤ e ∧ e < o.2.2.1.length) ∧ (0 ≤ f ∧ f < (o.2.2.1.getD e.toNat E0).2.2.2.2.length) ∧ (0 ≤ a ∧ a < ((o.2.2.1.getD e.toNat E0).2.2.2.2.getD f.toNat ([], [])).2.length)
def spotL (o : Obj) (e f a : Int) : List File :=
  (o.2.2.1.getD e.toNat E0).2.2.2.2.set f.toNat (((o.2.2.1.getD e.toNat E0).2.2.2.2.getD f.toNat ([], [])).1, ((o.2.2.1.getD e.toNat E0).2.2.2.2.getD f.toNat ([], [])).2.set a.toNat (((o.2.2.1.getD e.toNat E0).2.2.2.2.getD f.toNat ([], [])).2.getD a.toNat 0 ^^^ 1))
theorem damage_two (o : Obj) (e f a : Int) (h0 : objP o = 0) : (¬ SpotIn o e f a ∧ damageP o e f a = (O0, 2)) ∨ (SpotIn o e f a ∧ damageP o e f a = (withP o e.toNat (spotL o e f a), 0)) := by
  unfold damageP
  rw [if_neg (by simp [h0])]
  by_cases h1 : 0 ≤ e ∧ e < o.2.2.1.length
  rotate_left
  · rw [if_pos h1]; exact .inl ⟨fun h => h1 h.1, rfl⟩
  rw [if_neg (by simpa using h1)]
  dsimp only
  by_cases h2 : 0 ≤ f ∧ f < (o.2.2.1.getD e.toNat E0).2.2.2.2.length
  rotate_left
  · rw [if_pos h2]; exact .inl ⟨fun h => h2 h.2.1, rfl⟩
  rw [if_neg (by simpa using h2)]
  by_cases h3 : 0 ≤ a ∧ a < ((o.2.2.1.getD e.toNat E0).2.2.2.2.getD f.toNat ([], [])).2.length
  rotate_left
  · rw [if_pos h3]; exact .inl ⟨fun h => h3 h.2.2, rfl⟩
  rw [if_neg (by simpa using h3)]
  exact .inr ⟨⟨h1, h2, h3⟩, rfl⟩
end Go.Proofs.YtecjedagdpnemaaGreatDoor
