/-
  Chapter 47: the laws on restoring and on changed entries. No condition beyond what each line says.
-/
import Derived.Test.YtecjedagdpnemaaGreatDoorT2
namespace Go.Proofs.YtecjedagdpnemaaGreatDoor
open Go Go.Nu
set_option linter.unusedVariables false
theorem chd_set : ∀ (l : List Fix) (b : List UInt8) (i : Nat) (y : Fix), chainedB b l = true → i < l.length → y.2.2.2.2.1 = (l.getD i X0).2.2.2.2.1 → chainedB b (l.set i y) = decide (y.2.2.2.2.1 = chainP (lastB b (l.take i)) y)
  | [], b, i, y, _, hi, _ => by simp at hi
  | x :: l, b, 0, y, h, _, hy => by
    have hy : y.2.2.2.2.1 = x.2.2.2.2.1 := hy
    rw [chd_cons, Bool.and_eq_true] at h
    show (decide (y.2.2.2.2.1 = chainP b y) && chainedB y.2.2.2.2.1 l) = decide (y.2.2.2.2.1 = chainP b y)
    have h2 : chainedB y.2.2.2.2.1 l = true := by rw [hy]; exact h.2
    rw [h2, Bool.and_true]
  | x :: l, b, i + 1, y, h, hi, hy => by
    rw [chd_cons, Bool.and_eq_true] at h
    show (decide (x.2.2.2.2.1 = chainP b x) && chainedB x.2.2.2.2.1 (l.set i y)) = _
    rw [h.1, Bool.true_and, chd_set l _ i y h.2 (by simpa using hi) hy]
    rfl
theorem law9 (o : Obj) (i : Int) (f : Fix) (ho : ∀ x ∈ o.2.2.2.1, inR x.1 ∧ inR x.2.1 ∧ inR x.2.2.1) (hf : inR f.1 ∧ inR f.2.1 ∧ inR f.2.2.1) : F9 o i f = some true := by
  unfold F9
  rw [f10, bindO_some, Bool.not_true, cond_false, c16, bindO_some]
  cases hs : smallO o
  · rfl
  obtain ⟨s1, s2, s3, s4⟩ := smallO_all hs
  rw [Bool.not_true, cond_false]
  by_cases h1 : 100 < f.2.2.2.1.length
  · rw [dT (by omega), cond_true]
  rw [dF (by omega), cond_false]
  by_cases h2 : i < 0
  · rw [dT h2, cond_true]
  rw [dF h2, cond_false]
  by_cases h3 : (o.2.2.2.1.length : Int) ≤ i
  · rw [dT h3, cond_true]
  have hin : ∀ x ∈ o.2.2.2.1, inX x := fun x hx => ⟨(ho x hx).1, (ho x hx).2.1, (ho x hx).2.2, by have := s4 x hx; omega, by have := s4 x hx; omega⟩
  rw [dF h3, cond_false, c34 _ hin (by omega), bindO_some]
  cases hc : chainedB [] o.2.2.2.1
  · rfl
  have hlen : ∀ y : Fix, (o.2.2.2.1.set i.toNat y).length = o.2.2.2.1.length := fun y => List.length_set
  have hi : i.toNat < o.2.2.2.1.length := by omega
  have hy : inX (f.1, f.2.1, f.2.2.1, f.2.2.2.1, (o.2.2.2.1.getD i.toNat X0).2.2.2.2.1, f.2.2.2.2.2) := ⟨hf.1, hf.2.1, hf.2.2, by show f.2.2.2.1.length ≤ 1000; omega, (hin _ (getD_mem X0 hi)).2.2.2.2⟩
  have hset : ∀ x ∈ o.2.2.2.1.set i.toNat (f.1, f.2.1, f.2.2.1, f.2.2.2.1, (o.2.2.2.1.getD i.toNat X0).2.2.2.2.1, f.2.2.2.2.2), inX x := fun x hx => by
    rcases List.mem_or_eq_of_mem_set hx with hx | rfl
    · exact hin x hx
    · exact hy
  rw [Bool.not_true, cond_false, gd_pos (by omega), gd_pos (by unfold big; omega), gd_pos (by omega), gd_pos hi, gd_pos hi, gd_pos (by omega), gd_pos hi]
  change bindO (F33 (o.1, o.2.1, o.2.2.1, o.2.2.2.1.set i.toNat (f.1, f.2.1, f.2.2.1, f.2.2.2.1, (o.2.2.2.1.getD i.toNat X0).2.2.2.2.1, f.2.2.2.2.2), o.2.2.2.2)) _ = _
  rw [c33 _ hset (by show (o.2.2.2.1.set i.toNat _).length ≤ _; rw [hlen]; omega), bindO_some]
  dsimp only
  rw [gd_pos (by rw [List.length_set]; omega), bnd_eq]
  have ht : (o.2.2.2.1.set i.toNat (f.1, f.2.1, f.2.2.1, f.2.2.2.1, (o.2.2.2.1.getD i.toNat X0).2.2.2.2.1, f.2.2.2.2.2)).take i.toNat = o.2.2.2.1.take i.toNat := by
    rw [List.take_set_of_le (Nat.le_refl _)]
  change bindO (F35 ((o.2.2.2.1.set i.toNat (f.1, f.2.1, f.2.2.1, f.2.2.2.1, (o.2.2.2.1.getD i.toNat X0).2.2.2.2.1, f.2.2.2.2.2)).take i.toNat) (f.1, f.2.1, f.2.2.1, f.2.2.2.1, (o.2.2.2.1.getD i.toNat X0).2.2.2.2.1, f.2.2.2.2.2)) _ = _
  rw [ht, c35 _ _ (fun x hx => hin x (List.mem_of_mem_take hx)) hy (by rw [List.length_take]; omega), bindO_some]
  rw [chd_set o.2.2.2.1 [] i.toNat (f.1, f.2.1, f.2.2.1, f.2.2.2.1, (o.2.2.2.1.getD i.toNat X0).2.2.2.2.1, f.2.2.2.2.2) hc hi rfl, lastB_C]
  have key : (if o.2.2.2.1.take i.toNat = [] then ([] : List UInt8) else lastC (o.2.2.2.1.take i.toNat)) = lastC (o.2.2.2.1.take i.toNat) := by
    split
    · rename_i h; rw [h]; rfl
    · rfl
  rw [key]
  show some (decide ((o.2.2.2.1.getD i.toNat X0).2.2.2.2.1 = _) == decide (_ = (o.2.2.2.1.getD i.toNat X0).2.2.2.2.1)) = some true
  rw [beq_dec]
  congr 1
  rw [decide_eq_true_eq]
  exact eq_comm
end Go.Proofs.YtecjedagdpnemaaGreatDoor
