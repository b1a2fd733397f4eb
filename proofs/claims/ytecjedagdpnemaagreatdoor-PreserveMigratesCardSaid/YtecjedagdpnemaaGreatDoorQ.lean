/-
  Chapter 47: what the reference makes of objects: Check, Migrate, Repair. No condition.
-/
import Derived.Test.YtecjedagdpnemaaGreatDoorP
namespace Go.Proofs.YtecjedagdpnemaaGreatDoor
open Go Go.Nu
set_option linter.unusedVariables false
structure RightO (o : Obj) : Prop where
  ids : idB o.1 = true ∧ idB o.2.1 = true
  e1 : 1 ≤ o.2.2.1.length
  e8 : o.2.2.1.length ≤ 8
  h64 : o.2.2.2.1.length ≤ 64
  eds : ednsP 0 o.2.2.1 = 0
  rgt : rgtP o.2.2.2.2 = 0
  ents : entsB o.2.2.1.length 0 o.2.2.2.1 = true
  chd : chainedB [] o.2.2.2.1 = true
  made : madeB o.2.2.1 0 o.2.2.2.1 = true
theorem rightO_of {o : Obj} (h : objP o = 0) : RightO o := by
  unfold objP at h
  split at h
  · cases h
  rename_i a1
  split at h
  · cases h
  rename_i a2
  split at h
  · cases h
  rename_i a3
  split at h
  · rename_i a4; exact absurd h a4
  rename_i a4
  split at h
  · rename_i a5; exact absurd h a5
  rename_i a5
  split at h
  · cases h
  rename_i a6
  split at h
  · cases h
  rename_i a7
  rw [not_or] at a1 a7
  exact ⟨⟨by simpa using a1.1, by simpa using a1.2⟩, by omega, by omega, by omega, by simpa using a4, by simpa using a5, by simpa using a6, by simpa using a7.1, by simpa using a7.2⟩
theorem RightO.to {o : Obj} (h : RightO o) : objP o = 0 := by
  have h1 := h.e1
  have h2 := h.e8
  have h3 := h.h64
  unfold objP
  rw [if_neg (by rw [h.ids.1, h.ids.2]; simp), if_neg (by omega), if_neg (by omega), if_neg (by rw [h.eds]; simp), if_neg (by rw [h.rgt]; simp), if_neg (by rw [h.ents]; simp), if_neg (by rw [h.chd, h.made]; simp)]
theorem RightO.h1 {o : Obj} (h : RightO o) : 1 ≤ o.2.2.2.1.length := by
  rcases Nat.eq_zero_or_pos o.2.2.2.1.length with h0 | h0
  · have h1 := h.made
    have h2 := h.e1
    rw [List.length_eq_zero_iff.1 h0] at h1
    have h1 : decide (0 = o.2.2.1.length) = true := h1
    rw [decide_eq_true_eq] at h1
    omega
  · exact h0
theorem RightO.inx {o : Obj} (h : RightO o) (hf : FitO o) : ∀ x ∈ o.2.2.2.1, inX x := ents_in _ _ _ (by have := h.e8; omega) h.ents hf.hl
theorem fix_in {l : List Fix} {d k e : Int} {r : List UInt8} {g : Bool} (h : inR d ∧ inR k ∧ inR e ∧ r.length ≤ 1000) : inX (fixP l d k e r g) :=
  ⟨h.1, h.2.1, h.2.2.1, h.2.2.2, by show (dig _).length ≤ 1000; rw [dig_len]; omega⟩
theorem add_len (o : Obj) (d k e : Int) (r : List UInt8) (g : Bool) : (addP o d k e r g).2.2.2.1.length = o.2.2.2.1.length + 1 := by
  show (o.2.2.2.1 ++ [_]).length = _
  rw [List.length_append, List.length_singleton]
theorem late_day {o : Obj} {d : Int} (h : lateP o d = 0) : dayB d = true := by
  unfold lateP at h
  cases hd : dayB d
  · rw [if_pos hd] at h; cases h
  · rfl
theorem checkG_cons (d : Int) (i : Nat) (x : Edn) (l : List Edn) (o : Obj) : checkG d i (x :: l) o = checkG d (i + 1) l (addP o d 2 i (rootP x.2.2.2.2) (intactB x)) := rfl
theorem badG_cons (i : Nat) (x : Edn) (l : List Edn) : badG i (x :: l) = (if intactB x = true then [] else [(i : Int)]) ++ badG (i + 1) l := rfl
structure FitM (o : Obj) (l : List Fmt) : Prop where
  fo : FitO o
  fc : ∀ x ∈ o.2.2.1, FitC x.2.2.2.2
  fl : l.length ≤ 1000000
  fm : ∀ f ∈ l, f.2.2.2.2.2.1.length ≤ 10000 ∧ f.2.2.2.2.2.2.length ≤ 1000000
theorem getF_mem {l : List Fmt} {n : Int} {f : Fmt} (h : getF l n = some f) : f ∈ l := List.mem_of_find?_eq_some h
theorem getG_some {l : List Fmt} {n : Int} {f : Fmt} (h : getF l n = some f) : getG l n = (f, true) := by unfold getG; rw [h]
theorem getG_none {l : List Fmt} {n : Int} (h : getF l n = none) : getG l n = (M0, false) := by unfold getG; rw [h]
set_option maxHeartbeats 1000000 in
theorem c24 (o : Obj) (l : List Fmt) (tg d : Int) (hf : FitM o l) : F24 o l tg d = some (migrateP o l tg d) := by
  unfold F24 migrateP
  rw [c29 o hf.fo, bindO_some]
  by_cases h0 : objP o = 0
  rotate_left
  · rw [dF h0, Bool.not_false, cond_true, if_pos h0]; rfl
  have hr := rightO_of h0
  have r0 := hr.e1
  have r1 := hr.e8
  have r2 := hr.h64
  have r3 := hr.h1
  rw [dT h0, Bool.not_true, cond_false, if_neg (by simp [h0]), c53 o d (by omega) (by omega), bindO_some]
  by_cases h1 : lateP o d = 0
  rotate_left
  · rw [dF h1, Bool.not_false, cond_true, if_pos h1]; rfl
  have hn : ((o.2.2.1.length : Int) - 1).toNat = o.2.2.1.length - 1 := by omega
  rw [dT h1, Bool.not_true, cond_false, if_neg (by simp [h1]), c64 o (by omega), bindO_some, gd_pos (by omega), hn]
  have hE : o.2.2.1.getD (o.2.2.1.length - 1) E0 = lastE o := rfl
  rw [hE, c59 _ _ hf.fl, bindO_some, c59 _ _ hf.fl, bindO_some]
  have hlt : o.2.2.1.length - 1 < o.2.2.1.length := by omega
  have hx := hf.fc _ (getD_mem E0 hlt)
  have hx2 := (hf.fo.el _ (getD_mem E0 hlt)).2
  rw [hE] at hx hx2
  generalize lastE o = x at *
  cases hq : getF l x.1 with
  | none => rw [getG_none hq]; rfl
  | some f =>
    rw [getG_some hq]
    cases hq2 : getF l tg with
    | none => rw [getG_none hq2]; rfl
    | some t =>
      rw [getG_some hq2]
      simp only []
      have ht := (hf.fm t (getF_mem hq2)).1
      rw [Bool.not_true, cond_false, cond_false, c65 _ _ (hf.fm f (getF_mem hq)).2, bindO_some]
      by_cases h2 : tg ∈ f.2.2.2.2.2.2
      rotate_left
      · rw [dF h2, Bool.not_false, cond_true, if_pos h2]; rfl
      rw [dT h2, Bool.not_true, cond_false, if_neg (by simpa using h2), c54 _ hx2, bindO_some]
      cases h3 : intactB x
      · rfl
      rw [Bool.not_true, cond_false, if_neg (by simp), gdN_self]
      have hl1 := hx.1
      generalize hG : x.2.2.2.2 = fl at *
      refine loopK_rule (fun p : List File × Int × Obj => ∃ i : Nat, p.2.1 = (i : Int) ∧ i ≤ fl.length ∧ p.1.length = i ∧ Fit p.1 ∧ (convsP f t (fl.drop i)).map (p.1 ++ ·) = convsP f t fl) (fun p => fl.length - p.2.1.toNat) ⟨0, rfl, by omega, rfl, ⟨by simp, fun f hf => by cases hf⟩, by rw [List.drop_zero]; cases convsP f t fl <;> rfl⟩ (by repeat' (first | rfl | split)) ?_
      rintro ⟨out, j, o2⟩ again ⟨i, hi, hle, hn2, hfit, he⟩ hag
      simp only [] at hi hn2 hfit he ⊢
      subst hi
      by_cases hlt2 : i < fl.length
      · rw [dT (by omega), cond_true, gd_pos (by omega), toNat_nat]
        have hy := hx.2 _ (getD_mem ([], []) hlt2)
        rw [drop_getD ([], []) hlt2, convs_cons] at he
        generalize fl.getD i ([], []) = y at *
        rw [c66 _ _ _ (by omega) (by omega), bindO_some]
        rcases conv_two f t y.2 with h4 | h4
        · rw [dT h4, Bool.not_true, cond_false, gd_pos (by omega), gdN_self, gd_pos (by rw [hn2, List.length_singleton]; unfold big; omega), bnd_eq, bnd_eq, i64_wrap (by omega), gdN_self]
          rw [if_pos h4] at he
          refine hag _ ⟨i + 1, rfl, by omega, by rw [List.length_append, hn2]; rfl, fit_app hfit (by omega) ⟨hy.1, conv_len ht hy.2⟩, ?_⟩ (by simp only []; omega)
          rw [← he, Option.map_map]
          congr 1
          funext r
          simp
        · rw [h4]
          rw [h4, if_neg (by decide)] at he
          rw [← he]; rfl
      · rw [List.drop_eq_nil_of_le (by omega)] at he
        have he : some (out ++ []) = convsP f t fl := he
        rw [List.append_nil] at he
        rw [← he, dF (by omega), cond_false, g14 _ hfit, bindO_some]
        simp only []
        by_cases h5 : rightP out = 0
        rotate_left
        · rw [dF h5, Bool.not_false, cond_true, if_pos h5]; rfl
        rw [dT h5, Bool.not_true, cond_false, if_neg (by simp [h5]), bnd_eq, i64_wrap (by omega)]
        by_cases h6 : 8 ≤ o.2.2.1.length
        · rw [dT (by omega), cond_true, if_pos (.inl h6)]; rfl
        rw [dF (by omega), cond_false]
        by_cases h7 : 64 ≤ o.2.2.2.1.length
        · rw [dT (by omega), cond_true, if_pos (.inr h7)]; rfl
        rw [dF (by omega), cond_false, if_neg (by omega), g16 _ hfit, bindO_some, gdN_self, gd_pos (by rw [List.length_nil]; unfold big; omega), bnd_eq, gdN_self, gd_pos (by rw [List.nil_append, List.length_singleton]; unfold big; omega), bnd_eq, bnd_eq]
        rw [List.nil_append, show ((o.2.2.1.length : Int) - 1 + 1) = (o.2.2.1.length : Int) by omega]
        rw [c47 (o.1, o.2.1, o.2.2.1 ++ [(tg, (o.2.2.1.length : Int) - 1, d, rootP out, out)], o.2.2.2.1, o.2.2.2.2) d 3 _ _ true (hr.inx hf.fo) (by show o.2.2.2.1.length ≤ _; omega) ⟨day_in (late_day h1), by unfold inR; omega, by unfold inR; omega, by rw [root_len]; omega⟩]
        rfl
end Go.Proofs.YtecjedagdpnemaaGreatDoor
