/-
  preserve.Migrate returns what the plain function says, in whatever world. No condition beyond that of the plain function.
-/
import Derived.Test.YtecjedagdpnemaaGreatDoorV
namespace Go.Proofs.YtecjedagdpnemaaGreatDoor
open Go Go.Nu Go.RowKit
set_option linter.unusedVariables false
theorem fitC_of {l : List File} (h : fitC l = true) : FitC l := by
  unfold fitC at h
  rw [Bool.and_eq_true, decide_eq_true_eq, List.all_eq_true] at h
  exact ⟨h.1, fun f hf => of_decide_eq_true (h.2 f hf)⟩
theorem fitM_of {o : Obj} {l : List Fmt} (h : fitM o l = true) : FitM o l := by
  unfold fitM fitF at h
  simp only [Bool.and_eq_true, decide_eq_true_eq, List.all_eq_true] at h
  exact ⟨fitO_of h.1, fun x hx => fitC_of (h.2.1 x hx), h.2.2.1, fun f hf => h.2.2.2 f hf⟩
theorem k23 : TEnt.Ok Tryz.prog GT ent23 := ok23 keepsGT k15 k21 k51 k60 k61
theorem e23 (o : Obj) (l : List Fmt) (tg d : Int) (hF : FitM o l) (hne : ¬ (objP o = 0 ∧ lateP o d = 0 ∧ ∃ f t, getF l (lastE o).1 = some f ∧ getF l tg = some t ∧ tg ∈ f.2.2.2.2.2.2)) : F23 o l tg d = some (migrateP o l tg d) := by
  unfold F23 migrateP
  rw [c15 o hF.fo, bindO_some]
  by_cases h0 : objP o = 0
  rotate_left
  · rw [dF h0, Bool.not_false, cond_true, if_pos h0]; rfl
  have hr := rightO_of h0
  have r0 := hr.e1
  have r1 := hr.e8
  have r2 := hr.h64
  rw [dT h0, Bool.not_true, cond_false, if_neg (by simp [h0]), c51 o d (by omega), bindO_some]
  by_cases h1 : lateP o d = 0
  rotate_left
  · rw [dF h1, Bool.not_false, cond_true, if_pos h1]; rfl
  have hn : ((o.2.2.1.length : Int) - 1).toNat = o.2.2.1.length - 1 := by omega
  rw [dT h1, Bool.not_true, cond_false, if_neg (by simp [h1]), c21 o (by omega), bindO_some, gd_pos (by omega), hn]
  have hE : o.2.2.1.getD (o.2.2.1.length - 1) E0 = lastE o := rfl
  rw [hE, c60 _ _ hF.fl, bindO_some, c60 _ _ hF.fl, bindO_some, jn_eq]
  dsimp only
  cases hq : getF l (lastE o).1 with
  | none => rw [getG_none hq]; rfl
  | some f =>
    rw [getG_some hq]
    cases hq2 : getF l tg with
    | none => rw [getG_none hq2]; rfl
    | some t =>
      rw [getG_some hq2]
      simp only []
      rw [Bool.not_true, cond_false, cond_false, c61 _ _ (hF.fm f (getF_mem hq)).2, bindO_some]
      by_cases h2 : tg ∈ f.2.2.2.2.2.2
      · exact absurd ⟨h0, h1, f, t, hq, hq2, h2⟩ hne
      · rw [dF h2, Bool.not_false, cond_true, if_pos h2]; rfl
theorem argsM {S : Nat → Nat → Prop} {w : World} {o : Obj} {l : List Fmt} {tg d : Int} {cargs : List Value} (ha : All2 (Rep1 Tryz.prog S w noOw) [toV shObj o, .sl none 72 (l.map (toV shFmt)), .int .i64 tg, .int .i64 d] cargs) : ∃ ev hv lv, cargs = [.agg (encO o ev hv).toArray, lv, .int .i64 tg, .int .i64 d] ∧
    RepC Tryz.prog S w noOw (.sl none 63 (o.2.2.1.map (toV shEdn))) [ev] ∧ RepC Tryz.prog S w noOw (.sl none 65 (o.2.2.2.1.map (toV shFix))) [hv] ∧ RepC Tryz.prog S w noOw (.sl none 72 (l.map (toV shFmt))) [lv] := by
  rcases cargs with _ | ⟨c1, _ | ⟨c2, _ | ⟨c3, _ | ⟨c4, _ | ⟨c5, cargs⟩⟩⟩⟩⟩
  · exact ha.elim
  · exact ha.2.elim
  · exact ha.2.2.elim
  · exact ha.2.2.2.elim
  · obtain ⟨q1, q2, q3, q4, _⟩ := ha
    obtain ⟨ev, hv, rfl, p1, p2⟩ := obj_inv q1
    have q2 : RepC Tryz.prog S w noOw (.sl none 72 (l.map (toV shFmt))) [c2] := q2
    have q3 : RepC Tryz.prog S w noOw (.int .i64 tg) [c3] := q3
    have q4 : RepC Tryz.prog S w noOw (.int .i64 d) [c4] := q4
    cases int_inv q3
    cases int_inv q4
    exact ⟨ev, hv, c2, rfl, p1, p2, q2⟩
  · exact ha.2.2.2.2.elim
theorem simMigrate (o : Obj) (l : List Fmt) (tg d : Int) (hF : FitM o l) : SimCalls Tryz.prog GT 23 [toV shObj o, .sl none 72 (l.map (toV shFmt)), .int .i64 tg, .int .i64 d] (toV (.tup (.pair shObj (.int .i64))) (migrateP o l tg d)) := by
  by_cases hok : objP o = 0 ∧ lateP o d = 0 ∧ ∃ f t, getF l (lastE o).1 = some f ∧ getF l tg = some t ∧ tg ∈ f.2.2.2.2.2.2
  rotate_left
  · exact k23.sim rfl (o, l, tg, d) _ (e23 o l tg d hF hok)
  obtain ⟨h0, h1, f, t, hf, ht, hm⟩ := hok
  have hm0 : migrateP o l tg d = (if intactB (lastE o) = false then (O0, 19)
      else match convsP f t (lastE o).2.2.2.2 with
      | none => (O0, 3)
      | some r =>
        if rightP r ≠ 0 then (O0, rightP r)
        else if 8 ≤ o.2.2.1.length ∨ 64 ≤ o.2.2.2.1.length then (O0, 13)
        else (addP (o.1, o.2.1, o.2.2.1 ++ [(tg, (o.2.2.1.length : Int) - 1, d, rootP r, r)], o.2.2.2.1, o.2.2.2.2) d 3 o.2.2.1.length (rootP r) true, 0)) := by
    unfold migrateP
    rw [if_neg (by simp [h0]), if_neg (by simp [h1]), hf, ht]
    dsimp only
    rw [if_neg (by simpa using hm)]
    rfl
  rw [hm0]
  intro w S cargs hg hS ha
  obtain ⟨ev, hv, lv, rfl, p1, p2, p3⟩ := argsM ha
  cases hi : intactB (lastE o)
  · rw [if_pos rfl]
    refine (walkMigrateA o l tg d f t h0 h1 hf ht hm hi hF w hg hS ev hv lv p1 p2 p3).mono ?_
    rintro e w' ⟨rfl, hb⟩
    exact ⟨_, rfl, hb, end0 hS hb⟩
  rw [if_neg (by simp)]
  cases hc : convsP f t (lastE o).2.2.2.2 with
  | none =>
    dsimp only
    refine (walkMigrateE o l tg d f t [] h0 h1 hf ht hm hi 3 3 (by unfold convR; rw [hc]) (.inl ⟨by omega, rfl⟩) hF w hg hS ev hv lv p1 p2 p3).mono ?_
    rintro e w' ⟨rfl, hb⟩
    exact ⟨_, rfl, hb, end0 hS hb⟩
  | some r =>
    dsimp only
    by_cases h2 : rightP r = 0
    rotate_left
    · rw [if_pos h2]
      refine (walkMigrateE o l tg d f t r h0 h1 hf ht hm hi (rightP r) (rightP r) (by unfold convR; rw [hc]) (.inl ⟨h2, rfl⟩) hF w hg hS ev hv lv p1 p2 p3).mono ?_
      rintro e w' ⟨rfl, hb⟩
      exact ⟨_, rfl, hb, end0 hS hb⟩
    rw [if_neg (by simp [h2])]
    by_cases h8 : 8 ≤ o.2.2.1.length
    · rw [if_pos (.inl h8)]
      refine (walkMigrateE o l tg d f t r h0 h1 hf ht hm hi 0 13 (by unfold convR; rw [hc]; show (r, rightP r) = (r, 0); rw [h2]) (.inr (.inl ⟨rfl, by omega, rfl⟩)) hF w hg hS ev hv lv p1 p2 p3).mono ?_
      rintro e w' ⟨rfl, hb⟩
      exact ⟨_, rfl, hb, end0 hS hb⟩
    by_cases h64 : 64 ≤ o.2.2.2.1.length
    · rw [if_pos (.inr h64)]
      refine (walkMigrateE o l tg d f t r h0 h1 hf ht hm hi 0 13 (by unfold convR; rw [hc]; show (r, rightP r) = (r, 0); rw [h2]) (.inr (.inr ⟨rfl, by omega, by omega, rfl⟩)) hF w hg hS ev hv lv p1 p2 p3).mono ?_
      rintro e w' ⟨rfl, hb⟩
      exact ⟨_, rfl, hb, end0 hS hb⟩
    rw [if_neg (by omega)]
    refine (walkMigrate o l tg d f t r h0 h1 hf ht hm hi hc h2 h8 h64 hF w hg hS ev hv lv p1 p2 p3).mono ?_
    rintro e w' ⟨ev', hv', rfl, hb, r1, r2⟩
    exact ⟨_, rfl, hb, end2 (y := addP (o.1, o.2.1, o.2.2.1 ++ [(tg, (o.2.2.1.length : Int) - 1, d, rootP r, r)], o.2.2.2.1, o.2.2.2.2) d 3 o.2.2.1.length (rootP r) true) hS hb r1 r2⟩
theorem kMigrate : TEnt.Ok Tryz.prog GT entMigrate :=
  .plain rfl (callable_of (fn := Tryz.f23) Tryz.func23 (by kernel_rfl)) fun x y h => by
    have h : fMigrate x.1 x.2.1 x.2.2.1 x.2.2.2 = some y := h
    unfold fMigrate at h
    split at h
    · rename_i hl
      cases h
      exact simMigrate _ _ _ _ (fitM_of hl)
    · cases h
end Go.Proofs.YtecjedagdpnemaaGreatDoor
