/-
  The functions on objects return what the plain functions say, in whatever world. No condition beyond that of the plain functions.
-/
import Derived.Test.YtecjedagdpnemaaGreatDoorH17
import Derived.Test.YtecjedagdpnemaaGreatDoorS
import Derived.Test.YtecjedagdpnemaaGreatDoorR
namespace Go.Proofs.YtecjedagdpnemaaGreatDoor
open Go Go.Nu Go.RowKit
set_option linter.unusedVariables false
theorem nil_rep {S : Nat → Nat → Prop} {w : World} {e : TypeId} : RepC Tryz.prog S w noOw (.sl none e []) [.slice none 0 0] := .nilsl _ (TagOk.none_ _ _ _ _)
theorem o0_rep {S : Nat → Nat → Prop} {w : World} : Rep1 Tryz.prog S w noOw (toV shObj O0) (.agg #[.int .i64 0, .int .i64 0, .slice none 0 0, .slice none 0 0, .int .i64 0, .int .i64 0, .int .i64 0, .int .i64 0]) :=
  obj_rep (o := O0) nil_rep nil_rep
theorem end2 {S : Nat → Nat → Prop} {w w' : World} {y : Obj} {n : Int} {ev hv : Value} (hS : ∀ b o, S b o → b < w.heap.size) (hb : Below w.heap.size w w') (h1 : RepC Tryz.prog (grow S w w') w' noOw (.sl none 63 (y.2.2.1.map (toV shEdn))) [ev]) (h2 : RepC Tryz.prog (grow S w w') w' noOw (.sl none 65 (y.2.2.2.1.map (toV shFix))) [hv]) :
    ∃ S' : Nat → Nat → Prop, (∀ b o, S' b o → b < w'.heap.size) ∧ (∀ b o, b < w.heap.size → (S' b o ↔ S b o)) ∧ RepS Tryz.prog S' w' noOw (fun _ => none) (fun _ => none) (toV (.tup (.pair shObj (.int .i64))) (y, n)) (.tuple #[.agg (encO y ev hv).toArray, .int .i64 n]) :=
  sim_end hS hb ⟨[_, _], rfl, obj_rep h1 h2, RepC.int noOw .i64 n, trivial⟩
theorem end0 {S : Nat → Nat → Prop} {w w' : World} {n : Int} (hS : ∀ b o, S b o → b < w.heap.size) (hb : Below w.heap.size w w') :
    ∃ S' : Nat → Nat → Prop, (∀ b o, S' b o → b < w'.heap.size) ∧ (∀ b o, b < w.heap.size → (S' b o ↔ S b o)) ∧ RepS Tryz.prog S' w' noOw (fun _ => none) (fun _ => none) (toV (.tup (.pair shObj (.int .i64))) (O0, n)) (.tuple #[.agg #[.int .i64 0, .int .i64 0, .slice none 0 0, .slice none 0 0, .int .i64 0, .int .i64 0, .int .i64 0, .int .i64 0], .int .i64 n]) :=
  sim_end hS hb ⟨[_, _], rfl, o0_rep, RepC.int noOw .i64 n, trivial⟩
theorem k12 : TEnt.Ok Tryz.prog GT ent12 := ok12 keepsGT k36 k37 k38 k39 k40
theorem e12 (n r f d : Int) (l : List File) (t : Rts) (hl : Fit l) (hne : ¬ (idB n = true ∧ idB r = true ∧ idB f = true ∧ dayB d = true ∧ rightP l = 0 ∧ rgtP t = 0)) : F12 n r f d l t = some (ingestP n r f d l t) := by
  unfold F12 ingestP
  rw [c36, bindO_some]
  cases h1 : idB n
  · rw [Bool.not_false, cond_true, if_pos (.inl rfl)]; rfl
  rw [Bool.not_true, cond_false, c36, bindO_some]
  cases h2 : idB r
  · rw [Bool.not_false, cond_true, if_pos (.inr (.inl rfl))]; rfl
  rw [Bool.not_true, cond_false, c36, bindO_some]
  cases h3 : idB f
  · rw [Bool.not_false, cond_true, if_pos (.inr (.inr (.inl rfl)))]; rfl
  rw [Bool.not_true, cond_false, c37, bindO_some]
  cases h4 : dayB d
  · rw [Bool.not_false, cond_true, if_pos (.inr (.inr (.inr rfl)))]; rfl
  rw [Bool.not_true, cond_false, if_neg (by simp), g13 l hl, bindO_some]
  by_cases h5 : rightP l = 0
  rotate_left
  · rw [dF h5, Bool.not_false, cond_true, if_pos h5]; rfl
  rw [dT h5, Bool.not_true, cond_false, if_neg (by simp [h5]), c39, bindO_some]
  by_cases h6 : rgtP t = 0
  rotate_left
  · rw [dF h6, Bool.not_false, cond_true, if_pos h6]; rfl
  exact absurd ⟨h1, h2, h3, h4, h5, h6⟩ hne
theorem simIngest (n r f d : Int) (l : List File) (t : Rts) (hl : Fit l) : SimCalls Tryz.prog GT 12 [.int .i64 n, .int .i64 r, .int .i64 f, .int .i64 d, .sl none 70 (l.map (toV shFile)), toV shRts t] (toV (.tup (.pair shObj (.int .i64))) (ingestP n r f d l t)) := by
  by_cases hok : idB n = true ∧ idB r = true ∧ idB f = true ∧ dayB d = true ∧ rightP l = 0 ∧ rgtP t = 0
  rotate_left
  · exact k12.sim rfl (n, r, f, d, l, t) _ (e12 n r f d l t hl hok)
  obtain ⟨h1, h2, h3, h4, h5, h6⟩ := hok
  intro w S cargs hg hS ha
  rcases cargs with _ | ⟨c1, _ | ⟨c2, _ | ⟨c3, _ | ⟨c4, _ | ⟨c5, _ | ⟨c6, _ | ⟨c7, cargs⟩⟩⟩⟩⟩⟩⟩
  · exact ha.elim
  · exact ha.2.elim
  · exact ha.2.2.elim
  · exact ha.2.2.2.elim
  · exact ha.2.2.2.2.elim
  · exact ha.2.2.2.2.2.elim
  · obtain ⟨q1, q2, q3, q4, q5, ⟨cs, rfl, q6⟩, _⟩ := ha
    have q1 : RepC Tryz.prog S w noOw (.int .i64 n) [c1] := q1
    have q2 : RepC Tryz.prog S w noOw (.int .i64 r) [c2] := q2
    have q3 : RepC Tryz.prog S w noOw (.int .i64 f) [c3] := q3
    have q4 : RepC Tryz.prog S w noOw (.int .i64 d) [c4] := q4
    have q5 : RepC Tryz.prog S w noOw (.sl none 70 (l.map (toV shFile))) [c5] := q5
    cases int_inv q1
    cases int_inv q2
    cases int_inv q3
    cases int_inv q4
    have e6 := rts_inv (t := t) q6
    subst e6
    refine (walkIngest n r f d l t h1 h2 h3 h4 h5 h6 hl w hg hS c5 q5).mono ?_
    rintro e w' ⟨ev, hv, rfl, hb, r1, r2⟩
    have e0 : ingestP n r f d l t = ((n, r, [E1 f d l], [fixP [] d 1 0 (rootP l) true], t), 0) := by
      unfold ingestP
      rw [if_neg (by rw [h1, h2, h3, h4]; simp), if_neg (by simp [h5]), if_neg (by simp [h6])]; rfl
    rw [e0]
    exact ⟨_, rfl, hb, end2 (y := (n, r, [E1 f d l], [fixP [] d 1 0 (rootP l) true], t)) hS hb r1 r2⟩
  · exact ha.2.2.2.2.2.2.elim
theorem kIngest : TEnt.Ok Tryz.prog GT entIngest :=
  .plain rfl (callable_of (fn := Tryz.f12) Tryz.func12 (by kernel_rfl)) fun x y h => by
    have h : fIngest x.1 x.2.1 x.2.2.1 x.2.2.2.1 x.2.2.2.2.1 x.2.2.2.2.2 = some y := h
    unfold fIngest at h
    split at h
    · rename_i hl
      cases h
      exact simIngest _ _ _ _ _ _ (fitL_of hl)
    · cases h
theorem k17 : TEnt.Ok Tryz.prog GT ent17 := ok17 keepsGT k15 k40 k51
theorem e17 (o : Obj) (d : Int) (hf : FitO o) (hne : ¬ (objP o = 0 ∧ lateP o d = 0 ∧ ¬ 64 < o.2.2.2.1.length + o.2.2.1.length)) : F17 o d = some (checkP o d) := by
  unfold F17 checkP
  rw [jn_eq]
  dsimp only
  rw [c15 o hf, bindO_some]
  by_cases h0 : objP o = 0
  rotate_left
  · rw [dF h0, Bool.not_false, cond_true, if_pos h0]; rfl
  have hr := rightO_of h0
  have r1 := hr.e8
  have r2 := hr.h64
  rw [dT h0, Bool.not_true, cond_false, if_neg (by simp [h0]), c51 o d (by omega), bindO_some]
  by_cases h1 : lateP o d = 0
  rotate_left
  · rw [dF h1, Bool.not_false, cond_true, if_pos h1]; rfl
  rw [dT h1, Bool.not_true, cond_false, if_neg (by simp [h1]), bnd_eq, i64_wrap (by omega)]
  by_cases h2 : 64 < o.2.2.2.1.length + o.2.2.1.length
  · rw [dT (by omega), cond_true, if_pos h2]; rfl
  exact absurd ⟨h0, h1, h2⟩ hne
theorem simCheck (o : Obj) (d : Int) (hf : FitO o) : SimCalls Tryz.prog GT 17 [toV shObj o, .int .i64 d] (toV (.tup (.pair shObj (.pair (.sl 3 (.int .i64)) (.int .i64)))) (checkP o d)) := by
  by_cases hok : objP o = 0 ∧ lateP o d = 0 ∧ ¬ 64 < o.2.2.2.1.length + o.2.2.1.length
  rotate_left
  · exact k17.sim rfl (o, d) _ (e17 o d hf hok)
  obtain ⟨h0, h1, h2⟩ := hok
  intro w S cargs hg hS ha
  rcases cargs with _ | ⟨c1, _ | ⟨c2, _ | ⟨c3, cargs⟩⟩⟩
  · exact ha.elim
  · exact ha.2.elim
  · obtain ⟨q1, q2, _⟩ := ha
    obtain ⟨ev, hv, rfl, p1, p2⟩ := obj_inv q1
    have q2 : RepC Tryz.prog S w noOw (.int .i64 d) [c2] := q2
    cases int_inv q2
    refine (walkCheck o d h0 h1 h2 hf w hg hS ev hv p1 p2).mono ?_
    rintro e w' ⟨hv', bv, rfl, hb, r1, r2⟩
    have e0 : checkP o d = (checkG d 0 o.2.2.1 o, badG 0 o.2.2.1, 0) := by
      unfold checkP
      rw [if_neg (by simp [h0]), if_neg (by simp [h1]), if_neg h2]
    obtain ⟨k1, k2, k3, k4⟩ := checkG_keep d o.2.2.1 0 o
    have p1' := p1.mono (S' := grow S w w') (w' := w') (ow' := noOw) ⟨fun _ _ h => .inl h, fun b o h => hb.cell (p := ⟨b, o, none⟩) (hS b o h), fun _ _ _ _ h => by cases h⟩
    rw [← k3] at p1'
    have key := sim_end hS hb (r := toV (.tup (.pair shObj (.pair (.sl 3 (.int .i64)) (.int .i64)))) (checkG d 0 o.2.2.1 o, badG 0 o.2.2.1, (0 : Int))) (c := .tuple #[.agg (encO (checkG d 0 o.2.2.1 o) ev hv').toArray, bv, .int .i64 0]) ⟨[_, _, _], rfl, obj_rep p1' r1, r2, RepC.int noOw .i64 0, trivial⟩
    rw [e0]
    unfold encO at key
    rw [k1, k2, k4] at key
    exact ⟨_, rfl, hb, key⟩
  · exact ha.2.2.elim
theorem kCheck : TEnt.Ok Tryz.prog GT entCheck :=
  .plain rfl (callable_of (fn := Tryz.f17) Tryz.func17 (by kernel_rfl)) fun x y h => by
    have h : fCheck x.1 x.2 = some y := h
    unfold fCheck at h
    split at h
    · rename_i hl
      cases h
      exact simCheck _ _ (fitO_of hl)
    · cases h
theorem k27 : TEnt.Ok Tryz.prog GT ent27 := ok27 keepsGT k15 k38 k40 k51
theorem e27 (o : Obj) (e : Int) (l : List File) (d : Int) (hf : FitO o) (hl : Fit l) (hne : ¬ (objP o = 0 ∧ (0 ≤ e ∧ e < o.2.2.1.length) ∧ lateP o d = 0 ∧ rightP l = 0 ∧ rootP l = (o.2.2.1.getD e.toNat E0).2.2.2.1 ∧ ¬ 64 ≤ o.2.2.2.1.length)) : F27 o e l d = some (repairP o e l d) := by
  unfold F27 repairP
  rw [c15 o hf, bindO_some]
  by_cases h0 : objP o = 0
  rotate_left
  · rw [dF h0, Bool.not_false, cond_true, if_pos h0]; rfl
  have hr := rightO_of h0
  have r1 := hr.e8
  have r2 := hr.h64
  rw [dT h0, Bool.not_true, cond_false, if_neg (by simp [h0])]
  by_cases a1 : e < 0
  · rw [dT a1, cond_true, if_pos (by omega)]; rfl
  rw [dF a1, cond_false]
  by_cases a2 : (o.2.2.1.length : Int) ≤ e
  · rw [dT a2, cond_true, if_pos (by omega)]; rfl
  rw [dF a2, cond_false, if_neg (by omega), c51 o d (by omega), bindO_some]
  by_cases h1 : lateP o d = 0
  rotate_left
  · rw [dF h1, Bool.not_false, cond_true, if_pos h1]; rfl
  rw [dT h1, Bool.not_true, cond_false, if_neg (by simp [h1]), g13 _ hl, bindO_some]
  by_cases h2 : rightP l = 0
  rotate_left
  · rw [dF h2, Bool.not_false, cond_true, if_pos h2]; rfl
  rw [dT h2, Bool.not_true, cond_false, if_neg (by simp [h2]), gd_pos (by omega), g15 _ hl, bindO_some]
  by_cases h3 : rootP l = (o.2.2.1.getD e.toNat E0).2.2.2.1
  rotate_left
  · rw [dF h3, Bool.not_false, cond_true, if_pos h3]; rfl
  rw [dT h3, Bool.not_true, cond_false, if_neg (by simpa using h3)]
  by_cases h4 : 64 ≤ o.2.2.2.1.length
  · rw [dT (by omega), cond_true, if_pos h4]; rfl
  exact absurd ⟨h0, by omega, h1, h2, h3, h4⟩ hne
theorem simRepair (o : Obj) (e : Int) (l : List File) (d : Int) (hf : FitO o) (hl : Fit l) : SimCalls Tryz.prog GT 27 [toV shObj o, .int .i64 e, .sl none 70 (l.map (toV shFile)), .int .i64 d] (toV (.tup (.pair shObj (.int .i64))) (repairP o e l d)) := by
  by_cases hok : objP o = 0 ∧ (0 ≤ e ∧ e < o.2.2.1.length) ∧ lateP o d = 0 ∧ rightP l = 0 ∧ rootP l = (o.2.2.1.getD e.toNat E0).2.2.2.1 ∧ ¬ 64 ≤ o.2.2.2.1.length
  rotate_left
  · exact k27.sim rfl (o, e, l, d) _ (e27 o e l d hf hl hok)
  obtain ⟨h0, hi, h1, h2, h3, h4⟩ := hok
  obtain ⟨i, rfl⟩ := Int.eq_ofNat_of_zero_le hi.1
  have hi' : i < o.2.2.1.length := by omega
  rw [Int.toNat_natCast] at h3
  intro w S cargs hg hS ha
  rcases cargs with _ | ⟨c1, _ | ⟨c2, _ | ⟨c3, _ | ⟨c4, _ | ⟨c5, cargs⟩⟩⟩⟩⟩
  · exact ha.elim
  · exact ha.2.elim
  · exact ha.2.2.elim
  · exact ha.2.2.2.elim
  · obtain ⟨q1, q2, q3, q4, _⟩ := ha
    obtain ⟨ev, hv, rfl, p1, p2⟩ := obj_inv q1
    have q2 : RepC Tryz.prog S w noOw (.int .i64 (i : Int)) [c2] := q2
    have q3 : RepC Tryz.prog S w noOw (.sl none 70 (l.map (toV shFile))) [c3] := q3
    have q4 : RepC Tryz.prog S w noOw (.int .i64 d) [c4] := q4
    cases int_inv q2
    cases int_inv q4
    refine (walkRepair o i l d h0 hi' h1 h2 h3 h4 hf hl w hg hS ev hv c3 p1 p2 q3).mono ?_
    rintro e w' ⟨ev', hv', rfl, hb, r1, r2⟩
    have e0 : repairP o (i : Int) l d = (addP (withP o i l) d 4 i (rootP l) true, 0) := by
      unfold repairP
      rw [if_neg (by simp [h0]), if_neg (by omega), if_neg (by simp [h1]), if_neg (by simp [h2]), Int.toNat_natCast, if_neg (by simpa using h3), if_neg h4]
    rw [e0]
    exact ⟨_, rfl, hb, end2 (y := addP (withP o i l) d 4 i (rootP l) true) hS hb r1 r2⟩
  · exact ha.2.2.2.2.elim
theorem kRepair : TEnt.Ok Tryz.prog GT entRepair :=
  .plain rfl (callable_of (fn := Tryz.f27) Tryz.func27 (by kernel_rfl)) fun x y h => by
    have h : fRepair x.1 x.2.1 x.2.2.1 x.2.2.2 = some y := h
    unfold fRepair at h
    split at h
    · rename_i hl
      cases h
      exact simRepair _ _ _ _ (fitO_of hl.1) (fitL_of hl.2)
    · cases h
theorem k25 : TEnt.Ok Tryz.prog GT ent25 := ok25 keepsGT k15
def SpotOk (o : Obj) (e f a : Int) : Prop := (0 ≤ e ∧ e < o.2.2.1.length) ∧ (0 ≤ f ∧ f < (o.2.2.1.getD e.toNat E0).2.2.2.2.length) ∧ (0 ≤ a ∧ a < ((o.2.2.1.getD e.toNat E0).2.2.2.2.getD f.toNat ([], [])).2.length)
theorem dmg_err {o : Obj} {e f a : Int} (h0 : objP o = 0) (h : ¬ SpotOk o e f a) : damageP o e f a = (O0, 2) := by
  unfold damageP
  rw [if_neg (by simp [h0])]
  by_cases h1 : 0 ≤ e ∧ e < o.2.2.1.length
  rotate_left
  · rw [if_pos h1]
  rw [if_neg (by simpa using h1)]
  dsimp only
  by_cases h2 : 0 ≤ f ∧ f < (o.2.2.1.getD e.toNat E0).2.2.2.2.length
  rotate_left
  · rw [if_pos h2]
  rw [if_neg (by simpa using h2)]
  by_cases h3 : 0 ≤ a ∧ a < ((o.2.2.1.getD e.toNat E0).2.2.2.2.getD f.toNat ([], [])).2.length
  · exact absurd ⟨h1, h2, h3⟩ h
  rw [if_pos h3]
theorem dmg_ok {o : Obj} {e f a : Int} (h0 : objP o = 0) (h : SpotOk o e f a) : damageP o e f a = (withP o e.toNat (dmgF (o.2.2.1.getD e.toNat E0).2.2.2.2 f.toNat a.toNat), 0) := by
  unfold damageP
  rw [if_neg (by simp [h0]), if_neg (by simpa using h.1)]
  dsimp only
  rw [if_neg (by simpa using h.2.1), if_neg (by simpa using h.2.2)]
  rfl
theorem e25 (o : Obj) (e f a : Int) (hf : FitO o) (hne : ¬ (objP o = 0 ∧ SpotOk o e f a)) : F25 o e f a = some (damageP o e f a) := by
  by_cases h0 : objP o = 0
  rotate_left
  · unfold F25 damageP
    rw [c15 o hf, bindO_some, dF h0, Bool.not_false, cond_true, if_pos h0]; rfl
  have hsp : ¬ SpotOk o e f a := fun h => hne ⟨h0, h⟩
  rw [dmg_err h0 hsp]
  unfold F25
  rw [c15 o hf, bindO_some, dT h0, Bool.not_true, cond_false]
  by_cases a1 : e < 0
  · rw [dT a1, cond_true]; rfl
  rw [dF a1, cond_false]
  by_cases a2 : (o.2.2.1.length : Int) ≤ e
  · rw [dT a2, cond_true]; rfl
  rw [dF a2, cond_false]
  by_cases a3 : f < 0
  · rw [dT a3, cond_true]; rfl
  rw [dF a3, cond_false, gd_pos (by omega)]
  by_cases a4 : ((o.2.2.1.getD e.toNat E0).2.2.2.2.length : Int) ≤ f
  · rw [dT a4, cond_true]; rfl
  rw [dF a4, cond_false]
  by_cases a5 : a < 0
  · rw [dT a5, cond_true]; rfl
  rw [dF a5, cond_false, gd_pos (by omega), gd_pos (show 0 ≤ f ∧ f < ((o.2.2.1.getD e.toNat E0).2.2.2.2.length : Int) by omega)]
  by_cases a6 : (((o.2.2.1.getD e.toNat E0).2.2.2.2.getD f.toNat ([], [])).2.length : Int) ≤ a
  · rw [dT a6, cond_true]; rfl
  exact absurd ⟨by omega, by omega, by omega⟩ hsp
theorem args4 {S : Nat → Nat → Prop} {w : World} {o : Obj} {e f a : Int} {cargs : List Value} (ha : All2 (Rep1 Tryz.prog S w noOw) [toV shObj o, .int .i64 e, .int .i64 f, .int .i64 a] cargs) : ∃ ev hv, cargs = [.agg (encO o ev hv).toArray, .int .i64 e, .int .i64 f, .int .i64 a] ∧
    RepC Tryz.prog S w noOw (.sl none 63 (o.2.2.1.map (toV shEdn))) [ev] ∧ RepC Tryz.prog S w noOw (.sl none 65 (o.2.2.2.1.map (toV shFix))) [hv] := by
  rcases cargs with _ | ⟨c1, _ | ⟨c2, _ | ⟨c3, _ | ⟨c4, _ | ⟨c5, cargs⟩⟩⟩⟩⟩
  · exact ha.elim
  · exact ha.2.elim
  · exact ha.2.2.elim
  · exact ha.2.2.2.elim
  · obtain ⟨q1, q2, q3, q4, _⟩ := ha
    obtain ⟨ev, hv, rfl, p1, p2⟩ := obj_inv q1
    have q2 : RepC Tryz.prog S w noOw (.int .i64 e) [c2] := q2
    have q3 : RepC Tryz.prog S w noOw (.int .i64 f) [c3] := q3
    have q4 : RepC Tryz.prog S w noOw (.int .i64 a) [c4] := q4
    cases int_inv q2
    cases int_inv q3
    cases int_inv q4
    exact ⟨ev, hv, rfl, p1, p2⟩
  · exact ha.2.2.2.2.elim
theorem simDamage (o : Obj) (e f a : Int) (hf : FitO o) : SimCalls Tryz.prog GT 25 [toV shObj o, .int .i64 e, .int .i64 f, .int .i64 a] (toV (.tup (.pair shObj (.int .i64))) (damageP o e f a)) := by
  by_cases hok : objP o = 0 ∧ SpotOk o e f a
  rotate_left
  · exact k25.sim rfl (o, e, f, a) _ (e25 o e f a hf hok)
  obtain ⟨h0, hsp⟩ := hok
  rw [dmg_ok h0 hsp]
  obtain ⟨h1, h2, h3⟩ := hsp
  obtain ⟨i, rfl⟩ := Int.eq_ofNat_of_zero_le h1.1
  obtain ⟨f, rfl⟩ := Int.eq_ofNat_of_zero_le h2.1
  obtain ⟨a, rfl⟩ := Int.eq_ofNat_of_zero_le h3.1
  rw [Int.toNat_natCast] at h2 h3 ⊢
  rw [Int.toNat_natCast] at h3 ⊢
  rw [Int.toNat_natCast]
  intro w S cargs hg hS ha
  obtain ⟨ev, hv, rfl, p1, p2⟩ := args4 ha
  refine (walkDamage o i f a h0 (by omega) (by omega) (by omega) hf w hg hS ev hv p1 p2).mono ?_
  rintro e w' ⟨ev', rfl, hb, r1⟩
  have p2' := p2.mono (S' := grow S w w') (w' := w') (ow' := noOw) ⟨fun _ _ h => .inl h, fun b o h => hb.cell (p := ⟨b, o, none⟩) (hS b o h), fun _ _ _ _ h => by cases h⟩
  exact ⟨_, rfl, hb, end2 (y := withP o i (dmgF (o.2.2.1.getD i E0).2.2.2.2 f a)) hS hb r1 p2'⟩
theorem kDamage : TEnt.Ok Tryz.prog GT entDamage :=
  .plain rfl (callable_of (fn := Tryz.f25) Tryz.func25 (by kernel_rfl)) fun x y h => by
    have h : fDamage x.1 x.2.1 x.2.2.1 x.2.2.2 = some y := h
    unfold fDamage at h
    split at h
    · rename_i hl
      cases h
      exact simDamage _ _ _ _ (fitO_of hl)
    · cases h
end Go.Proofs.YtecjedagdpnemaaGreatDoor
