/-
  The deferred closures of exchange.Split and exchange.Decode: what they do when nothing was raised, and when a wrong was raised (Split's). No condition.
-/
import Derived.Test.YtnhjoplleldbfaaDoorG
import Derived.Tactics
import Derived.Tactics2
import Derived.Defers
import Derived.Recover
import Derived.Laws.Pointers
import Derived.WalkLawsBesides
import Derived.Laws.Entries
import Derived.Deep.Heap
namespace Go.Proofs.YtnhjoplleldbfaaDoor
open Go Go.Nu
set_option maxRecDepth 10000

theorem idle28 (w : World) (p q : Value) : CallsD Tryd.prog 28 #[p, q] .returning w fun e u' w' => e = .returned (.tuple #[]) ∧ u' = .returning ∧ w' = w := by
  refine callsD_of_wpS Tryd.func28 rfl fun c₀ cs hu => ?_
  apply wpS_seq
  apply wpS_region
  simp [wpOpsS, go_sem, recoverD, hu, Tryd.ntmps28, Exit.thenS]
  apply wpS_seq
  apply wpS_region
  simp [wpOpsS, go_sem, Tryd.ntmps28, Exit.thenS]
  refine wpS_cond (t := false) (by simp [Act.eval, Array.replicate]) ?_
  simp only [Bool.false_eq_true, if_false]
  refine wpS_of_wp (wp_skip ?_)
  cases c₀
  simp_all [bodyPostS, results, Tryd.results28]
theorem idle31 (w : World) (p q : Value) : CallsD Tryd.prog 31 #[p, q] .returning w fun e u' w' => e = .returned (.tuple #[]) ∧ u' = .returning ∧ w' = w := by
  refine callsD_of_wpS Tryd.func31 rfl fun c₀ cs hu => ?_
  apply wpS_seq
  apply wpS_region
  simp [wpOpsS, go_sem, recoverD, hu, Tryd.ntmps31, Exit.thenS]
  apply wpS_seq
  apply wpS_region
  simp [wpOpsS, go_sem, Tryd.ntmps31, Exit.thenS]
  refine wpS_cond (t := false) (by simp [Act.eval, Array.replicate]) ?_
  simp only [Bool.false_eq_true, if_false]
  refine wpS_of_wp (wp_skip ?_)
  cases c₀
  simp_all [bodyPostS, results, Tryd.results31]

theorem run_assert64 (w : World) : (Instr.typeAssert (.iface 64 (.agg #[])) 20 64 true).run Tryd.prog w = .ok (.tuple #[.agg #[], .bool true]) w := by
  have hu : Tryd.prog.underlying 64 = some (.struct #[]) := by kernel_rfl
  unfold Instr.typeAssert
  simp only [Sem.run_bind, run_underlying hu, Result.andThen_ok]
  simp [go_sem]
theorem run_store0 (a : Addr) (w : World) : (storeCells a []).run Tryd.prog w = .ok () w := by simp [storeCells, go_sem]
theorem catch28 (w : World) (p1 p2 : Addr) (u1 u2 : Value) (h1 : w.cell? p1 = some u1) (h2 : w.cell? p2 = some u2) (z1 : w.frozen? p1 = false) (z2 : w.frozen? p2 = false) (hne : p1.block ≠ p2.block) (hb1 : p1.block < w.heap.size) (hb2 : p2.block < w.heap.size) :
    CallsD Tryd.prog 28 #[.pointer (some p1), .pointer (some p2)] (.panicking (panC 64)) w fun e u' w' => e = .returned (.tuple #[]) ∧ u' = .panicking [{ v := .iface 64 (.agg #[]), recovered := true }] ∧
      w' = ((w.alloc (.cells #[] 64 (0, 0))).setCell p1 (.slice none 0 0)).setCell p2 (.int .i64 3) := by
  refine callsD_of_wpS Tryd.func28 rfl fun c₀ cs hu => ?_
  apply wpS_seq
  apply wpS_region
  simp [wpOpsS, go_sem, recoverD, hu, panC, Tryd.ntmps28, Exit.thenS]
  apply wpS_seq
  apply wpS_region
  simp [wpOpsS, go_sem, Tryd.ntmps28, Exit.thenS]
  refine wpS_cond (t := true) (by simp [Act.eval, Array.replicate]) ?_
  simp only [if_true]
  have hta := run_assert64 w
  have hst := run_store0
  apply wpS_seq
  apply wpS_seq
  apply wpS_region
  simp [wpOpsS, go_sem, hta, hst, Tryd.ntmps28, Exit.thenS]
  apply wpS_seq
  apply wpS_region
  simp [wpOpsS, go_sem, Tryd.ntmps28, Exit.thenS]
  refine wpS_cond (t := false) (by simp [Act.eval, Array.replicate]) ?_
  simp only [Bool.false_eq_true, if_false]
  refine wpS_of_wp (wp_skip ?_)
  simp only [Exit.thenS]
  apply wpS_region
  have k1 : (w.alloc (.cells #[] 64 (0, 0))).cell? p1 = some u1 := (World.cell?_alloc_old _ _ _ (Nat.ne_of_lt hb1)).trans h1
  have k2 : ((w.alloc (.cells #[] 64 (0, 0))).setCell p1 (.slice none 0 0)).cell? p2 = some u2 := (World.cell?_setCell_other _ _ _ _ (fun e => hne (by rw [e]))).trans ((World.cell?_alloc_old _ _ _ (Nat.ne_of_lt hb2)).trans h2)
  have k3 : (w.alloc (.cells #[] 64 (0, 0))).frozen? p1 = false := (World.frozen?_alloc_old _ _ _ (Nat.ne_of_lt hb1)).trans z1
  have k4 : ((w.alloc (.cells #[] 64 (0, 0))).setCell p1 (.slice none 0 0)).frozen? p2 = false := (World.frozen?_setCell _ _ _ _).trans ((World.frozen?_alloc_old _ _ _ (Nat.ne_of_lt hb2)).trans z2)
  simp [wpOpsS, go_sem, Tryd.ntmps28, k1, k2, k3, k4]
  cases c₀
  simp_all [bodyPostS, results, Tryd.results28]

theorem belowX_setCell {LX : Nat → Prop} {w w' : World} (h : BelowX LX w w') (a : Addr) (v : Value) (ha : LX a.block) : BelowX LX w (w'.setCell a v) :=
  ⟨h.os, h.tape, h.output, Nat.le_trans h.size (by simp [World.setCell]), fun k hk hx => (Go.Deep.blk_setCell_other w' a v k (fun e => hx (e ▸ ha))).trans (h.block k hk hx)⟩

section
variable {G : World → Prop} (hG : Keeps G)
include hG in
theorem ok11 (h29 : TEnt.Ok Tryd.prog G ent29) (h30 : TEnt.Ok Tryd.prog G ent30) : TEnt.Ok Tryd.prog G ent11 := by
  refine ent_okD hG mixedG (fn := Tryd.f11) (d0 := dc11a) (d := dc11) (x := 5) (g := 28) (t1 := 2) (t2 := 3) (T := 64) (crs := [.cell 2 none, .cell 3 none]) (hint := [(30000000, 30), (10000000, 6000299)])
    (hint1 := [(30000000, 30), (10000000, 6000299), (30000000, 70000002), (30000000, 70000003)]) (TT := [ent29, ent30]) (SH := SHG) (pv := some ([], (3 : Int))) rfl rfl rfl ?_ (by kernel_rfl) idle28 ?_ (by decide) (by kernel_rfl) (by kernel_rfl) (by decide) (by decide) (by decide) (by decide)
    (by kernel_rfl) (splitsNil (by kernel_rfl)) (splitsNil (by kernel_rfl)) (by decide) rfl ⟨h29, h30, trivial⟩ eq11
  · intro Q a w hsz hdf hq
    apply wp_region
    have hmf : ∀ (fn : Fn) (first cap : Array Value) (w : World), (Instr.makeFunc fn first cap).run Tryd.prog w = .ok (.func fn first cap) w := fun _ _ _ _ => rfl
    obtain ⟨tmps, dfs⟩ := a
    simp only at hsz hdf
    subst hdf
    have h5 : 5 < tmps.size := by rw [hsz]; decide
    simp [wpOps, go_sem, hmf, h5]
    left
    left
    simpa using hq
  · rintro v hv w g1 g2 tmps cur1 cur2 T1 T2 e1 e2 hsz b1 b2 z1 z2 hne
    cases hv
    have l1 : g1 < w.heap.size := (Array.getElem?_eq_some_iff.1 b1).1
    have l2 : g2 < w.heap.size := (Array.getElem?_eq_some_iff.1 b2).1
    refine (catch28 w ⟨g1, 0, none⟩ ⟨g2, 0, none⟩ cur1[0] cur2[0] (by simp [World.cell?, b1, z1]) (by simp [World.cell?, b2, z2]) (by simp [World.frozen?, b1]) (by simp [World.frozen?, b2]) hne l1 l2).mono ?_
    rintro e u w' ⟨rfl, rfl, rfl⟩
    refine ⟨rfl, rfl, belowX_setCell (belowX_setCell ((BelowX.refl _ w).alloc _) _ _ (.inl rfl)) _ _ (.inr rfl), .tuple #[.slice none 0 0, .int .i64 3], ?_, fun S => ?_⟩
    · have k1 : (w.alloc (.cells #[] 64 (0, 0))).cell? ⟨g1, 0, none⟩ = some cur1[0] := (World.cell?_alloc_old _ _ _ (Nat.ne_of_lt l1)).trans (by simp [World.cell?, b1, z1])
      have k2 : ((w.alloc (.cells #[] 64 (0, 0))).setCell ⟨g1, 0, none⟩ (.slice none 0 0)).cell? ⟨g2, 0, none⟩ = some cur2[0] :=
        (World.cell?_setCell_other _ _ _ _ (by simp [hne.symm])).trans ((World.cell?_alloc_old _ _ _ (Nat.ne_of_lt l2)).trans (by simp [World.cell?, b2, z2]))
      have k3 := World.cell?_setCell_same _ _ (.slice none 0 0) k1
      have k4 := World.cell?_setCell_same _ _ (.int .i64 3) k2
      have k5 := (World.cell?_setCell_other ((w.alloc (.cells #[] 64 (0, 0))).setCell ⟨g1, 0, none⟩ (.slice none 0 0)) ⟨g2, 0, none⟩ ⟨g1, 0, none⟩ (.int .i64 3) (by simp [hne])).trans k3
      rw [Array.getD_eq_getD_getElem?] at e1 e2
      simp [results, Tryd.results11, go_sem, e1, e2, k4, k5]
    · exact ⟨[.slice none 0 0, .int .i64 3], rfl, (RepC.nilsl _ (TagOk.none_ _ _ _ _)), (RepC.int _ _ _), trivial⟩
include hG in
theorem ok13 (h9 : TEnt.Ok Tryd.prog G ent9) (h32 : TEnt.Ok Tryd.prog G ent32) : TEnt.Ok Tryd.prog G ent13 := by
  refine ent_okD hG mixedG (fn := Tryd.f13) (d0 := dc13a) (d := dc13) (x := 6) (g := 31) (t1 := 2) (t2 := 3) (T := 64) (crs := [.cell 2 (some 24), .cell 3 none]) (hint := [])
    (hint1 := [(30000000, 70000002), (30000000, 70000003)]) (TT := [ent9, ent32]) (SH := SHG) (pv := none) rfl rfl rfl ?_ (by kernel_rfl) idle31 (fun v hv => by cases hv) (by decide) (by kernel_rfl) (by kernel_rfl) (by decide) (by decide) (by decide) (by decide)
    (by kernel_rfl) (splitsNil (by kernel_rfl)) (splitsNil (by kernel_rfl)) (by decide) rfl ⟨h9, h32, trivial⟩ eq13
  intro Q a w hsz hdf hq
  apply wp_region
  have hmf : ∀ (fn : Fn) (first cap : Array Value) (w : World), (Instr.makeFunc fn first cap).run Tryd.prog w = .ok (.func fn first cap) w := fun _ _ _ _ => rfl
  obtain ⟨tmps, dfs⟩ := a
  simp only at hsz hdf
  subst hdf
  have h5 : 6 < tmps.size := by rw [hsz]; decide
  simp [wpOps, go_sem, hmf, h5]
  left
  left
  simpa using hq
end
end Go.Proofs.YtnhjoplleldbfaaDoor
