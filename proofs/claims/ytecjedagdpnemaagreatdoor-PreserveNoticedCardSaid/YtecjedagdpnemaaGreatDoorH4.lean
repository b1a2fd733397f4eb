/-
  The archive's done, intact, and with, walked. No condition beyond what each line says.
-/
import Derived.Test.YtecjedagdpnemaaGreatDoorH3
namespace Go.Proofs.YtecjedagdpnemaaGreatDoor
open Go Go.Nu Go.RowKit Go.Sort
set_option linter.unusedVariables false
theorem info32 : ∃ i0 z, Tryz.prog.info? 32 = some i0 ∧ i0.zero = some z ∧ z.cells = #[.int .i64 0, .int .i64 0, .slice none 0 0, .slice none 0 0, .int .i64 0, .int .i64 0, .int .i64 0, .int .i64 0] := by
  have h : ((Tryz.prog.info? 32).bind fun i => i.zero.map fun z => z.cells) = some #[.int .i64 0, .int .i64 0, .slice none 0 0, .slice none 0 0, .int .i64 0, .int .i64 0, .int .i64 0, .int .i64 0] := by kernel_rfl
  cases hi : Tryz.prog.info? 32 with
  | none => rw [hi] at h; cases h
  | some i0 =>
    rw [hi] at h
    replace h : (i0.zero.map fun z => z.cells) = some #[.int .i64 0, .int .i64 0, .slice none 0 0, .slice none 0 0, .int .i64 0, .int .i64 0, .int .i64 0, .int .i64 0] := h
    cases hz : i0.zero with
    | none => rw [hz] at h; cases h
    | some z =>
      rw [hz] at h
      replace h : some z.cells = some #[.int .i64 0, .int .i64 0, .slice none 0 0, .slice none 0 0, .int .i64 0, .int .i64 0, .int .i64 0, .int .i64 0] := h
      injection h with h
      exact ⟨i0, z, rfl, hz, h⟩
structure Row8 (W : World) (k : Nat) (a0 a1 a2 a3 a4 a5 a6 a7 : Value) : Prop where
  c0 : W.cell? ⟨k, 0, none⟩ = some a0
  c1 : W.cell? ⟨k, 1, none⟩ = some a1
  c2 : W.cell? ⟨k, 2, none⟩ = some a2
  c3 : W.cell? ⟨k, 3, none⟩ = some a3
  c4 : W.cell? ⟨k, 4, none⟩ = some a4
  c5 : W.cell? ⟨k, 5, none⟩ = some a5
  c6 : W.cell? ⟨k, 6, none⟩ = some a6
  c7 : W.cell? ⟨k, 7, none⟩ = some a7
  f0 : W.frozen? ⟨k, 0, none⟩ = false
  f1 : W.frozen? ⟨k, 1, none⟩ = false
  f2 : W.frozen? ⟨k, 2, none⟩ = false
  f3 : W.frozen? ⟨k, 3, none⟩ = false
  f4 : W.frozen? ⟨k, 4, none⟩ = false
  f5 : W.frozen? ⟨k, 5, none⟩ = false
  f6 : W.frozen? ⟨k, 6, none⟩ = false
  f7 : W.frozen? ⟨k, 7, none⟩ = false
theorem row8 {W : World} {k T : Nat} {a0 a1 a2 a3 a4 a5 a6 a7 : Value} (h : W.heap[k]? = some (.cells #[a0, a1, a2, a3, a4, a5, a6, a7] T (0, 0))) : Row8 W k a0 a1 a2 a3 a4 a5 a6 a7 := by
  have h1 := fun o => cell_of_row _ _ o _ _ _ h
  exact ⟨h1 0, h1 1, h1 2, h1 3, h1 4, h1 5, h1 6, h1 7, by simp [World.frozen?, h], by simp [World.frozen?, h], by simp [World.frozen?, h], by simp [World.frozen?, h], by simp [World.frozen?, h], by simp [World.frozen?, h], by simp [World.frozen?, h], by simp [World.frozen?, h]⟩
structure DoneW (w W : World) (z o : Array Value) : Prop where
  b0 : Below w.heap.size w W
  zr : W.heap[w.heap.size]? = some (.cells z 32 (0, 0))
  ob : W.heap[w.heap.size + 1]? = some (.cells o 32 (0, 0))
theorem DoneW.start {w W : World} {z o : Array Value} (hb : Below ((w.alloc (Go.Obj.cells z 32 (0, 0))).alloc (Go.Obj.cells o 32 (0, 0))).heap.size ((w.alloc (Go.Obj.cells z 32 (0, 0))).alloc (Go.Obj.cells o 32 (0, 0))) W) : DoneW w W z o := by
  have h1 := ((Below.refl _ w).alloc (Nat.le_refl _) (Go.Obj.cells z 32 (0, 0)))
  have h2 := h1.alloc h1.size (Go.Obj.cells o 32 (0, 0))
  refine ⟨below_tr h2 h2.size hb, (hb.block _ (by simp; omega)).trans ?_, (hb.block _ (by simp)).trans ?_⟩
  · rw [Below.heap_alloc _ _ _ (by simp)]; exact heap_alloc_new w _
  · have := heap_alloc_new (w.alloc (Go.Obj.cells z 32 (0, 0))) (Go.Obj.cells o 32 (0, 0))
    rw [show (w.alloc (Go.Obj.cells z 32 (0, 0))).heap.size = w.heap.size + 1 by simp] at this
    exact this
theorem own_set {W : World} {B e k n : Nat} {v u : Value} {cs : List Value} {p : Addr} (h : W.ownsRow B e k v n cs) (hp : p.block < B) : (W.setCell p u).ownsRow B e k v n cs := by
  refine ⟨h.1, ?_⟩
  rcases h.2 with h | ⟨g, cap, cur, rfl, h1, h2, h3⟩
  · exact .inl h
  · exact .inr ⟨g, cap, cur, rfl, h1, (Below.heap_setCell _ _ _ _ (by omega)).trans h2, h3⟩
theorem own_base {W : World} {B B' e k n : Nat} {v : Value} {cs : List Value} (h : W.ownsRow B e k v n cs) (hB : B' ≤ B) : W.ownsRow B' e k v n cs := by
  refine ⟨h.1, ?_⟩
  rcases h.2 with h | ⟨g, cap, cur, rfl, h1, h2, h3⟩
  · exact .inl h
  · exact .inr ⟨g, cap, cur, rfl, Nat.le_trans hB h1, h2, h3⟩
abbrev put8 (W : World) (k : Nat) (a0 a1 a2 a3 a4 a5 a6 a7 : Value) : World := ((((((((W.setCell ⟨k, 0, none⟩ a0).setCell ⟨k, 1, none⟩ a1).setCell ⟨k, 2, none⟩ a2).setCell ⟨k, 3, none⟩ a3).setCell ⟨k, 4, none⟩ a4).setCell ⟨k, 5, none⟩ a5).setCell ⟨k, 6, none⟩ a6).setCell ⟨k, 7, none⟩ a7)
theorem put8_row {W : World} {k T : Nat} {z0 z1 z2 z3 z4 z5 z6 z7 : Value} (h : W.heap[k]? = some (.cells #[z0, z1, z2, z3, z4, z5, z6, z7] T (0, 0))) (a0 a1 a2 a3 a4 a5 a6 a7 : Value) : (put8 W k a0 a1 a2 a3 a4 a5 a6 a7).heap[k]? = some (.cells #[a0, a1, a2, a3, a4, a5, a6, a7] T (0, 0)) := by
  simp [World.setCell, Array.getElem?_modify, h]
theorem put8_own {W : World} {k B e q n : Nat} {v : Value} {cs : List Value} (h : W.ownsRow B e q v n cs) (hk : k < B) (a0 a1 a2 a3 a4 a5 a6 a7 : Value) : (put8 W k a0 a1 a2 a3 a4 a5 a6 a7).ownsRow B e q v n cs :=
  own_set (own_set (own_set (own_set (own_set (own_set (own_set (own_set h hk) hk) hk) hk) hk) hk) hk) hk
theorem put8_below {w W : World} {k B : Nat} (h : Below B w W) (hk : B ≤ k) (a0 a1 a2 a3 a4 a5 a6 a7 : Value) : Below B w (put8 W k a0 a1 a2 a3 a4 a5 a6 a7) :=
  (((((((h.setCell (p := ⟨k, 0, none⟩) hk _).setCell (p := ⟨k, 1, none⟩) hk _).setCell (p := ⟨k, 2, none⟩) hk _).setCell (p := ⟨k, 3, none⟩) hk _).setCell (p := ⟨k, 4, none⟩) hk _).setCell (p := ⟨k, 5, none⟩) hk _).setCell (p := ⟨k, 6, none⟩) hk _).setCell (p := ⟨k, 7, none⟩) hk _
set_option maxHeartbeats 2000000 in
set_option maxRecDepth 100000 in
theorem walkDone {b : Nat} {n r : Int} {ea : Option Addr} {en ec : Nat} {hv : Value} {t : Rts} {h : List Fix} {av : Value} {l : List Fix} (w : World) (a : ArchAt w b n r (.slice ea en ec) hv t h av l) (hh : h.length ≤ 4000) (hl : l.length ≤ 4000) :
    Calls Tryz.prog 43 #[.pointer (some ⟨b, 0, none⟩)] w fun e w' => ∃ v', e = .returned (.agg #[.int .i64 n, .int .i64 r, .slice ea en ec, v', .int .i64 t.1, .int .i64 t.2.1, .int .i64 t.2.2.1, .int .i64 t.2.2.2]) ∧
      w'.ownsRow w.heap.size 65 6 v' (h.length + l.length) (h.flatMap encX ++ l.flatMap encX) ∧ Below w.heap.size w w' := by
  have HA : Aside (∀ w1, Below w.heap.size w w1 → Calls Tryz.prog 79 #[.pointer (some ⟨b, 0, none⟩)] w1 fun e w' => ∃ v', e = .returned v' ∧ w'.ownsRow w1.heap.size 65 6 v' (h.length + l.length) (h.flatMap encX ++ l.flatMap encX) ∧ Below w1.heap.size w1 w') := fun w1 hb => walkAll w1 (a.below hb) (by omega) (by omega)
  obtain ⟨-, -, ha, hc, rfl, -, -⟩ := a.his
  obtain ⟨k0, k1, k2, k3, k4, k5, k6, k7, k8⟩ := a.c
  have hbw : b < w.heap.size := (Array.getElem?_eq_some_iff.1 a.blk).1
  clear a
  go_enter Tryz.func43, Tryz.ntmps43
  go_wp2_with (go_at_call 79; refine (HA.out _ ?_).mono ?_; (exact ((Below.refl _ w).alloc (Nat.le_refl _) _).alloc (by simp) _); rintro e w2 ⟨v2, rfl, ho, hb⟩; have H2 := DoneW.start hb; obtain ⟨a2, cap2, rfl⟩ := own_form ho; have HO : Aside (_ ∧ DoneW w w2 _ _) := ⟨ho, H2⟩; clear ho hb; have R1 := row8 H2.zr; have R2 := row8 H2.ob; obtain ⟨z0, z1, z2, z3, z4, z5, z6, z7, y0, y1, y2, y3, y4, y5, y6, y7⟩ := R1; obtain ⟨o0, o1, o2, o3, o4, o5, o6, o7, x0, x1, x2, x3, x4, x5, x6, x7⟩ := R2; clear H2)
  (try simp only [Exit.inBlock, Exit.then])
  have hz := (Below.heap_setCell w2 ⟨w.heap.size + 1, 3, none⟩ (.slice a2 (h.length + l.length) cap2) w.heap.size (by show w.heap.size ≠ w.heap.size + 1; omega)).trans HO.out.2.zr
  refine bodyPost_ret (results_cell_row (fn := Tryz.f43) (p := 2) (ty := 32) rfl _ _ w.heap.size 32 _ (0, 0) _ rfl (put8_row hz _ _ _ _ _ _ _ _) Tryz.underlying32 rfl (by kernel_rfl)) rfl ⟨_, rfl, ?_, ?_⟩
  · exact own_base (put8_own (own_set HO.out.1 (by show w.heap.size + 1 < _; simp)) (by simp; omega) _ _ _ _ _ _ _ _) (by simp; omega)
  · exact put8_below (HO.out.2.b0.setCell (p := ⟨w.heap.size + 1, 3, none⟩) (by show w.heap.size ≤ w.heap.size + 1; omega) _) (Nat.le_refl _) _ _ _ _ _ _ _ _
end Go.Proofs.YtecjedagdpnemaaGreatDoor
