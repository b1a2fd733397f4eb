/-
  The archive's intact, and with, walked. No condition beyond what each line says.
-/
import Derived.Test.YtecjedagdpnemaaGreatDoorH5
namespace Go.Proofs.YtecjedagdpnemaaGreatDoor
open Go Go.Nu Go.RowKit Go.Sort
set_option linter.unusedVariables false
theorem callIntact57 {S : Nat → Nat → Prop} {W : World} (x : Edn) (hx : Fit x.2.2.2.2) (fv : Value) (hg : GT W) (hS : ∀ b o, S b o → b < W.heap.size) (hr : RepC Tryz.prog S W noOw (.sl none 70 (x.2.2.2.2.map (toV shFile))) [fv]) :
    Calls Tryz.prog 57 #[.agg (encE x fv).toArray] W fun e w' => e = .returned (.bool (intactB x)) ∧ Below W.heap.size W w' := by
  refine ((k57.sim rfl x _ (c57 x hx)) W S [.agg (encE x fv).toArray] hg hS ⟨⟨encE x fv, rfl, edn_rep hr⟩, trivial⟩).mono ?_
  rintro e w' ⟨c', rfl, hb, S', _, _, hc⟩
  rw [rep_bool _ _ _ _ hc]
  exact ⟨rfl, hb⟩
set_option maxHeartbeats 2000000 in
set_option maxRecDepth 100000 in
theorem walkIntact {S : Nat → Nat → Prop} {w W : World} {l : List Edn} {ev : Value} {b : Nat} (hS : ∀ b o, S b o → b < w.heap.size) (hr : RepC Tryz.prog S w noOw (.sl none 63 (l.map (toV shEdn))) [ev]) (hb : Below w.heap.size w W) (hg : GT W)
    (h2 : W.cell? ⟨b, 2, none⟩ = some ev) (i : Nat) (hi : i < l.length) (hf : Fit (l.getD i E0).2.2.2.2) :
    Calls Tryz.prog 52 #[.pointer (some ⟨b, 0, none⟩), .int .i64 (i : Int)] W fun e w' => e = .returned (.bool (intactB (l.getD i E0))) ∧ Below W.heap.size W w' := by
  have hr' := hr.mono (le_below hS hb)
  obtain ⟨eb, eo, cap, fv, rfl, hc, hv⟩ := edn_at hr' hi
  have HC : Aside (Calls Tryz.prog 57 #[.agg (encE (l.getD i E0) fv).toArray] W fun e w' => e = .returned (.bool (intactB (l.getD i E0))) ∧ Below W.heap.size W w') := callIntact57 _ hf fv hg (fun b o h => Nat.lt_of_lt_of_le (hS b o h) hb.size) hv
  obtain ⟨a2, cap2, rfl⟩ := sl_form hv
  obtain ⟨p0, p1, p2, p3, p4⟩ := hc
  have hi1 : (i : Int) < (l.length : Int) := by omega
  unfold encE at HC
  generalize l.getD i E0 = x at *
  clear hr hr' hv hS hb hf hg
  go_enter Tryz.func52, Tryz.ntmps52
  go_wp2_with (go_at_call 57; refine HC.out.mono ?_; rintro e w1 ⟨rfl, hb1⟩)
  go_ret
  exact ⟨rfl, hb1⟩
theorem own_setAt {W : World} {B e k n g cap : Nat} {xs : List Value} {j : Nat} {u : Value} (h : W.ownsRow B e k (.slice (some ⟨g, 0, none⟩) n cap) n xs) (hj : j < xs.length) : (W.setCell ⟨g, j, none⟩ u).ownsRow B e k (.slice (some ⟨g, 0, none⟩) n cap) n (xs.set j u) := by
  obtain ⟨hl, h | ⟨g', cap', cur, h0, h1, h2, h3, h4, h5, h6⟩⟩ := h
  · cases h.1
  · cases h0
    have hj' : j < n * k := by rw [← hl]; exact hj
    have hc : n * k ≤ cap * k := Nat.mul_le_mul_right k h3
    refine ⟨by rw [List.length_set]; exact hl, .inr ⟨g, cap, cur.set! j u, rfl, h1, ?_, h3, h4, by simpa using h5, ?_⟩⟩
    · simp [World.setCell, Array.getElem?_modify, h2]
    · rw [← h6, Array.set!_eq_setIfInBounds, Array.toList_setIfInBounds, List.take_set]
theorem own_cell {W : World} {B e k n g cap : Nat} {xs : List Value} {j : Nat} {u : Value} (h : W.ownsRow B e k (.slice (some ⟨g, 0, none⟩) n cap) n xs) (hj : xs[j]? = some u) : W.cell? ⟨g, j, none⟩ = some u ∧ W.frozen? ⟨g, j, none⟩ = false := by
  have h1 := h.cells (g := g) rfl j u hj
  rw [Nu.addr_add, Nat.zero_add] at h1
  refine ⟨h1, ?_⟩
  obtain ⟨hl, h | ⟨g', cap', cur, h0, h1, h2, h3⟩⟩ := h
  · cases h.1
  · cases h0
    simp [World.frozen?, h2]
theorem own_grew {w w' : World} {B e k n : Nat} {v : Value} {cs : List Value} (h : w'.ownsRow B e k v n cs) (h0 : 0 < n) : ∃ g cap, v = .slice (some ⟨g, 0, none⟩) n cap ∧ B ≤ g ∧ n ≤ cap := by
  rcases h.2 with ⟨rfl, rfl⟩ | ⟨g, cap, cur, rfl, h1, h2, h3, h4⟩
  · omega
  · exact ⟨g, cap, rfl, h1, h3⟩
theorem wlt {i m : Nat} {cs : List Value} (hi : i < m) (h : cs.length = m * 5) : i * 5 + 4 < cs.length := by omega
set_option maxHeartbeats 2000000 in
set_option maxRecDepth 100000 in
theorem walkWith (n r : Int) (ev : Value) (ha : Option Addr) (hn hc : Nat) (t : Rts) (m : Nat) (cs : List Value) (i : Nat) (hi : i < m) (hm : m ≤ 100000) (fa : Option Addr) (fn fc : Nat) (w : World) (hE : SlAt w 5 ev m cs) :
    Calls Tryz.prog 67 #[.agg #[.int .i64 n, .int .i64 r, ev, .slice ha hn hc, .int .i64 t.1, .int .i64 t.2.1, .int .i64 t.2.2.1, .int .i64 t.2.2.2], .int .i64 (i : Int), .slice fa fn fc] w fun e w' => ∃ v', e = .returned (.agg #[.int .i64 n, .int .i64 r, v', .slice ha hn hc, .int .i64 t.1, .int .i64 t.2.1, .int .i64 t.2.2.1, .int .i64 t.2.2.2]) ∧
      w'.ownsRow w.heap.size 63 5 v' m (cs.set (i * 5 + 4) (.slice fa fn fc)) ∧ Below w.heap.size w w' := by
  obtain ⟨i0, z, q1, q2, q3⟩ := info32
  have HC : Aside (∀ w1, Below w.heap.size w w1 → Calls Tryz.prog 63 #[ev] w1 fun e w' => ∃ v', e = .returned v' ∧ w'.ownsRow w1.heap.size 63 5 v' m cs ∧ Below w1.heap.size w1 w') := fun w1 hb => callClone63 w1 (hE.below hb) hm
  have hi1 : (i : Int) < (m : Int) := by omega
  have HL : Aside (cs.length = m * 5) := hE.len
  obtain ⟨-, -, ea, ec, rfl, -, -⟩ := hE
  go_enter Tryz.func67, Tryz.ntmps67
  go_wp2_with (go_at_call 63; refine (HC.out _ ?_).mono ?_; (exact ((Below.refl _ w).alloc (Nat.le_refl _) _).alloc (by simp) _); rintro e w2 ⟨v2, rfl, ho, hb⟩; obtain ⟨g, cap2, rfl, hg1, hg2⟩ := own_grew (w := w2) ho (Nat.lt_of_le_of_lt (Nat.zero_le _) hi); have H2 := DoneW.start hb; replace hg1 : w.heap.size + 2 ≤ g := Nat.le_trans (by simp) hg1; have HO : Aside (w2.ownsRow (w.heap.size + 2) 63 5 (.slice (some ⟨g, 0, none⟩) m cap2) m cs ∧ DoneW w w2 _ _) := ⟨own_base ho (by simp), H2⟩; have R1 := row8 H2.zr; have R2 := row8 H2.ob; obtain ⟨u, hu⟩ : ∃ u, cs[i * 5 + 4]? = some u := ⟨_, List.getElem?_eq_getElem (wlt hi HL.out)⟩; obtain ⟨gc, gf⟩ := own_cell ho hu; clear ho hb hu; obtain ⟨z0, z1, z2, z3, z4, z5, z6, z7, y0, y1, y2, y3, y4, y5, y6, y7⟩ := R1; obtain ⟨o0, o1, o2, o3, o4, o5, o6, o7, x0, x1, x2, x3, x4, x5, x6, x7⟩ := R2; clear H2)
  (try simp only [Exit.inBlock, Exit.then])
  have hlt : i * 5 + 4 < cs.length := wlt hi HL.out
  have hz := ((Below.heap_setCell (w2.setCell ⟨w.heap.size, 2, none⟩ (.slice (some ⟨g, 0, none⟩) m cap2)) ⟨g, i * 5 + 4, none⟩ (.slice fa fn fc) (w.heap.size + 1) (by show w.heap.size + 1 ≠ g; omega)).trans (Below.heap_setCell w2 ⟨w.heap.size, 2, none⟩ (.slice (some ⟨g, 0, none⟩) m cap2) (w.heap.size + 1) (by show w.heap.size + 1 ≠ w.heap.size; omega))).trans HO.out.2.ob
  refine bodyPost_ret (results_cell_row (fn := Tryz.f67) (p := 6) (ty := 32) rfl _ _ (w.heap.size + 1) 32 _ (0, 0) _ rfl (put8_row hz _ _ _ _ _ _ _ _) Tryz.underlying32 rfl (by kernel_rfl)) rfl ⟨_, rfl, ?_, ?_⟩
  · exact own_base (put8_own (own_setAt (own_set HO.out.1 (by show w.heap.size < _; omega)) hlt) (by omega) _ _ _ _ _ _ _ _) (by omega)
  · exact put8_below ((HO.out.2.b0.setCell (p := ⟨w.heap.size, 2, none⟩) (Nat.le_refl _) _).setCell (p := ⟨g, i * 5 + 4, none⟩) (by show w.heap.size ≤ g; omega) _) (by omega) _ _ _ _ _ _ _ _
end Go.Proofs.YtecjedagdpnemaaGreatDoor
