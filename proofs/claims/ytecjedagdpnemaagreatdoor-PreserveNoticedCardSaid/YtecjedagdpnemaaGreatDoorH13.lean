/-
  preserve.Damage walked where it damages a byte: the walk. No condition beyond what each line says.
-/
import Derived.Test.YtecjedagdpnemaaGreatDoorH12
namespace Go.Proofs.YtecjedagdpnemaaGreatDoor
open Go Go.Nu Go.RowKit Go.Sort
set_option linter.unusedVariables false
set_option maxHeartbeats 8000000 in
set_option maxRecDepth 100000 in
theorem walkDamage {S : Nat → Nat → Prop} (o : Obj) (i f a : Nat) (h0 : objP o = 0) (hi : i < o.2.2.1.length) (hfl : f < (o.2.2.1.getD i E0).2.2.2.2.length) (hal : a < ((o.2.2.1.getD i E0).2.2.2.2.getD f ([], [])).2.length) (hf : FitO o)
    (w : World) (hG : GT w) (hS : ∀ b o, S b o → b < w.heap.size)
    (ev hv : Value) (he : RepC Tryz.prog S w noOw (.sl none 63 (o.2.2.1.map (toV shEdn))) [ev]) (hh : RepC Tryz.prog S w noOw (.sl none 65 (o.2.2.2.1.map (toV shFix))) [hv]) :
    Calls Tryz.prog 25 #[.agg (encO o ev hv).toArray, .int .i64 (i : Int), .int .i64 (f : Int), .int .i64 (a : Int)] w fun e w' => ∃ ev', e = .returned (.tuple #[.agg #[.int .i64 o.1, .int .i64 o.2.1, ev', hv, .int .i64 o.2.2.2.2.1, .int .i64 o.2.2.2.2.2.1, .int .i64 o.2.2.2.2.2.2.1, .int .i64 o.2.2.2.2.2.2.2], .int .i64 0]) ∧ Below w.heap.size w w' ∧
      RepC Tryz.prog (grow S w w') w' noOw (.sl none 63 ((withP o i (dmgF (o.2.2.1.getD i E0).2.2.2.2 f a)).2.2.1.map (toV shEdn))) [ev'] := by
  have hr := rightO_of h0
  have r1 := hr.e1
  have r8 := hr.e8
  have i0 : ¬ (i : Int) < 0 := by omega
  have i1 : (i : Int) < (o.2.2.1.length : Int) := by omega
  have i2 : (i : Int) < 8 := by omega
  obtain ⟨cs, hcs, hrs⟩ := edns_at he
  obtain ⟨eb, eo, ec, -, rfl, -, -⟩ := edn_at he (i := 0) (by omega)
  obtain ⟨ha, hc, rfl⟩ := sl_form hh
  rw [lenX] at *
  obtain ⟨ga, gc, hE, hfv⟩ := edn_at' he hi
  obtain ⟨fb, fo, fc, hfe, hfc⟩ := file_at hfv hfl
  cases hfe
  have hft := (hf.el _ (getD_mem E0 hi)).2
  have H15 : Aside (∀ w1, ObjW w w1 o (.slice (some ⟨eb, eo, none⟩) o.2.2.1.length ec) (.slice ha o.2.2.2.1.length hc) → Calls Tryz.prog 15 #[.agg (encO o (.slice (some ⟨eb, eo, none⟩) o.2.2.1.length ec) (.slice ha o.2.2.2.1.length hc)).toArray] w1 fun e w' => e = .returned (.int .i64 0) ∧ Below w1.heap.size w1 w') := fun w1 hw => by
    have := call15 o hf (obj_rep he hh) hS w1 hw.b0 (keepsGT _ _ hG hw.b0)
    rwa [h0] at this
  have H41 : Aside (∀ w1, Below w.heap.size w w1 → Calls Tryz.prog 41 #[.slice (some ⟨fb, fo, none⟩) (o.2.2.1.getD i E0).2.2.2.2.length gc] w1 fun e w' => ∃ v', e = .returned v' ∧ w'.ownsRow w1.heap.size 70 2 v' (o.2.2.1.getD i E0).2.2.2.2.length ((o.2.2.1.getD i E0).2.2.2.2.flatMap encF) ∧ Below w1.heap.size w1 w') := fun w1 hw => callClone41 w1 ((files_at hfv).below hw) (by have := hft.1; omega)
  have H67 : Aside (∀ w1 ca cn cc, Below w.heap.size w w1 → Calls Tryz.prog 67 #[.agg #[.int .i64 o.1, .int .i64 o.2.1, .slice (some ⟨eb, eo, none⟩) o.2.2.1.length ec, .slice ha o.2.2.2.1.length hc, .int .i64 o.2.2.2.2.1, .int .i64 o.2.2.2.2.2.1, .int .i64 o.2.2.2.2.2.2.1, .int .i64 o.2.2.2.2.2.2.2], .int .i64 (i : Int), .slice ca cn cc] w1 fun e w' => ∃ v', e = .returned (.agg #[.int .i64 o.1, .int .i64 o.2.1, v', .slice ha o.2.2.2.1.length hc, .int .i64 o.2.2.2.2.1, .int .i64 o.2.2.2.2.2.1, .int .i64 o.2.2.2.2.2.2.1, .int .i64 o.2.2.2.2.2.2.2]) ∧
      w'.ownsRow w1.heap.size 63 5 v' o.2.2.1.length (cs.set (i * 5 + 4) (.slice ca cn cc)) ∧ Below w1.heap.size w1 w') := fun w1 ca cn cc hw => walkWith o.1 o.2.1 _ ha _ hc o.2.2.2.2 o.2.2.1.length cs i hi (by omega) ca cn cc w1 (hcs.below hw)
  obtain ⟨L, hL⟩ : ∃ L, L = (o.2.2.1.getD i E0).2.2.2.2 := ⟨_, rfl⟩
  obtain ⟨D, hD⟩ : ∃ D, D = (L.getD f ([], [])).2 := ⟨_, rfl⟩
  rw [← hL, ← hD] at hfc
  rw [← hL, ← hD] at hal
  rw [← hL] at hfl H41 hE
  rw [← hL]
  have hD5 : D.length ≤ 50000 := by rw [hD]; exact (fit_at (hL ▸ hft) f).2
  have hL1 : L.length ≤ 1000 := by rw [hL]; exact hft.1
  have f0 : ¬ (f : Int) < 0 := by omega
  have f1 : (f : Int) < (L.length : Int) := by omega
  have a0 : ¬ (a : Int) < 0 := by omega
  have a1 : (a : Int) < (D.length : Int) := by omega
  have hDs : (⟨D.toArray⟩ : ByteArray).size = D.length := by show D.toArray.size = _; simp
  obtain ⟨u, hu⟩ : ∃ u, D[a]? = some u := ⟨_, List.getElem?_eq_getElem hal⟩
  have HX : Aside ((∀ b o, S b o → b < w.heap.size) ∧ RepCs Tryz.prog S w noOw (o.2.2.1.map (toV shEdn)) cs ∧ i < o.2.2.1.length ∧ EdnC w eb (eo + i * 5) (o.2.2.1.getD i E0) (.slice (some ⟨fb, fo, none⟩) L.length gc) ∧ w.cell? ⟨fb, fo + f * 2 + 1, none⟩ = some (.string ⟨D.toArray⟩) ∧ f < L.length ∧ a < D.length ∧ D = (L.getD f ([], [])).2 ∧ D[a]? = some u) := ⟨hS, hrs, hi, hE, hfc, hfl, hal, hD, hu⟩
  obtain ⟨B2, hB2⟩ : ∃ B2 : ByteArray, B2 = ⟨(dmg D a).toArray⟩ := ⟨_, rfl⟩
  obtain ⟨B, hB⟩ : ∃ B : ByteArray, B = ⟨D.toArray⟩ := ⟨_, rfl⟩
  have hBs : B.size = D.length := by rw [hB]; exact hDs
  have R0' := obj_row8 (heap_alloc2_old w (Go.Obj.cells (encO o (.slice (some ⟨eb, eo, none⟩) o.2.2.1.length ec) (.slice ha o.2.2.2.1.length hc)).toArray 32 (0, 0)) (Go.Obj.cells #[.int .i64 0, .int .i64 0, .slice none 0 0, .slice none 0 0, .int .i64 0, .int .i64 0, .int .i64 0, .int .i64 0] 32 (0, 0)))
  unfold encO at H15 R0' ⊢
  obtain ⟨z0, z1, z2, z3, z4, z5, z6, z7, y0, y1, y2, y3, y4, y5, y6, y7⟩ := R0'
  clear he hh hf hr hS hG h0 hE hcs hrs hft hL hD hDs hfc hfv hi hfl hal hu
  have HB : Aside (B = ⟨D.toArray⟩) := hB
  have HB2 : Aside (B2 = ⟨(dmg D a).toArray⟩) := hB2
  clear hB hB2
  go_enter Tryz.func25, Tryz.ntmps25
  go_wp2_with (first
    | (go_at_call 15; refine (H15.out _ ObjW.start).mono ?_; rintro e w1 ⟨rfl, hb⟩; have H : Aside (ObjW w w1 o _ _) := ObjW.step ObjW.start hb; clear hb z0 z1 z2 z3 z4 z5 z6 z7 y0 y1 y2 y3 y4 y5 y6 y7; obtain ⟨z0, z1, z2, z3, z4, z5, z6, z7, y0, y1, y2, y3, y4, y5, y6, y7⟩ := obj_row8 H.out.ob; have p4 := (HX.out.2.2.2.1.below H.out.b0).c4; have p5 := (H.out.b0.cell (p := ⟨fb, fo + f * 2 + 1, none⟩) (World.block_lt_of_cell? w _ HX.out.2.2.2.2.1)).trans HX.out.2.2.2.2.1; rw [← HB.out] at p5)
    | (go_at_call 41; refine (H41.out _ H.out.b0).mono ?_; rintro e w2 ⟨v2, rfl, ho, hb⟩; have H2 : Aside (ObjW w w2 o _ _) := H.out.step hb; obtain ⟨g, cap2, rfl, hg1, hg2⟩ := own_grew (w := w2) ho (Nat.lt_of_le_of_lt (Nat.zero_le _) HX.out.2.2.2.2.2.1); obtain ⟨gc2, gf2⟩ := own_cell ho (files_step HX.out.2.2.2.2.2.1); rw [← HX.out.2.2.2.2.2.2.2.1, ← HB.out] at gc2; obtain ⟨cap, C, hcv, hC1, hC2⟩ := conv_bytes w2 D; rw [← HB.out] at hcv; have hr3 := heap_alloc_new w2 (Go.Obj.cells C 5 (C.size, C.size + 1)); have b1 := (cell_of_row _ _ a _ _ _ hr3).trans (hC2 a _ HX.out.2.2.2.2.2.2.2.2); have b2 : (w2.alloc (Go.Obj.cells C 5 (C.size, C.size + 1))).frozen? ⟨w2.heap.size, a, none⟩ = false := (by simp only [World.frozen?, hr3]; have := HX.out.2.2.2.2.2.2.1; simp; omega); have b1d : (w2.alloc (Go.Obj.cells C 5 (C.size, C.size + 1))).drew.cell? ⟨w2.heap.size, a, none⟩ = _ := b1; clear z0 z1 z2 z3 z4 z5 z6 z7 y0 y1 y2 y3 y4 y5 y6 y7 p4 p5; have b2d : (w2.alloc (Go.Obj.cells C 5 (C.size, C.size + 1))).drew.frozen? ⟨w2.heap.size, a, none⟩ = false := b2; have DW := dmg_world (cap := cap) H2.out (B0 := w1.heap.size) ho hg1 (Array.getElem?_eq_some_iff.1 H.out.zb).1 (files_step HX.out.2.2.2.2.2.1) HX.out.2.2.2.2.2.2.2.2 hC1 hC2 (.string B2); rw [← HX.out.2.2.2.2.2.2.2.1, ← HB.out] at DW; rw [← HB2.out] at DW; have HO : Aside _ := DW.2.2.2; have HP5 : Aside (ObjW w _ o _ _) := HO.out.1.step (below_drew _); have hbk := DW.1; have gc4 := DW.2.1; have gf4 := DW.2.2.1; obtain ⟨z0, z1, z2, z3, z4, z5, z6, z7, -, -, -, -, -, -, -, -⟩ := obj_row8 HO.out.1.ob; clear DW hb ho hg1 hC1 hC2 hr3)
    | (go_at_call 67; refine (H67.out _ _ _ _ HP5.out.b0).mono ?_; rintro e w8 ⟨v8, rfl, ho8, hb8⟩; have E8 : Aside _ := dmg_end (l := dmgF L f a) HX.out.2.2.1 HX.out.1 HX.out.2.1 HP5.out (Array.getElem?_eq_some_iff.1 H.out.zb).1 (by rw [dmgF_len, ← dmgF_flat HX.out.2.2.2.2.2.1, ← HX.out.2.2.2.2.2.2.2.1, ← HB2.out]; exact HO.out.2) hb8 ho8; obtain ⟨a8, c8, rfl⟩ := own_form ho8; have R1 := row8 (E8.out (.bool true) (.bool true) (.bool true) (.bool true) (.bool true) (.bool true) (.bool true) (.bool true)).1; clear ho8 hb8 z0 z1 z2 z3 z4 z5 z6 z7; obtain ⟨z0, z1, z2, z3, z4, z5, z6, z7, y0, y1, y2, y3, y4, y5, y6, y7⟩ := R1))
  (try simp only [Exit.inBlock, Exit.then])
  have hz := (E8.out (.bool true) (.bool true) (.bool true) (.bool true) (.bool true) (.bool true) (.bool true) (.bool true)).1
  refine bodyPost_ret (results_row_tmp (fn := Tryz.f25) (p := 8) (u := 9) (ty := 32) rfl _ _ (w.heap.size + 1) _ rfl (run_loadVar_row _ (w.heap.size + 1) 32 32 _ (0, 0) _ (put8_row hz _ _ _ _ _ _ _ _) Tryz.underlying32 rfl (by kernel_rfl)) _ rfl) rfl ⟨_, rfl, ?_, ?_⟩
  · exact (E8.out _ _ _ _ _ _ _ _).2.1
  · exact (E8.out _ _ _ _ _ _ _ _).2.2
end Go.Proofs.YtecjedagdpnemaaGreatDoor
