/-
  preserve.Migrate walked where it returns an error behind what it looked up. No condition beyond what each line says.
-/
import Derived.Test.YtecjedagdpnemaaGreatDoorH16
import Derived.Deep.RegionHeld3
namespace Go.Proofs.YtecjedagdpnemaaGreatDoor
open Go Go.Nu Go.RowKit Go.Sort
set_option linter.unusedVariables false
set_option maxHeartbeats 8000000 in
set_option maxRecDepth 100000 in
theorem walkMigrateA {S : Nat → Nat → Prop} (o : Obj) (l : List Fmt) (tg d : Int) (f t : Fmt) (h0 : objP o = 0) (h1 : lateP o d = 0) (hf1 : getF l (lastE o).1 = some f) (ht1 : getF l tg = some t) (hm : tg ∈ f.2.2.2.2.2.2) (hi : intactB (lastE o) = false)
    (hF : FitM o l) (w : World) (hG : GT w) (hS : ∀ b o, S b o → b < w.heap.size)
    (ev hv lv : Value) (he : RepC Tryz.prog S w noOw (.sl none 63 (o.2.2.1.map (toV shEdn))) [ev]) (hh : RepC Tryz.prog S w noOw (.sl none 65 (o.2.2.2.1.map (toV shFix))) [hv]) (hl : RepC Tryz.prog S w noOw (.sl none 72 (l.map (toV shFmt))) [lv]) :
    Calls Tryz.prog 23 #[.agg (encO o ev hv).toArray, lv, .int .i64 tg, .int .i64 d] w fun e w' => e = .returned (.tuple #[.agg #[.int .i64 0, .int .i64 0, .slice none 0 0, .slice none 0 0, .int .i64 0, .int .i64 0, .int .i64 0, .int .i64 0], .int .i64 19]) ∧ Below w.heap.size w w' := by
  have hr := rightO_of h0
  have r1 := hr.e1
  have r8 := hr.e8
  obtain ⟨k, hk⟩ : ∃ k, o.2.2.1.length = k + 1 := ⟨o.2.2.1.length - 1, by omega⟩
  have hkl : k < o.2.2.1.length := by omega
  have hE : lastE o = o.2.2.1.getD k E0 := by unfold lastE; rw [hk]; rfl
  have ek1 : (o.2.2.1.length : Int) = (k : Int) + 1 := by omega
  rw [hE] at hf1 hi
  have k7 : (k : Int) ≤ 7 := by omega
  have k0 : (0 : Int) ≤ (k : Int) := by omega
  have kl : (k : Int) < (o.2.2.1.length : Int) := by omega
  obtain ⟨cs, hcs, hrs⟩ := edns_at he
  obtain ⟨eb, eo, ec, -, rfl, -, -⟩ := edn_at he (i := 0) (by omega)
  obtain ⟨ha, hc, rfl⟩ := sl_form hh
  rw [lenX] at *
  obtain ⟨ga, gc, hEd, hfv⟩ := edn_at' he hkl
  obtain ⟨la, lc, rfl⟩ := sl_form hl
  rw [lenM] at hl ⊢
  have C := mig_c h0 h1 hk hf1 ht1 hm hi (show convR f t _ = ((convR f t (o.2.2.1.getD k E0).2.2.2.2).1, (convR f t (o.2.2.1.getD k E0).2.2.2.2).2) from rfl) hF hG hS he hh hl hfv hcs
  have H15 : Aside _ := C.h15
  have H51 : Aside _ := C.h51
  have H21 : Aside _ := C.h21
  have H60 : Aside _ := C.h60
  have H61 : Aside _ := C.h61
  have H52 : Aside _ := C.h52
  have HX : Aside ((∀ b o, S b o → b < w.heap.size) ∧ RepC Tryz.prog S w noOw (.sl none 65 (o.2.2.2.1.map (toV shFix))) [(.slice ha o.2.2.2.1.length hc)] ∧ RepCs Tryz.prog S w noOw (o.2.2.1.map (toV shEdn)) cs ∧ EdnC w eb (eo + k * 5) (o.2.2.1.getD k E0) (.slice ga (o.2.2.1.getD k E0).2.2.2.2.length gc) ∧ getF l (o.2.2.1.getD k E0).1 = some f ∧ getF l tg = some t) := ⟨hS, hh, hrs, hEd, hf1, ht1⟩
  have R0' := obj_row8 (heap_alloc2_old w (Go.Obj.cells (encO o (.slice (some ⟨eb, eo, none⟩) o.2.2.1.length ec) (.slice ha o.2.2.2.1.length hc)).toArray 32 (0, 0)) (Go.Obj.cells #[.int .i64 0, .int .i64 0, .slice none 0 0, .slice none 0 0, .int .i64 0, .int .i64 0, .int .i64 0, .int .i64 0] 32 (0, 0)))
  unfold encO at H15 H51 H21 R0' ⊢
  unfold encM at H60
  obtain ⟨z0, z1, z2, z3, z4, z5, z6, z7, y0, y1, y2, y3, y4, y5, y6, y7⟩ := R0'
  clear C he hh hr hS hG h0 h1 hf1 ht1 hm hi hF hcs hrs hEd hfv hl hE ek1 hkl hk r8
  have t1 := True.intro
  go_enter Tryz.func23, Tryz.ntmps23
  go_wp2_with (first
    | (go_at_call 15; refine (H15.out _ ObjW.start).mono ?_; rintro e w1 ⟨rfl, hb⟩; have H1 : Aside (ObjW w w1 o _ _) := ObjW.step ObjW.start hb; clear hb z0 z1 z2 z3 z4 z5 z6 z7 y0 y1 y2 y3 y4 y5 y6 y7; obtain ⟨z0, z1, z2, z3, z4, z5, z6, z7, y0, y1, y2, y3, y4, y5, y6, y7⟩ := obj_row8 H1.out.ob)
    | (go_at_call 51; refine (H51.out _ H1.out).mono ?_; rintro e w2 ⟨rfl, hb⟩; have H2 : Aside (ObjW w w2 o _ _) := ObjW.step H1.out hb; clear hb z0 z1 z2 z3 z4 z5 z6 z7 y0 y1 y2 y3 y4 y5 y6 y7; have M2 : Aside _ := MigW.start HX.out.1 HX.out.2.1 H2.out; obtain ⟨z0, z1, z2, z3, z4, z5, z6, z7, y0, y1, y2, y3, y4, y5, y6, y7⟩ := obj_row8 H2.out.ob; obtain ⟨x0, x1, x2, x3, x4, x5, x6, x7, -, -, -, -, -, -, -, -⟩ := obj_row8 ((heap_alloc_old w2 (Go.Obj.cells #[.int .i64 o.1, .int .i64 o.2.1, .slice (some ⟨eb, eo, none⟩) o.2.2.1.length ec, .slice ha o.2.2.2.1.length hc, .int .i64 o.2.2.2.2.1, .int .i64 o.2.2.2.2.2.1, .int .i64 o.2.2.2.2.2.2.1, .int .i64 o.2.2.2.2.2.2.2, .slice none 0 0] 78 (0, 0)) (Array.getElem?_eq_some_iff.1 H2.out.ob).1).trans H2.out.ob))
    | (go_at_call 21; refine (H21.out _ M2.out.ow).mono ?_; rintro e w3 ⟨rfl, hb⟩; have M3 : Aside (MigW w w3 o _ _ _) := M2.out.step hb; have G3 : Aside (MigS S S w w3 w2.heap.size) := ⟨fun b o h => Nat.lt_of_lt_of_le (HX.out.1 b o h) M3.out.ow.b0.size, fun _ _ h => h, fun _ _ h => .inl h⟩; clear hb z0 z1 z2 z3 z4 z5 z6 z7 y0 y1 y2 y3 y4 y5 y6 y7 x0 x1 x2 x3 x4 x5 x6 x7; have c2 := M3.out.a.c.c2; have p0 := (HX.out.2.2.2.1.below M3.out.ow.b0).c0)
    | (go_at_call 60; clear t1; refine (H60.out _ _ _ _ _ M3.out G3.out HX.out.2.2.2.2.1).mono ?_; rintro e w4 ⟨ta, tn, tc, rfl, hb, S4, G4, L4, q4⟩; have M4 : Aside (MigW w w4 o _ _ _) := M3.out.step hb; have K4 : Aside (_ ∧ _) := ⟨G4, q4⟩; clear hb G4 q4 L4 c2 p0; have B4 : Aside (Below w4.heap.size w4 (w4.alloc (Go.Obj.cells #[.int .i64 f.1, .int .i64 f.2.1, .int .i64 f.2.2.1, .int .i64 f.2.2.2.1, .string ⟨f.2.2.2.2.1.toArray⟩, .string ⟨f.2.2.2.2.2.1.toArray⟩, .slice ta tn tc] 72 (0, 0)))) := (Below.refl _ w4).alloc (Nat.le_refl _) _; have F4 : Aside (FmtB (w4.alloc (Go.Obj.cells #[.int .i64 f.1, .int .i64 f.2.1, .int .i64 f.2.2.1, .int .i64 f.2.2.2.1, .string ⟨f.2.2.2.2.1.toArray⟩, .string ⟨f.2.2.2.2.2.1.toArray⟩, .slice ta tn tc] 72 (0, 0))) w4.heap.size f (.slice ta tn tc)) := heap_alloc_new w4 _)
    | (go_at_call 60; refine (H60.out _ _ _ _ _ (M4.out.step B4.out) (K4.out.1.step B4.out.size) HX.out.2.2.2.2.2).mono ?_; rintro e w5 ⟨ua, un, uc, rfl, hb, S5, G5, L5, q5⟩; have M5 : Aside (MigW w w5 o _ _ _) := (M4.out.step B4.out).step hb; have K5 : Aside (MigS S S5 w w5 w2.heap.size ∧ RepC Tryz.prog S5 w5 noOw (.sl none 3 (f.2.2.2.2.2.2.map (toV (.int .i64)))) [.slice ta tn tc] ∧ _) := ⟨G5, (K4.out.2.mono ⟨fun _ _ h => h, fun b o h => B4.out.cell (p := ⟨b, o, none⟩) (K4.out.1.lt b o h), fun _ _ _ _ h => by cases h⟩).mono L5, q5⟩; have B5 : Aside (Below w5.heap.size w5 (w5.alloc (Go.Obj.cells #[.int .i64 t.1, .int .i64 t.2.1, .int .i64 t.2.2.1, .int .i64 t.2.2.2.1, .string ⟨t.2.2.2.2.1.toArray⟩, .string ⟨t.2.2.2.2.2.1.toArray⟩, .slice ua un uc] 72 (0, 0)))) := (Below.refl _ w5).alloc (Nat.le_refl _) _; have F5 : Aside (FmtB (w5.alloc (Go.Obj.cells #[.int .i64 t.1, .int .i64 t.2.1, .int .i64 t.2.2.1, .int .i64 t.2.2.2.1, .string ⟨t.2.2.2.2.1.toArray⟩, .string ⟨t.2.2.2.2.2.1.toArray⟩, .slice ua un uc] 72 (0, 0))) w4.heap.size f (.slice ta tn tc) ∧ FmtB (w5.alloc (Go.Obj.cells #[.int .i64 t.1, .int .i64 t.2.1, .int .i64 t.2.2.1, .int .i64 t.2.2.2.1, .string ⟨t.2.2.2.2.1.toArray⟩, .string ⟨t.2.2.2.2.2.1.toArray⟩, .slice ua un uc] 72 (0, 0))) w5.heap.size t (.slice ua un uc)) := ⟨(F4.out.step hb).step B5.out, heap_alloc_new w5 _⟩; clear hb G5 q5 L5; have f6 := (row7 F5.out.1).c6)
    | (go_at_call 61; refine (H61.out _ _ _ _ _ (M5.out.step B5.out) K5.out.1 B5.out K5.out.2.1).mono ?_; rintro e w6 ⟨rfl, hb⟩; have B6 : Aside (Below w5.heap.size w5 w6) := below_tr B5.out B5.out.size hb; have M6 : Aside (MigW w w6 o _ _ _) := M5.out.step B6.out; have F6 : Aside (_ ∧ _) := ⟨F5.out.1.step hb, F5.out.2.step hb⟩; clear hb f6)
    | (go_at_call 52; refine (H52.out _ _ M6.out).mono ?_; rintro e w7 ⟨rfl, hb⟩; have B7 : Aside (Below w5.heap.size w5 w7) := below_tr B6.out B6.out.size hb; have M7 : Aside (MigW w w7 o _ _ _) := M6.out.step hb; have F7 : Aside (_ ∧ _) := ⟨F6.out.1.step hb, F6.out.2.step hb⟩; clear hb; obtain ⟨z0, z1, z2, z3, z4, z5, z6, z7, y0, y1, y2, y3, y4, y5, y6, y7⟩ := row8 M7.out.ow.zb))
  (try simp only [Exit.inBlock, Exit.then])
  refine bodyPost_ret (results_row_tmp (fn := Tryz.f23) (p := 8) (u := 9) (ty := 32) rfl _ _ (w.heap.size + 1) _ rfl (run_loadVar_row _ (w.heap.size + 1) 32 32 _ (0, 0) _ (put8_row M7.out.ow.zb _ _ _ _ _ _ _ _) Tryz.underlying32 rfl (by kernel_rfl)) _ rfl) rfl ⟨rfl, put8_below M7.out.ow.b0 (by omega) _ _ _ _ _ _ _ _⟩
set_option maxHeartbeats 8000000 in
set_option maxRecDepth 100000 in
theorem walkMigrateE {S : Nat → Nat → Prop} (o : Obj) (l : List Fmt) (tg d : Int) (f t : Fmt) (r : List File) (h0 : objP o = 0) (h1 : lateP o d = 0) (hf1 : getF l (lastE o).1 = some f) (ht1 : getF l tg = some t) (hm : tg ∈ f.2.2.2.2.2.2) (hi : intactB (lastE o) = true)
    (E R : Int) (hcv : convR f t (lastE o).2.2.2.2 = (r, E)) (hR : (E ≠ 0 ∧ R = E) ∨ (E = 0 ∧ 8 ≤ (o.2.2.1.length : Int) ∧ R = 13) ∨ (E = 0 ∧ (o.2.2.1.length : Int) < 8 ∧ 64 ≤ (o.2.2.2.1.length : Int) ∧ R = 13)) (hF : FitM o l) (w : World) (hG : GT w) (hS : ∀ b o, S b o → b < w.heap.size)
    (ev hv lv : Value) (he : RepC Tryz.prog S w noOw (.sl none 63 (o.2.2.1.map (toV shEdn))) [ev]) (hh : RepC Tryz.prog S w noOw (.sl none 65 (o.2.2.2.1.map (toV shFix))) [hv]) (hl : RepC Tryz.prog S w noOw (.sl none 72 (l.map (toV shFmt))) [lv]) :
    Calls Tryz.prog 23 #[.agg (encO o ev hv).toArray, lv, .int .i64 tg, .int .i64 d] w fun e w' => e = .returned (.tuple #[.agg #[.int .i64 0, .int .i64 0, .slice none 0 0, .slice none 0 0, .int .i64 0, .int .i64 0, .int .i64 0, .int .i64 0], .int .i64 R]) ∧ Below w.heap.size w w' := by
  have hr := rightO_of h0
  have r1 := hr.e1
  have r8 := hr.e8
  obtain ⟨k, hk⟩ : ∃ k, o.2.2.1.length = k + 1 := ⟨o.2.2.1.length - 1, by omega⟩
  have hkl : k < o.2.2.1.length := by omega
  have hE : lastE o = o.2.2.1.getD k E0 := by unfold lastE; rw [hk]; rfl
  have ek1 : (o.2.2.1.length : Int) = (k : Int) + 1 := by omega
  rw [hE] at hf1 hi hcv
  have k7 : (k : Int) ≤ 7 := by omega
  have k0 : (0 : Int) ≤ (k : Int) := by omega
  have kl : (k : Int) < (o.2.2.1.length : Int) := by omega
  obtain ⟨cs, hcs, hrs⟩ := edns_at he
  obtain ⟨eb, eo, ec, -, rfl, -, -⟩ := edn_at he (i := 0) (by omega)
  obtain ⟨ha, hc, rfl⟩ := sl_form hh
  rw [lenX] at *
  obtain ⟨ga, gc, hEd, hfv⟩ := edn_at' he hkl
  obtain ⟨la, lc, rfl⟩ := sl_form hl
  rw [lenM] at hl ⊢
  have C := mig_c h0 h1 hk hf1 ht1 hm hi hcv hF hG hS he hh hl hfv hcs
  have H15 : Aside _ := C.h15
  have H51 : Aside _ := C.h51
  have H21 : Aside _ := C.h21
  have H60 : Aside _ := C.h60
  have H61 : Aside _ := C.h61
  have H52 : Aside _ := C.h52
  have H62 : Aside _ := C.h62
  have HX : Aside ((∀ b o, S b o → b < w.heap.size) ∧ RepC Tryz.prog S w noOw (.sl none 65 (o.2.2.2.1.map (toV shFix))) [(.slice ha o.2.2.2.1.length hc)] ∧ RepCs Tryz.prog S w noOw (o.2.2.1.map (toV shEdn)) cs ∧ EdnC w eb (eo + k * 5) (o.2.2.1.getD k E0) (.slice ga (o.2.2.1.getD k E0).2.2.2.2.length gc) ∧ getF l (o.2.2.1.getD k E0).1 = some f ∧ getF l tg = some t) := ⟨hS, hh, hrs, hEd, hf1, ht1⟩
  have R0' := obj_row8 (heap_alloc2_old w (Go.Obj.cells (encO o (.slice (some ⟨eb, eo, none⟩) o.2.2.1.length ec) (.slice ha o.2.2.2.1.length hc)).toArray 32 (0, 0)) (Go.Obj.cells #[.int .i64 0, .int .i64 0, .slice none 0 0, .slice none 0 0, .int .i64 0, .int .i64 0, .int .i64 0, .int .i64 0] 32 (0, 0)))
  unfold encO at H15 H51 H21 R0' ⊢
  unfold encM at H60 H62
  obtain ⟨z0, z1, z2, z3, z4, z5, z6, z7, y0, y1, y2, y3, y4, y5, y6, y7⟩ := R0'
  have HR : Aside _ := hR
  clear C he hh hr hS hG h0 h1 hf1 ht1 hm hi hF hcs hrs hEd hfv hl hE ek1 hkl hk r8 hcv hR
  have t1 := True.intro
  go_enter Tryz.func23, Tryz.ntmps23
  go_wp2_with (first
    | (go_at_call 15; refine (H15.out _ ObjW.start).mono ?_; rintro e w1 ⟨rfl, hb⟩; have H1 : Aside (ObjW w w1 o _ _) := ObjW.step ObjW.start hb; clear hb z0 z1 z2 z3 z4 z5 z6 z7 y0 y1 y2 y3 y4 y5 y6 y7; obtain ⟨z0, z1, z2, z3, z4, z5, z6, z7, y0, y1, y2, y3, y4, y5, y6, y7⟩ := obj_row8 H1.out.ob)
    | (go_at_call 51; refine (H51.out _ H1.out).mono ?_; rintro e w2 ⟨rfl, hb⟩; have H2 : Aside (ObjW w w2 o _ _) := ObjW.step H1.out hb; clear hb z0 z1 z2 z3 z4 z5 z6 z7 y0 y1 y2 y3 y4 y5 y6 y7; have M2 : Aside _ := MigW.start HX.out.1 HX.out.2.1 H2.out; obtain ⟨z0, z1, z2, z3, z4, z5, z6, z7, y0, y1, y2, y3, y4, y5, y6, y7⟩ := obj_row8 H2.out.ob; obtain ⟨x0, x1, x2, x3, x4, x5, x6, x7, -, -, -, -, -, -, -, -⟩ := obj_row8 ((heap_alloc_old w2 (Go.Obj.cells #[.int .i64 o.1, .int .i64 o.2.1, .slice (some ⟨eb, eo, none⟩) o.2.2.1.length ec, .slice ha o.2.2.2.1.length hc, .int .i64 o.2.2.2.2.1, .int .i64 o.2.2.2.2.2.1, .int .i64 o.2.2.2.2.2.2.1, .int .i64 o.2.2.2.2.2.2.2, .slice none 0 0] 78 (0, 0)) (Array.getElem?_eq_some_iff.1 H2.out.ob).1).trans H2.out.ob))
    | (go_at_call 21; refine (H21.out _ M2.out.ow).mono ?_; rintro e w3 ⟨rfl, hb⟩; have M3 : Aside (MigW w w3 o _ _ _) := M2.out.step hb; have G3 : Aside (MigS S S w w3 w2.heap.size) := ⟨fun b o h => Nat.lt_of_lt_of_le (HX.out.1 b o h) M3.out.ow.b0.size, fun _ _ h => h, fun _ _ h => .inl h⟩; clear hb z0 z1 z2 z3 z4 z5 z6 z7 y0 y1 y2 y3 y4 y5 y6 y7 x0 x1 x2 x3 x4 x5 x6 x7; have c2 := M3.out.a.c.c2; have p0 := (HX.out.2.2.2.1.below M3.out.ow.b0).c0)
    | (go_at_call 60; clear t1; refine (H60.out _ _ _ _ _ M3.out G3.out HX.out.2.2.2.2.1).mono ?_; rintro e w4 ⟨ta, tn, tc, rfl, hb, S4, G4, L4, q4⟩; have M4 : Aside (MigW w w4 o _ _ _) := M3.out.step hb; have K4 : Aside (_ ∧ _) := ⟨G4, q4⟩; clear hb G4 q4 L4 c2 p0; have B4 : Aside (Below w4.heap.size w4 (w4.alloc (Go.Obj.cells #[.int .i64 f.1, .int .i64 f.2.1, .int .i64 f.2.2.1, .int .i64 f.2.2.2.1, .string ⟨f.2.2.2.2.1.toArray⟩, .string ⟨f.2.2.2.2.2.1.toArray⟩, .slice ta tn tc] 72 (0, 0)))) := (Below.refl _ w4).alloc (Nat.le_refl _) _; have F4 : Aside (FmtB (w4.alloc (Go.Obj.cells #[.int .i64 f.1, .int .i64 f.2.1, .int .i64 f.2.2.1, .int .i64 f.2.2.2.1, .string ⟨f.2.2.2.2.1.toArray⟩, .string ⟨f.2.2.2.2.2.1.toArray⟩, .slice ta tn tc] 72 (0, 0))) w4.heap.size f (.slice ta tn tc)) := heap_alloc_new w4 _)
    | (go_at_call 60; refine (H60.out _ _ _ _ _ (M4.out.step B4.out) (K4.out.1.step B4.out.size) HX.out.2.2.2.2.2).mono ?_; rintro e w5 ⟨ua, un, uc, rfl, hb, S5, G5, L5, q5⟩; have M5 : Aside (MigW w w5 o _ _ _) := (M4.out.step B4.out).step hb; have K5 : Aside (MigS S S5 w w5 w2.heap.size ∧ RepC Tryz.prog S5 w5 noOw (.sl none 3 (f.2.2.2.2.2.2.map (toV (.int .i64)))) [.slice ta tn tc] ∧ _) := ⟨G5, (K4.out.2.mono ⟨fun _ _ h => h, fun b o h => B4.out.cell (p := ⟨b, o, none⟩) (K4.out.1.lt b o h), fun _ _ _ _ h => by cases h⟩).mono L5, q5⟩; have B5 : Aside (Below w5.heap.size w5 (w5.alloc (Go.Obj.cells #[.int .i64 t.1, .int .i64 t.2.1, .int .i64 t.2.2.1, .int .i64 t.2.2.2.1, .string ⟨t.2.2.2.2.1.toArray⟩, .string ⟨t.2.2.2.2.2.1.toArray⟩, .slice ua un uc] 72 (0, 0)))) := (Below.refl _ w5).alloc (Nat.le_refl _) _; have F5 : Aside (FmtB (w5.alloc (Go.Obj.cells #[.int .i64 t.1, .int .i64 t.2.1, .int .i64 t.2.2.1, .int .i64 t.2.2.2.1, .string ⟨t.2.2.2.2.1.toArray⟩, .string ⟨t.2.2.2.2.2.1.toArray⟩, .slice ua un uc] 72 (0, 0))) w4.heap.size f (.slice ta tn tc) ∧ FmtB (w5.alloc (Go.Obj.cells #[.int .i64 t.1, .int .i64 t.2.1, .int .i64 t.2.2.1, .int .i64 t.2.2.2.1, .string ⟨t.2.2.2.2.1.toArray⟩, .string ⟨t.2.2.2.2.2.1.toArray⟩, .slice ua un uc] 72 (0, 0))) w5.heap.size t (.slice ua un uc)) := ⟨(F4.out.step hb).step B5.out, heap_alloc_new w5 _⟩; clear hb G5 q5 L5; have f6 := (row7 F5.out.1).c6)
    | (go_at_call 61; refine (H61.out _ _ _ _ _ (M5.out.step B5.out) K5.out.1 B5.out K5.out.2.1).mono ?_; rintro e w6 ⟨rfl, hb⟩; have B6 : Aside (Below w5.heap.size w5 w6) := below_tr B5.out B5.out.size hb; have M6 : Aside (MigW w w6 o _ _ _) := M5.out.step B6.out; have F6 : Aside (_ ∧ _) := ⟨F5.out.1.step hb, F5.out.2.step hb⟩; clear hb f6)
    | (go_at_call 52; refine (H52.out _ _ M6.out).mono ?_; rintro e w7 ⟨rfl, hb⟩; have B7 : Aside (Below w5.heap.size w5 w7) := below_tr B6.out B6.out.size hb; have M7 : Aside (MigW w w7 o _ _ _) := M6.out.step hb; have F7 : Aside (_ ∧ _) := ⟨F6.out.1.step hb, F6.out.2.step hb⟩; clear hb; have c2 := M7.out.a.c.c2; have p4 := (HX.out.2.2.2.1.below M7.out.ow.b0).c4; obtain ⟨m0, m1, m2, m3, m4, m5, m6⟩ := row7 F7.out.1; obtain ⟨n0, n1, n2, n3, n4, n5, n6⟩ := row7 F7.out.2))
  have B8 : Aside (Below w5.heap.size w5 w7.drew) := below_tr B7.out B7.out.size (below_drew w7)
  have M8 : Aside (MigW w w7.drew o _ _ _) := M7.out.step (below_drew w7)
  go_region_held3 (fun w' => w'.cell? ⟨w2.heap.size, 2, none⟩ = some (.slice (some ⟨eb, eo, none⟩) o.2.2.1.length ec) ∧ w'.cell? ⟨eb, eo + k * 5 + 4, none⟩ = some (.slice ga (o.2.2.1.getD k E0).2.2.2.2.length gc) ∧ w'.cell? ⟨w4.heap.size, 0, none⟩ = some (.int .i64 f.1) ∧ w'.cell? ⟨w4.heap.size, 1, none⟩ = some (.int .i64 f.2.1) ∧ w'.cell? ⟨w4.heap.size, 2, none⟩ = some (.int .i64 f.2.2.1) ∧ w'.cell? ⟨w4.heap.size, 3, none⟩ = some (.int .i64 f.2.2.2.1) ∧ w'.cell? ⟨w4.heap.size, 4, none⟩ = some (.string ⟨f.2.2.2.2.1.toArray⟩) ∧ w'.cell? ⟨w4.heap.size, 5, none⟩ = some (.string ⟨f.2.2.2.2.2.1.toArray⟩) ∧ w'.cell? ⟨w4.heap.size, 6, none⟩ = some (.slice ta tn tc) ∧ w'.cell? ⟨w5.heap.size, 0, none⟩ = some (.int .i64 t.1) ∧ w'.cell? ⟨w5.heap.size, 1, none⟩ = some (.int .i64 t.2.1) ∧ w'.cell? ⟨w5.heap.size, 2, none⟩ = some (.int .i64 t.2.2.1) ∧ w'.cell? ⟨w5.heap.size, 3, none⟩ = some (.int .i64 t.2.2.2.1) ∧ w'.cell? ⟨w5.heap.size, 4, none⟩ = some (.string ⟨t.2.2.2.2.1.toArray⟩) ∧ w'.cell? ⟨w5.heap.size, 5, none⟩ = some (.string ⟨t.2.2.2.2.2.1.toArray⟩) ∧ w'.cell? ⟨w5.heap.size, 6, none⟩ = some (.slice ua un uc))
    (first | exact ⟨c2, p4, m0, m1, m2, m3, m4, m5, m6, n0, n1, n2, n3, n4, n5, n6⟩ | exact ⟨d2, d4, Q1.c0, Q1.c1, Q1.c2, Q1.c3, Q1.c4, Q1.c5, Q1.c6, Q2.c0, Q2.c1, Q2.c2, Q2.c3, Q2.c4, Q2.c5, Q2.c6⟩)
    (first
    | (go_at_call 62; refine (H62.out _ _ _ _ _ M8.out (K5.out.1.step B8.out.size) (K5.out.2.1.mono (le_below K5.out.1.lt B8.out)) (K5.out.2.2.mono (le_below K5.out.1.lt B8.out))).mono ?_; rintro e w9 ⟨ra, rc, rfl, hb, S9, G9, q9⟩; have M9 : Aside (MigW w w9 o _ _ _) := M8.out.step hb; have K9 : Aside (_ ∧ _) := ⟨G9, q9⟩; have Q1 := row7 ((F7.out.1.step (below_drew w7)).step hb); have Q2 := row7 ((F7.out.2.step (below_drew w7)).step hb); have d4 := (HX.out.2.2.2.1.below M9.out.ow.b0).c4; have d2 := M9.out.a.c.c2; clear hb G9 q9; have d3 := M9.out.a.c.c3; have R1 := row8 M9.out.ow.zb)
    | fail)
  all_goals (try clear c2 p4 m0 m1 m2 m3 m4 m5 m6 n0 n1 n2 n3 n4 n5 n6 Q1 Q2 d4)
  obtain ⟨z0, z1, z2, z3, z4, z5, z6, z7, y0, y1, y2, y3, y4, y5, y6, y7⟩ := R1
  have hbb := M9.out.ow.b0
  rcases HR.out with ⟨hE0, rfl⟩ | ⟨rfl, l8, rfl⟩ | ⟨rfl, l8, l64, rfl⟩
  all_goals go_wp2
  all_goals
    (try simp only [Exit.inBlock, Exit.then])
    refine bodyPost_ret (results_row_tmp (fn := Tryz.f23) (p := 8) (u := 9) (ty := 32) rfl _ _ (w.heap.size + 1) _ rfl (run_loadVar_row _ (w.heap.size + 1) 32 32 _ (0, 0) _ (put8_row M9.out.ow.zb _ _ _ _ _ _ _ _) Tryz.underlying32 rfl (by kernel_rfl)) _ rfl) rfl ⟨rfl, put8_below M9.out.ow.b0 (by omega) _ _ _ _ _ _ _ _⟩
end Go.Proofs.YtecjedagdpnemaaGreatDoor
