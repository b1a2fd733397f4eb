/-
  preserve.Check walked where it checks an object: the walk. No condition beyond what each line says.
-/
import Derived.Test.YtecjedagdpnemaaGreatDoorH9
namespace Go.Proofs.YtecjedagdpnemaaGreatDoor
open Go Go.Nu Go.RowKit Go.Sort
set_option linter.unusedVariables false
theorem results_row_tmp2 {fn : Func} {p u u2 : Tmp} {ty : TypeId} (h : fn.results = #[.cell p ty, .tmp u, .tmp u2]) (tmps : Array Value) (w : World) (g : Nat) (cs : Array Value)
    (hp : tmps.getD p undef = .pointer (some ⟨g, 0, none⟩)) (hr : (loadVar ty ⟨g, 0, none⟩).run Tryz.prog w = .ok (.agg cs) w) (v v2 : Value) (hv : tmps.getD u undef = v) (hv2 : tmps.getD u2 undef = v2) :
    (results fn tmps).run Tryz.prog w = .ok (.tuple #[.agg cs, v, v2]) w := by
  have hp' : tmps[p]?.getD undef = .pointer (some ⟨g, 0, none⟩) := by simpa using hp
  have hv' : tmps[u]?.getD undef = v := by simpa using hv
  have hv2' : tmps[u2]?.getD undef = v2 := by simpa using hv2
  simp [results, h, hp', hv', hv2', asAddr, hr, Result.andThen, Sem.run_bind]
structure Row5 (W : World) (k : Nat) (a0 a1 a2 a3 a4 : Value) : Prop where
  c0 : W.cell? ⟨k, 0, none⟩ = some a0
  c1 : W.cell? ⟨k, 1, none⟩ = some a1
  c2 : W.cell? ⟨k, 2, none⟩ = some a2
  c3 : W.cell? ⟨k, 3, none⟩ = some a3
  c4 : W.cell? ⟨k, 4, none⟩ = some a4
  f0 : W.frozen? ⟨k, 0, none⟩ = false
  f1 : W.frozen? ⟨k, 1, none⟩ = false
  f2 : W.frozen? ⟨k, 2, none⟩ = false
  f3 : W.frozen? ⟨k, 3, none⟩ = false
  f4 : W.frozen? ⟨k, 4, none⟩ = false
theorem edn_at' {S : Nat → Nat → Prop} {w : World} {l : List Edn} {eb eo ec : Nat} (h : RepC Tryz.prog S w noOw (.sl none 63 (l.map (toV shEdn))) [.slice (some ⟨eb, eo, none⟩) l.length ec]) {i : Nat} (hi : i < l.length) :
    ∃ fa fc, EdnC w eb (eo + i * 5) (l.getD i E0) (.slice fa (l.getD i E0).2.2.2.2.length fc) ∧ RepC Tryz.prog S w noOw (.sl none 70 ((l.getD i E0).2.2.2.2.map (toV shFile))) [.slice fa (l.getD i E0).2.2.2.2.length fc] := by
  obtain ⟨b, o, cap, fv, e, h1, h2⟩ := edn_at h hi
  cases e
  obtain ⟨fa, fc, rfl⟩ := sl_form h2
  rw [lenF] at *
  exact ⟨fa, fc, h1, h2⟩
theorem EdnC.below {w W : World} {b o : Nat} {x : Edn} {fv : Value} (h : EdnC w b o x fv) (hb : Below w.heap.size w W) : EdnC W b o x fv := by
  have hlt : b < w.heap.size := World.block_lt_of_cell? w _ h.c0
  exact ⟨(hb.cell (p := ⟨b, _, none⟩) hlt).trans h.c0, (hb.cell (p := ⟨b, _, none⟩) hlt).trans h.c1, (hb.cell (p := ⟨b, _, none⟩) hlt).trans h.c2, (hb.cell (p := ⟨b, _, none⟩) hlt).trans h.c3, (hb.cell (p := ⟨b, _, none⟩) hlt).trans h.c4⟩
theorem obj_row8 {W : World} {k : Nat} {o : Obj} {ev hv : Value} (h : W.heap[k]? = some (.cells (encO o ev hv).toArray 32 (0, 0))) : Row8 W k (.int .i64 o.1) (.int .i64 o.2.1) ev hv (.int .i64 o.2.2.2.2.1) (.int .i64 o.2.2.2.2.2.1) (.int .i64 o.2.2.2.2.2.2.1) (.int .i64 o.2.2.2.2.2.2.2) := row8 h
theorem chk_start {S : Nat → Nat → Prop} {o : Obj} {d : Int} {ev hv : Value} {w w5 : World} (hf : FitO o) (hr : RightO o) (hS : ∀ b o, S b o → b < w.heap.size) (hh : RepC Tryz.prog S w noOw (.sl none 65 (o.2.2.2.1.map (toV shFix))) [hv]) (H : ObjW w w5 o ev hv) :
    ChkI o d ev hv w5.heap.size w (w5.alloc (Go.Obj.cells (aCells o.1 o.2.1 ev hv o.2.2.2.2 (.slice none 0 0)) 78 (0, 0))) 0 0 (.slice none 0 0) (.slice none 0 0) [] := by
  have hb := H.b0.alloc H.b0.size (Go.Obj.cells (aCells o.1 o.2.1 ev hv o.2.2.2.2 (.slice none 0 0)) 78 (0, 0))
  have hz := (Array.getElem?_eq_some_iff.1 H.zb).1
  obtain ⟨a1, a2⟩ := his_at hh
  refine ⟨hb, (heap_alloc_old w5 _ hz).trans H.zb, hz, ⟨heap_alloc_new w5 _, a1.below hb, fun hn g hg => ?_, World.ownsRow_nil _ _ _ _⟩, World.ownsRow_nil _ _ _ _, by rw [List.append_nil]; rfl, rfl, fun y hy => hr.inx hf y (by simpa using hy)⟩
  obtain ⟨k, hk⟩ := a2 hn g hg
  have := hS g k hk
  have := H.b0.size
  omega
theorem chk_end {S : Nat → Nat → Prop} {o : Obj} {d : Int} {ev hv : Value} {b : Nat} {w W W6 : World} {bv av v6 : Value} {l : List Fix} (hS : ∀ b o, S b o → b < w.heap.size) (I : ChkI o d ev hv b w W o.2.2.1.length o.2.2.1.length bv av l) (h6 : Below W.heap.size W W6)
    (ho : W6.ownsRow W.heap.size 65 6 v6 (o.2.2.2.1.length + l.length) (o.2.2.2.1.flatMap encX ++ l.flatMap encX)) (a0 a1 a2 a3 a4 a5 a6 a7 : Value) :
    W6.heap[w.heap.size + 1]? = some (.cells zero8 32 (0, 0)) ∧ Below w.heap.size w (put8 W6 (w.heap.size + 1) a0 a1 a2 a3 a4 a5 a6 a7) ∧
      RepC Tryz.prog (grow S w (put8 W6 (w.heap.size + 1) a0 a1 a2 a3 a4 a5 a6 a7)) (put8 W6 (w.heap.size + 1) a0 a1 a2 a3 a4 a5 a6 a7) noOw (.sl none 65 ((checkG d 0 o.2.2.1 o).2.2.2.1.map (toV shFix))) [v6] ∧
      RepC Tryz.prog (grow S w (put8 W6 (w.heap.size + 1) a0 a1 a2 a3 a4 a5 a6 a7)) (put8 W6 (w.heap.size + 1) a0 a1 a2 a3 a4 a5 a6 a7) noOw (.sl none 3 ((badG 0 o.2.2.1).map (toV (.int .i64)))) [bv] := by
  have I6 := I.step h6
  have hb := I.bb
  have hs := I.b0.size
  have hbW := (Array.getElem?_eq_some_iff.1 I.a.blk).1
  have hl := I.hl
  have hbd := I6.bd
  rw [List.take_length] at hl hbd
  rw [← List.length_append, ← List.flatMap_append, hl] at ho
  refine ⟨I6.zb, put8_below I6.b0 (by omega) _ _ _ _ _ _ _ _, ?_, ?_⟩
  · exact his_rep (put8_own ho (by omega) _ _ _ _ _ _ _ _) fun k o h1 h2 => .inr ⟨by omega, h2⟩
  · exact ints_rep (put8_own hbd (by omega) _ _ _ _ _ _ _ _) fun k o h1 h2 => .inr ⟨by omega, h2⟩
set_option maxHeartbeats 2000000 in
set_option maxRecDepth 100000 in
theorem walkCheck {S : Nat → Nat → Prop} (o : Obj) (d : Int) (h0 : objP o = 0) (h1 : lateP o d = 0) (h2 : ¬ 64 < o.2.2.2.1.length + o.2.2.1.length) (hf : FitO o) (w : World) (hG : GT w) (hS : ∀ b o, S b o → b < w.heap.size)
    (ev hv : Value) (he : RepC Tryz.prog S w noOw (.sl none 63 (o.2.2.1.map (toV shEdn))) [ev]) (hh : RepC Tryz.prog S w noOw (.sl none 65 (o.2.2.2.1.map (toV shFix))) [hv]) :
    Calls Tryz.prog 17 #[.agg (encO o ev hv).toArray, .int .i64 d] w fun e w' => ∃ hv' bv, e = .returned (.tuple #[.agg #[.int .i64 o.1, .int .i64 o.2.1, ev, hv', .int .i64 o.2.2.2.2.1, .int .i64 o.2.2.2.2.2.1, .int .i64 o.2.2.2.2.2.2.1, .int .i64 o.2.2.2.2.2.2.2], bv, .int .i64 0]) ∧ Below w.heap.size w w' ∧
      RepC Tryz.prog (grow S w w') w' noOw (.sl none 65 ((checkG d 0 o.2.2.1 o).2.2.2.1.map (toV shFix))) [hv'] ∧ RepC Tryz.prog (grow S w w') w' noOw (.sl none 3 ((badG 0 o.2.2.1).map (toV (.int .i64)))) [bv] := by
  have hr := rightO_of h0
  have r1 := hr.e1
  have r8 := hr.e8
  have r64 := hr.h64
  obtain ⟨eb, eo, ec, -, rfl, -, -⟩ := edn_at he (i := 0) (by omega)
  obtain ⟨ha, hc, rfl⟩ := sl_form hh
  rw [lenX] at *
  have H15 : Aside (∀ w1, ObjW w w1 o (.slice (some ⟨eb, eo, none⟩) o.2.2.1.length ec) (.slice ha o.2.2.2.1.length hc) → Calls Tryz.prog 15 #[.agg (encO o (.slice (some ⟨eb, eo, none⟩) o.2.2.1.length ec) (.slice ha o.2.2.2.1.length hc)).toArray] w1 fun e w' => e = .returned (.int .i64 0) ∧ Below w1.heap.size w1 w') := fun w1 hw => by
    have := call15 o hf (obj_rep he hh) hS w1 hw.b0 (keepsGT _ _ hG hw.b0)
    rwa [h0] at this
  have H51 : Aside (∀ w1, ObjW w w1 o (.slice (some ⟨eb, eo, none⟩) o.2.2.1.length ec) (.slice ha o.2.2.2.1.length hc) → Calls Tryz.prog 51 #[.agg (encO o (.slice (some ⟨eb, eo, none⟩) o.2.2.1.length ec) (.slice ha o.2.2.2.1.length hc)).toArray, .int .i64 d] w1 fun e w' => e = .returned (.int .i64 0) ∧ Below w1.heap.size w1 w') := fun w1 hw => by
    have := call51 o d hf (obj_rep he hh) hS w1 hw.b0 (keepsGT _ _ hG hw.b0)
    rwa [h1] at this
  have HR : Aside (∀ i, i < o.2.2.1.length → ∃ fa fc, EdnC w eb (eo + i * 5) (o.2.2.1.getD i E0) (.slice fa (o.2.2.1.getD i E0).2.2.2.2.length fc) ∧ ∀ W, Below w.heap.size w W → Calls Tryz.prog 40 #[.slice fa (o.2.2.1.getD i E0).2.2.2.2.length fc] W fun e w' => e = .returned (.string ⟨(rootP (o.2.2.1.getD i E0).2.2.2.2).toArray⟩) ∧ Below W.heap.size W w') := fun i hi => by
    obtain ⟨fa, fc, q1, q2⟩ := edn_at' he hi
    exact ⟨fa, fc, q1, fun W hW => call40 _ (hf.el _ (getD_mem E0 hi)).2 _ q2 hS W hW (keepsGT _ _ hG hW)⟩
  have HIn : Aside (∀ i, i < o.2.2.1.length → ∀ W b, Below w.heap.size w W → W.cell? ⟨b, 2, none⟩ = some (.slice (some ⟨eb, eo, none⟩) o.2.2.1.length ec) → Calls Tryz.prog 52 #[.pointer (some ⟨b, 0, none⟩), .int .i64 (i : Int)] W fun e w' => e = .returned (.bool (intactB (o.2.2.1.getD i E0))) ∧ Below W.heap.size W w') := fun i hi W b hb hc =>
    walkIntact hS he hb (keepsGT _ _ hG hb) hc i hi (hf.el _ (getD_mem E0 hi)).2
  have HAd : Aside (∀ W b i j bv av l, ChkI o d (.slice (some ⟨eb, eo, none⟩) o.2.2.1.length ec) (.slice ha o.2.2.2.1.length hc) b w W i j bv av l → i < o.2.2.1.length →
      Calls Tryz.prog 42 #[.pointer (some ⟨b, 0, none⟩), .agg #[.int .i64 d, .int .i64 2, .int .i64 (i : Int), .string ⟨(rootP (o.2.2.1.getD i E0).2.2.2.2).toArray⟩, .string ⟨#[]⟩, .bool (intactB (o.2.2.1.getD i E0))]] W fun e w' => e = .returned (.tuple #[]) ∧ ∃ av' l', ChkI o d (.slice (some ⟨eb, eo, none⟩) o.2.2.1.length ec) (.slice ha o.2.2.2.1.length hc) b w w' (i + 1) j bv av' l') := fun W b i j bv av l I hi => by
    have hi2 : inR (i : Int) := by unfold inR; omega
    refine (walkAdd W (keepsGT _ _ hG I.b0) I.a (d, 2, i, rootP (o.2.2.1.getD i E0).2.2.2.2, [], intactB (o.2.2.1.getD i E0)) ⟨day_in (late_day h1), show inR 2 by unfold inR; omega, hi2, by rw [root_len]; omega, by simp⟩ (by omega) (by rw [I.li]; omega) I.inx).mono ?_
    rintro e w' ⟨rfl, av', h1', h2'⟩
    exact ⟨rfl, av', _, I.add hi (day_in (late_day h1)) (by omega) h1' h2'⟩
  have HX : Aside (FitO o ∧ RightO o ∧ (∀ b o, S b o → b < w.heap.size) ∧ RepC Tryz.prog S w noOw (.sl none 65 (o.2.2.2.1.map (toV shFix))) [.slice ha o.2.2.2.1.length hc]) := ⟨hf, hr, hS, hh⟩
  have h2' : ¬ ((64 : Int) < (o.2.2.2.1.length : Int) + (o.2.2.1.length : Int)) := by omega
  have hw2 : wrap64 ((o.2.2.2.1.length : Int) + (o.2.2.1.length : Int)) = (o.2.2.2.1.length : Int) + (o.2.2.1.length : Int) := by unfold wrap64; omega
  have R0 := obj_row8 (heap_alloc2_old w (Go.Obj.cells (encO o (.slice (some ⟨eb, eo, none⟩) o.2.2.1.length ec) (.slice ha o.2.2.2.1.length hc)).toArray 32 (0, 0)) (Go.Obj.cells #[.int .i64 0, .int .i64 0, .slice none 0 0, .slice none 0 0, .int .i64 0, .int .i64 0, .int .i64 0, .int .i64 0] 32 (0, 0)))
  unfold encO at H15 H51 R0 ⊢
  obtain ⟨z0, z1, z2, z3, z4, z5, z6, z7, y0, y1, y2, y3, y4, y5, y6, y7⟩ := R0
  clear he hh hf hr hS hG h0 h1 h2
  go_enter Tryz.func17, Tryz.ntmps17
  go_wp2_with (first
    | (go_at_call 15; refine (H15.out _ ObjW.start).mono ?_; rintro e w1 ⟨rfl, hb⟩; have H : Aside (ObjW w w1 o _ _) := ObjW.step ObjW.start hb; clear hb z0 z1 z2 z3 z4 z5 z6 z7 y0 y1 y2 y3 y4 y5 y6 y7; obtain ⟨z0, z1, z2, z3, z4, z5, z6, z7, y0, y1, y2, y3, y4, y5, y6, y7⟩ := obj_row8 H.out.ob)
    | (go_at_call 51; refine (H51.out _ H.out).mono ?_; rintro e w5 ⟨rfl, hb⟩; have H5 : Aside (ObjW w w5 o _ _) := ObjW.step H.out hb; clear hb z0 z1 z2 z3 z4 z5 z6 z7 y0 y1 y2 y3 y4 y5 y6 y7; obtain ⟨z0, z1, z2, z3, z4, z5, z6, z7, y0, y1, y2, y3, y4, y5, y6, y7⟩ := obj_row8 H5.out.ob; have q2 := cell_of_row _ _ 2 _ _ _ (heap_alloc_new w5 (Go.Obj.cells #[.int .i64 o.1, .int .i64 o.2.1, .slice (some ⟨eb, eo, none⟩) o.2.2.1.length ec, .slice ha o.2.2.2.1.length hc, .int .i64 o.2.2.2.2.1, .int .i64 o.2.2.2.2.2.1, .int .i64 o.2.2.2.2.2.2.1, .int .i64 o.2.2.2.2.2.2.2, .slice none 0 0] 78 (0, 0)))))
  go_loopg [8, 41] o.2.2.1.length (fun gg s8 s41 wr => ∃ (i : Nat) (bv av : Value) (l : List Fix), s8 = bv ∧ s41 = .int .i64 i ∧ o.2.2.1.length - i ≤ gg ∧ i ≤ o.2.2.1.length ∧ Aside (ChkI o d (.slice (some ⟨eb, eo, none⟩) o.2.2.1.length ec) (.slice ha o.2.2.2.1.length hc) w5.heap.size w wr i i bv av l))
  case atStart => exact ⟨0, _, _, [], rfl, rfl, by omega, by omega, (show Aside _ from chk_start HX.out.1 HX.out.2.1 HX.out.2.2.1 HX.out.2.2.2 H5.out)⟩
  case round =>
    obtain ⟨i, bv, av, l, rfl, rfl, hgg, hil, I⟩ := hrel
    by_cases hlt : i < o.2.2.1.length
    · have hltz : (i : Int) < (o.2.2.1.length : Int) := by omega
      obtain ⟨fa, fc, hE, hR⟩ := HR.out i hlt
      have K40 : Aside _ := hR
      have K52 : Aside _ := HIn.out i hlt
      have K42 : Aside _ := fun W j bv av l I => HAd.out W w5.heap.size i j bv av l I hlt
      obtain ⟨p0, p1, p2, p3, p4⟩ := hE.below I.out.b0
      have HQ : Aside (∀ q, intactB (o.2.2.1.getD i E0) = q → intactB (o.2.2.1.getD i E0) = q) := fun q h => h
      clear hE hR
      have HP : Aside (∀ ob, ChkI o d (.slice (some ⟨eb, eo, none⟩) o.2.2.1.length ec) (.slice ha o.2.2.2.1.length hc) w5.heap.size w (wr.alloc ob) i i u8 av l) := fun _ => I.out.step ((Below.refl _ wr).alloc (Nat.le_refl _) _)
      have t1 := True.intro
      cases hB : intactB (o.2.2.1.getD i E0)
      · have HB : Aside (intactB (o.2.2.1.getD i E0) = false) := hB
        rw [hB] at K52 K42
        clear hB HQ
        generalize o.2.2.1.getD i E0 = x at p0 p1 p2 p3 p4 K40 K52 K42
        generalize (⟨(rootP x.2.2.2.2).toArray⟩ : ByteArray) = R0 at K40 K42
        go_wp2_with (first
          | (go_at_call 40; refine (K40.out _ (HP.out (Go.Obj.cells #[.int .i64 x.1, .int .i64 x.2.1, .int .i64 x.2.2.1, .string ⟨x.2.2.2.1.toArray⟩, .slice fa x.2.2.2.2.length fc] 63 (0, 0))).b0).mono ?_; rintro e w6 ⟨rfl, hb⟩; have I6 : Aside _ := (HP.out (Go.Obj.cells #[.int .i64 x.1, .int .i64 x.2.1, .int .i64 x.2.2.1, .string ⟨x.2.2.2.1.toArray⟩, .slice fa x.2.2.2.2.length fc] 63 (0, 0))).step hb; clear hb p0 p1 p2 p3 p4)
          | (go_at_call 52; clear t1; refine (K52.out _ _ I6.out.b0 I6.out.a.c.c2).mono ?_; rintro e w7 ⟨rfl, hb⟩; have I7 : Aside _ := I6.out.step hb; clear hb)
          | (go_at_call 42; refine (K42.out _ _ _ _ _ I7.out).mono ?_; rintro e w8 ⟨rfl, av8, l8, I8⟩; have I8 : Aside _ := I8)
          | (go_at_call 52; refine (K52.out _ _ I8.out.b0 I8.out.a.c.c2).mono ?_; rintro e w9 ⟨rfl, hb⟩; have I9 : Aside _ := I8.out.step hb; clear hb; obtain ⟨bv9, w10, hr9, ho9, hg9⟩ := app_int u8 _ _ w9 (w5.heap.size + 1) (Array.getElem?_eq_some_iff.1 I9.out.a.blk).1 I9.out.bd (i : Int) (Nat.le_trans (badG_len _ _) (by rw [List.length_take]; omega)); have I10 : Aside _ := I9.out.app hlt HB.out ho9 hg9; clear ho9 hg9)
          | (at_builtin; refine Lib.wpList_append_run _ rfl _ _ _ _ rfl _ _ rfl rfl _ _ hr9 ?_))
        go_roundg (o.2.2.1.length - (i + 1))
        case measure => omega
        case rel => exact ⟨i + 1, _, av8, l8, rfl, by go_num, Nat.le_refl _, by omega, I10⟩
      · have HB : Aside (intactB (o.2.2.1.getD i E0) = true) := hB
        rw [hB] at K52 K42
        clear hB HQ
        generalize o.2.2.1.getD i E0 = x at p0 p1 p2 p3 p4 K40 K52 K42
        generalize (⟨(rootP x.2.2.2.2).toArray⟩ : ByteArray) = R0 at K40 K42
        go_wp2_with (first
          | (go_at_call 40; refine (K40.out _ (HP.out (Go.Obj.cells #[.int .i64 x.1, .int .i64 x.2.1, .int .i64 x.2.2.1, .string ⟨x.2.2.2.1.toArray⟩, .slice fa x.2.2.2.2.length fc] 63 (0, 0))).b0).mono ?_; rintro e w6 ⟨rfl, hb⟩; have I6 : Aside _ := (HP.out (Go.Obj.cells #[.int .i64 x.1, .int .i64 x.2.1, .int .i64 x.2.2.1, .string ⟨x.2.2.2.1.toArray⟩, .slice fa x.2.2.2.2.length fc] 63 (0, 0))).step hb; clear hb p0 p1 p2 p3 p4)
          | (go_at_call 52; clear t1; refine (K52.out _ _ I6.out.b0 I6.out.a.c.c2).mono ?_; rintro e w7 ⟨rfl, hb⟩; have I7 : Aside _ := I6.out.step hb; clear hb)
          | (go_at_call 42; refine (K42.out _ _ _ _ _ I7.out).mono ?_; rintro e w8 ⟨rfl, av8, l8, I8⟩; have I8 : Aside _ := I8)
          | (go_at_call 52; refine (K52.out _ _ I8.out.b0 I8.out.a.c.c2).mono ?_; rintro e w9 ⟨rfl, hb⟩; have I9 : Aside _ := (I8.out.step hb).skip hlt HB.out; clear hb))
        go_roundg (o.2.2.1.length - (i + 1))
        case measure => omega
        case rel => exact ⟨i + 1, _, av8, l8, rfl, by go_num, Nat.le_refl _, by omega, I9⟩
    · obtain rfl : i = o.2.2.1.length := by omega
      have hltz : ¬ (o.2.2.1.length : Int) < (o.2.2.1.length : Int) := by omega
      go_wp2_with (go_at_call 43; refine (walkDone _ I.out.a (Nat.le_trans HX.out.2.1.h64 (by omega)) (by rw [I.out.li]; have := HX.out.2.1.e8; omega)).mono ?_; rintro e w6 ⟨v6, rfl, ho6, hb6⟩; have E6 : Aside _ := chk_end HX.out.2.2.1 I.out hb6 ho6; obtain ⟨a6, c6, rfl⟩ := own_form ho6; have R1 := row8 (E6.out (.bool true) (.bool true) (.bool true) (.bool true) (.bool true) (.bool true) (.bool true) (.bool true)).1; clear ho6 hb6; obtain ⟨z0, z1, z2, z3, z4, z5, z6, z7, y0, y1, y2, y3, y4, y5, y6, y7⟩ := R1)
      (try simp only [Exit.inBlock, Exit.then])
      have hz := (E6.out (.bool true) (.bool true) (.bool true) (.bool true) (.bool true) (.bool true) (.bool true) (.bool true)).1
      refine bodyPost_ret (results_row_tmp2 (fn := Tryz.f17) (p := 4) (u := 5) (u2 := 6) (ty := 32) rfl _ _ (w.heap.size + 1) _ rfl (run_loadVar_row _ (w.heap.size + 1) 32 32 _ (0, 0) _ (put8_row hz _ _ _ _ _ _ _ _) Tryz.underlying32 rfl (by kernel_rfl)) _ _ rfl rfl) rfl ⟨_, _, rfl, ?_, ?_, ?_⟩
      · exact (E6.out _ _ _ _ _ _ _ _).2.1
      · exact (E6.out _ _ _ _ _ _ _ _).2.2.1
      · exact (E6.out _ _ _ _ _ _ _ _).2.2.2
end Go.Proofs.YtecjedagdpnemaaGreatDoor
