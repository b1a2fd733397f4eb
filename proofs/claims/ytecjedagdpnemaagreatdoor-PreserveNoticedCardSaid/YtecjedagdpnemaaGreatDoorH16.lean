/-
  preserve.Migrate walked where it adds an edition. No condition beyond what each line says.
-/
import Derived.Test.YtecjedagdpnemaaGreatDoorH15
import Derived.Deep.RegionHeld3
namespace Go.Proofs.YtecjedagdpnemaaGreatDoor
open Go Go.Nu Go.RowKit Go.Sort
set_option linter.unusedVariables false
theorem lenM (l : List Fmt) : (l.map (toV shFmt)).length = l.length := List.length_map _
structure Row7 (W : World) (k : Nat) (f : Fmt) (tv : Value) : Prop where
  c0 : W.cell? ⟨k, 0, none⟩ = some (.int .i64 f.1)
  c1 : W.cell? ⟨k, 1, none⟩ = some (.int .i64 f.2.1)
  c2 : W.cell? ⟨k, 2, none⟩ = some (.int .i64 f.2.2.1)
  c3 : W.cell? ⟨k, 3, none⟩ = some (.int .i64 f.2.2.2.1)
  c4 : W.cell? ⟨k, 4, none⟩ = some (.string ⟨f.2.2.2.2.1.toArray⟩)
  c5 : W.cell? ⟨k, 5, none⟩ = some (.string ⟨f.2.2.2.2.2.1.toArray⟩)
  c6 : W.cell? ⟨k, 6, none⟩ = some tv
theorem row7 {W : World} {k : Nat} {f : Fmt} {tv : Value} (h : W.heap[k]? = some (.cells (encM f tv).toArray 72 (0, 0))) : Row7 W k f tv := by
  have h1 := fun o => cell_of_row _ _ o _ _ _ h
  exact ⟨h1 0, h1 1, h1 2, h1 3, h1 4, h1 5, h1 6⟩
def FmtB (W : World) (k : Nat) (f : Fmt) (tv : Value) : Prop := W.heap[k]? = some (.cells (encM f tv).toArray 72 (0, 0))
theorem FmtB.step {W W1 : World} {k : Nat} {f : Fmt} {tv : Value} (h : FmtB W k f tv) (hb : Below W.heap.size W W1) : FmtB W1 k f tv := (hb.block k (Array.getElem?_eq_some_iff.1 h).1).trans h
theorem mig62e {S : Nat → Nat → Prop} {w : World} {o : Obj} {ev hv fv tv uv : Value} (l r : List File) (E : Int) (f t : Fmt) (ht : t.2.2.2.2.2.1.length ≤ 10000) (hl : FitC l) (hr : convR f t l = (r, E)) (hG : GT w) (hS : ∀ b o, S b o → b < w.heap.size) (hfv : RepC Tryz.prog S w noOw (.sl none 70 (l.map (toV shFile))) [fv])
    (W : World) (ab : Nat) (Sc : Nat → Nat → Prop) (hw : MigW w W o ev hv ab) (hs : MigS S Sc w W ab) (q1 : RepC Tryz.prog Sc W noOw (.sl none 3 (f.2.2.2.2.2.2.map (toV (.int .i64)))) [tv]) (q2 : RepC Tryz.prog Sc W noOw (.sl none 3 (t.2.2.2.2.2.2.map (toV (.int .i64)))) [uv]) :
    Calls Tryz.prog 62 #[fv, .agg (encM f tv).toArray, .agg (encM t uv).toArray] W fun e w' => ∃ ra rc, e = .returned (.tuple #[.slice ra r.length rc, .int .i64 E]) ∧ Below W.heap.size W w' ∧ ∃ S' : Nat → Nat → Prop, MigS S S' w w' ab ∧ RepC Tryz.prog S' w' noOw (.sl none 70 (r.map (toV shFile))) [.slice ra r.length rc] := by
  have hle : Le S Sc noOw noOw w W := ⟨hs.sub, fun b o h => hw.ow.b0.cell (p := ⟨b, o, none⟩) (hS b o h), fun _ _ _ _ h => by cases h⟩
  have hG2 := keepsGT _ _ hG hw.ow.b0
  have hm := hfv.mono hle
  have h := c62 l f t ht hl
  rw [hr] at h
  refine (k62.sim rfl (l, f, t) _ h W Sc [_, _, _] hG2 hs.lt ⟨hm, fmt_rep q1, fmt_rep q2, trivial⟩).mono ?_
  rintro e w' ⟨c, rfl, hb, S', h1, h2, cs, rfl, hc⟩
  rcases cs with _ | ⟨c1, _ | ⟨c2, _ | ⟨c3, cs⟩⟩⟩
  · exact hc.elim
  · exact hc.2.elim
  · have h3 : RepC Tryz.prog S' w' noOw (.sl none 70 (r.map (toV shFile))) [c1] := hc.1
    have hb2 : RepC Tryz.prog S' w' noOw (.int .i64 E) [c2] := hc.2.1
    cases int_inv hb2
    obtain ⟨ra, rc, rfl⟩ := sl_form h3
    rw [lenF] at *
    exact ⟨ra, rc, rfl, hb, S', hs.call hw hb.size h1 h2, h3⟩
  · exact hc.2.2.elim
structure MigC (S : Nat → Nat → Prop) (w : World) (o : Obj) (l : List Fmt) (tg d : Int) (f t : Fmt) (r : List File) (E : Int) (q : Bool) (k : Nat) (ev hv lv fv : Value) (cs : List Value) : Prop where
  h15 : ∀ w1, ObjW w w1 o ev hv → Calls Tryz.prog 15 #[.agg (encO o ev hv).toArray] w1 fun e w' => e = .returned (.int .i64 0) ∧ Below w1.heap.size w1 w'
  h51 : ∀ w1, ObjW w w1 o ev hv → Calls Tryz.prog 51 #[.agg (encO o ev hv).toArray, .int .i64 d] w1 fun e w' => e = .returned (.int .i64 0) ∧ Below w1.heap.size w1 w'
  h21 : ∀ w1, ObjW w w1 o ev hv → Calls Tryz.prog 21 #[.agg (encO o ev hv).toArray] w1 fun e w' => e = .returned (.int .i64 (k : Int)) ∧ Below w1.heap.size w1 w'
  h60 : ∀ W ab Sc n g, MigW w W o ev hv ab → MigS S Sc w W ab → getF l n = some g → Calls Tryz.prog 60 #[lv, .int .i64 n] W fun e w' => ∃ ta tn tc, e = .returned (.tuple #[.agg (encM g (.slice ta tn tc)).toArray, .bool true]) ∧ Below W.heap.size W w' ∧ ∃ S' : Nat → Nat → Prop, MigS S S' w w' ab ∧ Le Sc S' noOw noOw W w' ∧
      RepC Tryz.prog S' w' noOw (.sl none 3 (g.2.2.2.2.2.2.map (toV (.int .i64)))) [.slice ta tn tc]
  h61 : ∀ W W0 Sc ab tv, MigW w W o ev hv ab → MigS S Sc w W0 ab → Below W0.heap.size W0 W → RepC Tryz.prog Sc W0 noOw (.sl none 3 (f.2.2.2.2.2.2.map (toV (.int .i64)))) [tv] → Calls Tryz.prog 61 #[tv, .int .i64 tg] W fun e w' => e = .returned (.bool true) ∧ Below W.heap.size W w'
  h52 : ∀ W ab, MigW w W o ev hv ab → Calls Tryz.prog 52 #[.pointer (some ⟨ab, 0, none⟩), .int .i64 (k : Int)] W fun e w' => e = .returned (.bool q) ∧ Below W.heap.size W w'
  h62 : ∀ W ab Sc tv uv, MigW w W o ev hv ab → MigS S Sc w W ab → RepC Tryz.prog Sc W noOw (.sl none 3 (f.2.2.2.2.2.2.map (toV (.int .i64)))) [tv] → RepC Tryz.prog Sc W noOw (.sl none 3 (t.2.2.2.2.2.2.map (toV (.int .i64)))) [uv] →
      Calls Tryz.prog 62 #[fv, .agg (encM f tv).toArray, .agg (encM t uv).toArray] W fun e w' => ∃ ra rc, e = .returned (.tuple #[.slice ra r.length rc, .int .i64 E]) ∧ Below W.heap.size W w' ∧ ∃ S' : Nat → Nat → Prop, MigS S S' w w' ab ∧ RepC Tryz.prog S' w' noOw (.sl none 70 (r.map (toV shFile))) [.slice ra r.length rc]
  h63 : ∀ W, Below w.heap.size w W → Calls Tryz.prog 63 #[ev] W fun e w' => ∃ v', e = .returned v' ∧ w'.ownsRow W.heap.size 63 5 v' o.2.2.1.length cs ∧ Below W.heap.size W w'
theorem mig_c {S : Nat → Nat → Prop} {w : World} {o : Obj} {l : List Fmt} {tg d : Int} {f t : Fmt} {r : List File} {E : Int} {q : Bool} {k : Nat} {ev hv lv fv : Value} {cs : List Value} (h0 : objP o = 0) (h1 : lateP o d = 0) (hk : o.2.2.1.length = k + 1) (hf1 : getF l (o.2.2.1.getD k E0).1 = some f) (ht1 : getF l tg = some t) (hm : tg ∈ f.2.2.2.2.2.2)
    (hi : intactB (o.2.2.1.getD k E0) = q) (hcv : convR f t (o.2.2.1.getD k E0).2.2.2.2 = (r, E)) (hF : FitM o l) (hG : GT w) (hS : ∀ b o, S b o → b < w.heap.size)
    (he : RepC Tryz.prog S w noOw (.sl none 63 (o.2.2.1.map (toV shEdn))) [ev]) (hh : RepC Tryz.prog S w noOw (.sl none 65 (o.2.2.2.1.map (toV shFix))) [hv]) (hl : RepC Tryz.prog S w noOw (.sl none 72 (l.map (toV shFmt))) [lv]) (hfv : RepC Tryz.prog S w noOw (.sl none 70 ((o.2.2.1.getD k E0).2.2.2.2.map (toV shFile))) [fv]) (hcs : SlAt w 5 ev o.2.2.1.length cs) :
    MigC S w o l tg d f t r E q k ev hv lv fv cs := by
  have hf := hF.fo
  have hkl : k < o.2.2.1.length := by omega
  have hxf := (hf.el _ (getD_mem E0 hkl)).2
  have hxc := hF.fc _ (getD_mem E0 hkl)
  have htm := (hF.fm t (getF_mem ht1)).1
  have hfm := (hF.fm f (getF_mem hf1)).2
  have hE := hf.e
  refine ⟨fun w1 hw => ?_, fun w1 hw => ?_, fun w1 hw => call21 o k hk hf (obj_rep he hh) hS w1 hw.b0 (keepsGT _ _ hG hw.b0), fun W ab Sc n g hw hs hg => mig60 l hG hS hl hF.fl W ab Sc n g hw hs hg, fun W W0 Sc ab tv hw hs hb hq => mig61 _ tg hfm hm hG W W0 Sc ab hw hs hb hq, fun W ab hw => ?_,
    fun W ab Sc tv uv hw hs q1 q2 => mig62e _ r E f t htm hxc hcv hG hS hfv W ab Sc hw hs q1 q2, fun W hb => callClone63 W (hcs.below hb) (by omega)⟩
  · have := call15 o hf (obj_rep he hh) hS w1 hw.b0 (keepsGT _ _ hG hw.b0)
    rwa [h0] at this
  · have := call51 o d hf (obj_rep he hh) hS w1 hw.b0 (keepsGT _ _ hG hw.b0)
    rwa [h1] at this
  · have := walkIntact hS he hw.ow.b0 (keepsGT _ _ hG hw.ow.b0) hw.a.c.c2 k hkl hxf
    rwa [hi] at this
set_option maxHeartbeats 8000000 in
set_option maxRecDepth 100000 in
theorem walkMigrate {S : Nat → Nat → Prop} (o : Obj) (l : List Fmt) (tg d : Int) (f t : Fmt) (r : List File) (h0 : objP o = 0) (h1 : lateP o d = 0) (hf1 : getF l (lastE o).1 = some f) (ht1 : getF l tg = some t) (hm : tg ∈ f.2.2.2.2.2.2) (hi : intactB (lastE o) = true)
    (hcv : convsP f t (lastE o).2.2.2.2 = some r) (hr0 : rightP r = 0) (h8 : ¬ 8 ≤ o.2.2.1.length) (h64 : ¬ 64 ≤ o.2.2.2.1.length) (hF : FitM o l) (w : World) (hG : GT w) (hS : ∀ b o, S b o → b < w.heap.size)
    (ev hv lv : Value) (he : RepC Tryz.prog S w noOw (.sl none 63 (o.2.2.1.map (toV shEdn))) [ev]) (hh : RepC Tryz.prog S w noOw (.sl none 65 (o.2.2.2.1.map (toV shFix))) [hv]) (hl : RepC Tryz.prog S w noOw (.sl none 72 (l.map (toV shFmt))) [lv]) :
    Calls Tryz.prog 23 #[.agg (encO o ev hv).toArray, lv, .int .i64 tg, .int .i64 d] w fun e w' => ∃ ev' hv', e = .returned (.tuple #[.agg #[.int .i64 o.1, .int .i64 o.2.1, ev', hv', .int .i64 o.2.2.2.2.1, .int .i64 o.2.2.2.2.2.1, .int .i64 o.2.2.2.2.2.2.1, .int .i64 o.2.2.2.2.2.2.2], .int .i64 0]) ∧ Below w.heap.size w w' ∧
      RepC Tryz.prog (grow S w w') w' noOw (.sl none 63 ((o.2.2.1 ++ [(tg, (o.2.2.1.length : Int) - 1, d, rootP r, r)]).map (toV shEdn))) [ev'] ∧ RepC Tryz.prog (grow S w w') w' noOw (.sl none 65 ((o.2.2.2.1 ++ [fixP o.2.2.2.1 d 3 o.2.2.1.length (rootP r) true]).map (toV shFix))) [hv'] := by
  have hr := rightO_of h0
  have r1 := hr.e1
  have r8 := hr.e8
  obtain ⟨k, hk⟩ : ∃ k, o.2.2.1.length = k + 1 := ⟨o.2.2.1.length - 1, by omega⟩
  have hkl : k < o.2.2.1.length := by omega
  have hE : lastE o = o.2.2.1.getD k E0 := by unfold lastE; rw [hk]; rfl
  have ek1 : (o.2.2.1.length : Int) = (k : Int) + 1 := by omega
  rw [show ((o.2.2.1.length : Int) - 1) = (k : Int) by omega]
  rw [hE] at hf1 hi hcv
  have k7 : (k : Int) ≤ 6 := by omega
  have k0 : (0 : Int) ≤ (k : Int) := by omega
  have kl : (k : Int) < (o.2.2.1.length : Int) := by omega
  have l8 : (o.2.2.1.length : Int) < 8 := by omega
  have l64 : (o.2.2.2.1.length : Int) < 64 := by omega
  have hrf : Fit r := convs_Fit (hF.fm t (getF_mem ht1)).1 (hF.fc _ (getD_mem E0 hkl)) hcv
  obtain ⟨cs, hcs, hrs⟩ := edns_at he
  obtain ⟨eb, eo, ec, -, rfl, -, -⟩ := edn_at he (i := 0) (by omega)
  obtain ⟨ha, hc, rfl⟩ := sl_form hh
  rw [lenX] at *
  obtain ⟨ga, gc, hEd, hfv⟩ := edn_at' he hkl
  obtain ⟨la, lc, rfl⟩ := sl_form hl
  rw [lenM] at hl ⊢
  have C := mig_c h0 h1 hk hf1 ht1 hm hi (show convR f t _ = (r, 0) by unfold convR; rw [hcv]; simp only []; rw [hr0]) hF hG hS he hh hl hfv hcs
  have H15 : Aside _ := C.h15
  have H51 : Aside _ := C.h51
  have H21 : Aside _ := C.h21
  have H60 : Aside _ := C.h60
  have H61 : Aside _ := C.h61
  have H52 : Aside _ := C.h52
  have H62 : Aside _ := C.h62
  have H63 : Aside _ := C.h63
  obtain ⟨R0, hR0⟩ : ∃ R0 : ByteArray, R0 = ⟨(rootP r).toArray⟩ := ⟨_, rfl⟩
  have H40 : Aside (∀ W W0 Sc ab ra rc, MigW w W o (.slice (some ⟨eb, eo, none⟩) o.2.2.1.length ec) (.slice ha o.2.2.2.1.length hc) ab → MigS S Sc w W0 ab → Below W0.heap.size W0 W → RepC Tryz.prog Sc W0 noOw (.sl none 70 (r.map (toV shFile))) [.slice ra r.length rc] → Calls Tryz.prog 40 #[.slice ra r.length rc] W fun e w' => e = .returned (.string R0) ∧ Below W.heap.size W w') := fun W W0 Sc ab ra rc hw hs hb hq => by
    rw [hR0]
    exact call40 r hrf _ hq hs.lt W hb (keepsGT _ _ hG hw.ow.b0)
  have HADD : Aside (∀ W b nv, FinA S w W o.1 o.2.1 o.2.2.2.2 o.2.2.2.1 nv (.slice ha o.2.2.2.1.length hc) (o.2.2.1 ++ [(tg, (k : Int), d, rootP r, r)]) b → Calls Tryz.prog 42 #[.pointer (some ⟨b, 0, none⟩), .agg #[.int .i64 d, .int .i64 3, .int .i64 ((k : Int) + 1), .string R0, .string ⟨#[]⟩, .bool true]] W fun e w' => e = .returned (.tuple #[]) ∧
      ∃ av', ArchAt w' b o.1 o.2.1 nv (.slice ha o.2.2.2.1.length hc) o.2.2.2.2 o.2.2.2.1 av' [fixP o.2.2.2.1 d 3 o.2.2.1.length (rootP r) true] ∧ BelowX (fun k => k = b ∨ (Value.slice none 0 0).ownBlock = some k) W w') := fun W b nv A => by
    rw [hR0, ek1]
    have hk2 : inR ((k : Int) + 1) := by unfold inR; omega
    have := walkAdd W (keepsGT _ _ hG A.b0) A.a (d, 3, (k : Int) + 1, rootP r, [], true) ⟨day_in (late_day h1), show inR 3 by unfold inR; omega, hk2, by rw [root_len]; omega, by simp⟩ (by omega) (by simp) (by rw [List.append_nil]; exact hr.inx hF.fo)
    rw [List.append_nil] at this
    exact this
  have HX : Aside ((∀ b o, S b o → b < w.heap.size) ∧ RepC Tryz.prog S w noOw (.sl none 65 (o.2.2.2.1.map (toV shFix))) [(.slice ha o.2.2.2.1.length hc)] ∧ RepCs Tryz.prog S w noOw (o.2.2.1.map (toV shEdn)) cs ∧ EdnC w eb (eo + k * 5) (o.2.2.1.getD k E0) (.slice ga (o.2.2.1.getD k E0).2.2.2.2.length gc) ∧ getF l (o.2.2.1.getD k E0).1 = some f ∧ getF l tg = some t ∧ o.2.2.2.1.length ≤ 4000 ∧ o.2.2.1.length ≤ 10000 ∧ R0 = ⟨(rootP r).toArray⟩) := ⟨hS, hh, hrs, hEd, hf1, ht1, by omega, by omega, hR0⟩
  have R0' := obj_row8 (heap_alloc2_old w (Go.Obj.cells (encO o (.slice (some ⟨eb, eo, none⟩) o.2.2.1.length ec) (.slice ha o.2.2.2.1.length hc)).toArray 32 (0, 0)) (Go.Obj.cells #[.int .i64 0, .int .i64 0, .slice none 0 0, .slice none 0 0, .int .i64 0, .int .i64 0, .int .i64 0, .int .i64 0] 32 (0, 0)))
  unfold encO at H15 H51 H21 R0' ⊢
  unfold encM at H60 H62
  obtain ⟨z0, z1, z2, z3, z4, z5, z6, z7, y0, y1, y2, y3, y4, y5, y6, y7⟩ := R0'
  clear C he hh hr hS hG h0 h1 hf1 ht1 hm hi hF hcs hrs hEd hfv hl hE ek1 hkl hk r8 hcv hr0 h8 h64 hR0 hrf
  have t1 := True.intro
  go_enter Tryz.func23, Tryz.ntmps23
  go_wp2_with (first
    | (go_at_call 15; refine (H15.out _ ObjW.start).mono ?_; rintro e w1 ⟨rfl, hb⟩; have H1 : Aside (ObjW w w1 o _ _) := ObjW.step ObjW.start hb; clear hb z0 z1 z2 z3 z4 z5 z6 z7 y0 y1 y2 y3 y4 y5 y6 y7; obtain ⟨z0, z1, z2, z3, z4, z5, z6, z7, y0, y1, y2, y3, y4, y5, y6, y7⟩ := obj_row8 H1.out.ob)
    | (go_at_call 51; refine (H51.out _ H1.out).mono ?_; rintro e w2 ⟨rfl, hb⟩; have H2 : Aside (ObjW w w2 o _ _) := ObjW.step H1.out hb; clear hb z0 z1 z2 z3 z4 z5 z6 z7 y0 y1 y2 y3 y4 y5 y6 y7; have M2 : Aside _ := MigW.start HX.out.1 HX.out.2.1 H2.out; obtain ⟨z0, z1, z2, z3, z4, z5, z6, z7, y0, y1, y2, y3, y4, y5, y6, y7⟩ := obj_row8 H2.out.ob; obtain ⟨x0, x1, x2, x3, x4, x5, x6, x7, -, -, -, -, -, -, -, -⟩ := obj_row8 ((heap_alloc_old w2 (Go.Obj.cells #[.int .i64 o.1, .int .i64 o.2.1, .slice (some ⟨eb, eo, none⟩) o.2.2.1.length ec, .slice ha o.2.2.2.1.length hc, .int .i64 o.2.2.2.2.1, .int .i64 o.2.2.2.2.2.1, .int .i64 o.2.2.2.2.2.2.1, .int .i64 o.2.2.2.2.2.2.2, .slice none 0 0] 78 (0, 0)) (Array.getElem?_eq_some_iff.1 H2.out.ob).1).trans H2.out.ob))
    | (go_at_call 21; refine (H21.out _ M2.out.ow).mono ?_; rintro e w3 ⟨rfl, hb⟩; have M3 : Aside (MigW w w3 o _ _ _) := M2.out.step hb; have G3 : Aside (MigS S S w w3 w2.heap.size) := ⟨fun b o h => Nat.lt_of_lt_of_le (HX.out.1 b o h) M3.out.ow.b0.size, fun _ _ h => h, fun _ _ h => .inl h⟩; clear hb z0 z1 z2 z3 z4 z5 z6 z7 y0 y1 y2 y3 y4 y5 y6 y7 x0 x1 x2 x3 x4 x5 x6 x7; have c2 := M3.out.a.c.c2; have p0 := (HX.out.2.2.2.1.below M3.out.ow.b0).c0)
    | (go_at_call 60; clear t1; refine (H60.out _ _ _ _ _ M3.out G3.out HX.out.2.2.2.2.1).mono ?_; rintro e w4 ⟨ta, tn, tc, rfl, hb, S4, G4, L4, q4⟩; have M4 : Aside (MigW w w4 o _ _ _) := M3.out.step hb; have K4 : Aside (_ ∧ _) := ⟨G4, q4⟩; clear hb G4 q4 L4 c2 p0; have B4 : Aside (Below w4.heap.size w4 (w4.alloc (Go.Obj.cells #[.int .i64 f.1, .int .i64 f.2.1, .int .i64 f.2.2.1, .int .i64 f.2.2.2.1, .string ⟨f.2.2.2.2.1.toArray⟩, .string ⟨f.2.2.2.2.2.1.toArray⟩, .slice ta tn tc] 72 (0, 0)))) := (Below.refl _ w4).alloc (Nat.le_refl _) _; have F4 : Aside (FmtB (w4.alloc (Go.Obj.cells #[.int .i64 f.1, .int .i64 f.2.1, .int .i64 f.2.2.1, .int .i64 f.2.2.2.1, .string ⟨f.2.2.2.2.1.toArray⟩, .string ⟨f.2.2.2.2.2.1.toArray⟩, .slice ta tn tc] 72 (0, 0))) w4.heap.size f (.slice ta tn tc)) := heap_alloc_new w4 _)
    | (go_at_call 60; refine (H60.out _ _ _ _ _ (M4.out.step B4.out) (K4.out.1.step B4.out.size) HX.out.2.2.2.2.2.1).mono ?_; rintro e w5 ⟨ua, un, uc, rfl, hb, S5, G5, L5, q5⟩; have M5 : Aside (MigW w w5 o _ _ _) := (M4.out.step B4.out).step hb; have K5 : Aside (MigS S S5 w w5 w2.heap.size ∧ RepC Tryz.prog S5 w5 noOw (.sl none 3 (f.2.2.2.2.2.2.map (toV (.int .i64)))) [.slice ta tn tc] ∧ _) := ⟨G5, (K4.out.2.mono ⟨fun _ _ h => h, fun b o h => B4.out.cell (p := ⟨b, o, none⟩) (K4.out.1.lt b o h), fun _ _ _ _ h => by cases h⟩).mono L5, q5⟩; have B5 : Aside (Below w5.heap.size w5 (w5.alloc (Go.Obj.cells #[.int .i64 t.1, .int .i64 t.2.1, .int .i64 t.2.2.1, .int .i64 t.2.2.2.1, .string ⟨t.2.2.2.2.1.toArray⟩, .string ⟨t.2.2.2.2.2.1.toArray⟩, .slice ua un uc] 72 (0, 0)))) := (Below.refl _ w5).alloc (Nat.le_refl _) _; have F5 : Aside (FmtB (w5.alloc (Go.Obj.cells #[.int .i64 t.1, .int .i64 t.2.1, .int .i64 t.2.2.1, .int .i64 t.2.2.2.1, .string ⟨t.2.2.2.2.1.toArray⟩, .string ⟨t.2.2.2.2.2.1.toArray⟩, .slice ua un uc] 72 (0, 0))) w4.heap.size f (.slice ta tn tc) ∧ FmtB (w5.alloc (Go.Obj.cells #[.int .i64 t.1, .int .i64 t.2.1, .int .i64 t.2.2.1, .int .i64 t.2.2.2.1, .string ⟨t.2.2.2.2.1.toArray⟩, .string ⟨t.2.2.2.2.2.1.toArray⟩, .slice ua un uc] 72 (0, 0))) w5.heap.size t (.slice ua un uc)) := ⟨(F4.out.step hb).step B5.out, heap_alloc_new w5 _⟩; clear hb G5 q5 L5; have f6 := (row7 F5.out.1).c6)
    | (go_at_call 61; refine (H61.out _ _ _ _ _ (M5.out.step B5.out) K5.out.1 B5.out K5.out.2.1).mono ?_; rintro e w6 ⟨rfl, hb⟩; have B6 : Aside (Below w5.heap.size w5 w6) := below_tr B5.out B5.out.size hb; have M6 : Aside (MigW w w6 o _ _ _) := M5.out.step B6.out; have F6 : Aside (_ ∧ _) := ⟨F5.out.1.step hb, F5.out.2.step hb⟩; clear hb f6)
    | (go_at_call 52; refine (H52.out _ _ M6.out).mono ?_; rintro e w7 ⟨rfl, hb⟩; have B7 : Aside (Below w5.heap.size w5 w7) := below_tr B6.out B6.out.size hb; have M7 : Aside (MigW w w7 o _ _ _) := M6.out.step hb; have F7 : Aside (_ ∧ _) := ⟨F6.out.1.step hb, F6.out.2.step hb⟩; clear hb; have c2 := M7.out.a.c.c2; have p4 := (HX.out.2.2.2.1.below M7.out.ow.b0).c4; obtain ⟨m0, m1, m2, m3, m4, m5, m6⟩ := row7 F7.out.1; obtain ⟨n0, n1, n2, n3, n4, n5, n6⟩ := row7 F7.out.2))
  have B8 : Aside (Below w5.heap.size w5 w7.drew) := below_tr B7.out B7.out.size (below_drew w7)
  have M8 : Aside (MigW w w7.drew o _ _ _) := M7.out.step (below_drew w7)
  go_region_held3 (fun w' => w'.cell? ⟨w2.heap.size, 2, none⟩ = some (.slice (some ⟨eb, eo, none⟩) o.2.2.1.length ec) ∧ w'.cell? ⟨eb, eo + k * 5 + 4, none⟩ = some (.slice ga (o.2.2.1.getD k E0).2.2.2.2.length gc) ∧ w'.cell? ⟨w4.heap.size, 0, none⟩ = some (.int .i64 f.1) ∧ w'.cell? ⟨w4.heap.size, 1, none⟩ = some (.int .i64 f.2.1) ∧ w'.cell? ⟨w4.heap.size, 2, none⟩ = some (.int .i64 f.2.2.1) ∧ w'.cell? ⟨w4.heap.size, 3, none⟩ = some (.int .i64 f.2.2.2.1) ∧ w'.cell? ⟨w4.heap.size, 4, none⟩ = some (.string ⟨f.2.2.2.2.1.toArray⟩) ∧ w'.cell? ⟨w4.heap.size, 5, none⟩ = some (.string ⟨f.2.2.2.2.2.1.toArray⟩) ∧ w'.cell? ⟨w4.heap.size, 6, none⟩ = some (.slice ta tn tc) ∧ w'.cell? ⟨w5.heap.size, 0, none⟩ = some (.int .i64 t.1) ∧ w'.cell? ⟨w5.heap.size, 1, none⟩ = some (.int .i64 t.2.1) ∧ w'.cell? ⟨w5.heap.size, 2, none⟩ = some (.int .i64 t.2.2.1) ∧ w'.cell? ⟨w5.heap.size, 3, none⟩ = some (.int .i64 t.2.2.2.1) ∧ w'.cell? ⟨w5.heap.size, 4, none⟩ = some (.string ⟨t.2.2.2.2.1.toArray⟩) ∧ w'.cell? ⟨w5.heap.size, 5, none⟩ = some (.string ⟨t.2.2.2.2.2.1.toArray⟩) ∧ w'.cell? ⟨w5.heap.size, 6, none⟩ = some (.slice ua un uc))
    (first | exact ⟨c2, p4, m0, m1, m2, m3, m4, m5, m6, n0, n1, n2, n3, n4, n5, n6⟩ | exact ⟨d2, d4, Q1.c0, Q1.c1, Q1.c2, Q1.c3, Q1.c4, Q1.c5, Q1.c6, Q2.c0, Q2.c1, Q2.c2, Q2.c3, Q2.c4, Q2.c5, Q2.c6⟩)
    (first
    | (go_at_call 62; refine (H62.out _ _ _ _ _ M8.out (K5.out.1.step B8.out.size) (K5.out.2.1.mono (le_below K5.out.1.lt B8.out)) (K5.out.2.2.mono (le_below K5.out.1.lt B8.out))).mono ?_; rintro e w9 ⟨ra, rc, rfl, hb, S9, G9, q9⟩; have M9 : Aside (MigW w w9 o _ _ _) := M8.out.step hb; have K9 : Aside (_ ∧ _) := ⟨G9, q9⟩; have Q1 := row7 ((F7.out.1.step (below_drew w7)).step hb); have Q2 := row7 ((F7.out.2.step (below_drew w7)).step hb); have d4 := (HX.out.2.2.2.1.below M9.out.ow.b0).c4; have d2 := M9.out.a.c.c2; clear hb G9 q9; have d3 := M9.out.a.c.c3; have R1 := row8 M9.out.ow.zb)
    | fail)
  all_goals (try clear c2 p4 m0 m1 m2 m3 m4 m5 m6 n0 n1 n2 n3 n4 n5 n6 Q1 Q2 d4)
  clear R1
  all_goals go_wp2_with (first
    | (go_at_call 40; refine (H40.out _ _ _ _ _ _ M9.out K9.out.1 (Below.refl _ _) K9.out.2).mono ?_; rintro e w10 ⟨rfl, hb⟩; have M10 : Aside (MigW w w10 o _ _ _) := M9.out.step hb; have K10 : Aside (_ ∧ _) := ⟨K9.out.1.step hb.size, K9.out.2.mono (le_below K9.out.1.lt hb)⟩; clear hb d2 d3; have c2 := M10.out.a.c.c2)
    | (go_at_call 63; refine (H63.out _ M10.out.ow.b0).mono ?_; rintro e w11 ⟨v11, rfl, ho, hb⟩; obtain ⟨v12, w12, hr12, ho12, hg12⟩ := app_edn v11 _ cs w11 w10.heap.size hb.size ho (tg, (k : Int), d, rootP r, r) (.slice ra r.length rc) (fun u hu => by simp only [encE, List.mem_cons, List.not_mem_nil, or_false] at hu; rcases hu with rfl | rfl | rfl | rfl | rfl <;> rfl) HX.out.2.2.2.2.2.2.2.1; have F12 := mig_fin HX.out.1 HX.out.2.2.1 M10.out K10.out.1 (x := (tg, (k : Int), d, rootP r, r)) K10.out.2 hb ho ho12 hg12; unfold encE at hr12; rw [← HX.out.2.2.2.2.2.2.2.2] at hr12; dsimp only at hr12; obtain ⟨a12, cap12, rfl⟩ := own_form ho12; obtain ⟨d2, e2, F12⟩ := F12; have F12 : Aside _ := F12; clear ho hb ho12 hg12 c2)
    | (at_builtin; refine Lib.wpList_append_run _ rfl _ _ _ _ rfl _ _ rfl rfl _ _ hr12 ?_)
    | (go_at_call 42; refine (HADD.out _ _ _ F12.out).mono ?_; rintro e w13 ⟨rfl, av13, A13, X13⟩; have A13 : Aside _ := A13; have X13 : Aside _ := X13; clear d2 e2)
    | (go_at_call 43; refine (walkDone _ A13.out HX.out.2.2.2.2.2.2.1 (by simp)).mono ?_; rintro e w14 ⟨v14, rfl, ho, hb⟩; replace ho : w14.ownsRow w13.heap.size 65 6 v14 (o.2.2.2.1.length + 1) (o.2.2.2.1.flatMap encX ++ encX (fixP o.2.2.2.1 d 3 o.2.2.1.length (rootP r) true)) := (by simpa using ho); have E14 : Aside _ := fin_end HX.out.1 F12.out X13.out hb ho; obtain ⟨a14, c14, rfl⟩ := own_form ho; have R1 := row8 (E14.out (.bool true) (.bool true) (.bool true) (.bool true) (.bool true) (.bool true) (.bool true) (.bool true)).1; clear ho hb; obtain ⟨z0, z1, z2, z3, z4, z5, z6, z7, y0, y1, y2, y3, y4, y5, y6, y7⟩ := R1))
  (try simp only [Exit.inBlock, Exit.then])
  have hz := (E14.out (.bool true) (.bool true) (.bool true) (.bool true) (.bool true) (.bool true) (.bool true) (.bool true)).1
  refine bodyPost_ret (results_row_tmp (fn := Tryz.f23) (p := 8) (u := 9) (ty := 32) rfl _ _ (w.heap.size + 1) _ rfl (run_loadVar_row _ (w.heap.size + 1) 32 32 _ (0, 0) _ (put8_row hz _ _ _ _ _ _ _ _) Tryz.underlying32 rfl (by kernel_rfl)) _ rfl) rfl ⟨_, _, rfl, ?_, ?_, ?_⟩
  · exact (E14.out _ _ _ _ _ _ _ _).2.1
  · exact (E14.out _ _ _ _ _ _ _ _).2.2.1
  · exact (E14.out _ _ _ _ _ _ _ _).2.2.2
end Go.Proofs.YtecjedagdpnemaaGreatDoor
