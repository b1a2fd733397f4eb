/-
  preserve.Repair walked where it repairs an edition. No condition beyond what each line says.
-/
import Derived.Test.YtecjedagdpnemaaGreatDoorH10
import Derived.Deep.RegionHeld3
namespace Go.Proofs.YtecjedagdpnemaaGreatDoor
open Go Go.Nu Go.RowKit Go.Sort
set_option linter.unusedVariables false
structure FinA (S : Nat → Nat → Prop) (w W : World) (n r : Int) (t : Rts) (h : List Fix) (nv hv : Value) (E : List Edn) (b : Nat) : Prop where
  b0 : Below w.heap.size w W
  zb : W.heap[w.heap.size + 1]? = some (.cells zero8 32 (0, 0))
  b1 : w.heap.size + 1 < b
  bw : b < W.heap.size
  a : ArchAt W b n r nv hv t h (.slice none 0 0) []
  e : RepC Tryz.prog (fun k o => S k o ∨ (w.heap.size + 1 < k ∧ k < W.heap.size ∧ k ≠ b)) W noOw (.sl none 63 (E.map (toV shEdn))) [nv]
theorem fin_end {S : Nat → Nat → Prop} {w W W4 W5 : World} {n r : Int} {t : Rts} {h : List Fix} {nv hv : Value} {E : List Edn} {b : Nat} (hS : ∀ b o, S b o → b < w.heap.size) (A : FinA S w W n r t h nv hv E b) {x : Fix} {v5 : Value}
    (hX : BelowX (fun k => k = b ∨ (Value.slice none 0 0).ownBlock = some k) W W4) (h5 : Below W4.heap.size W4 W5) (ho : W5.ownsRow W4.heap.size 65 6 v5 (h.length + 1) (h.flatMap encX ++ encX x)) (a0 a1 a2 a3 a4 a5 a6 a7 : Value) :
    W5.heap[w.heap.size + 1]? = some (.cells zero8 32 (0, 0)) ∧ Below w.heap.size w (put8 W5 (w.heap.size + 1) a0 a1 a2 a3 a4 a5 a6 a7) ∧
      RepC Tryz.prog (grow S w (put8 W5 (w.heap.size + 1) a0 a1 a2 a3 a4 a5 a6 a7)) (put8 W5 (w.heap.size + 1) a0 a1 a2 a3 a4 a5 a6 a7) noOw (.sl none 63 (E.map (toV shEdn))) [nv] ∧
      RepC Tryz.prog (grow S w (put8 W5 (w.heap.size + 1) a0 a1 a2 a3 a4 a5 a6 a7)) (put8 W5 (w.heap.size + 1) a0 a1 a2 a3 a4 a5 a6 a7) noOw (.sl none 65 ((h ++ [x]).map (toV shFix))) [v5] := by
  have hW := A.b0.size
  have hb := A.b1
  have hbw := A.bw
  have h4 := hX.size
  have hx : ∀ k, k < W.heap.size → k ≠ b → W5.heap[k]? = W.heap[k]? := fun k hk hn =>
    (h5.block k (by omega)).trans (hX.block k hk (fun h => by rcases h with h | h; exact hn h; cases h))
  have hB5 : Below w.heap.size w W5 := ⟨h5.os.trans (hX.os.trans A.b0.os), h5.tape.trans (hX.tape.trans A.b0.tape), h5.output.trans (hX.output.trans A.b0.output), by have := h5.size; omega, fun k hk => (hx k (by omega) (by omega)).trans (A.b0.block k hk)⟩
  have s5 : (put8 W5 (w.heap.size + 1) a0 a1 a2 a3 a4 a5 a6 a7).heap.size = W5.heap.size := by simp [World.setCell]
  have hp : ∀ k, k ≠ w.heap.size + 1 → (put8 W5 (w.heap.size + 1) a0 a1 a2 a3 a4 a5 a6 a7).heap[k]? = W5.heap[k]? := fun k hk => by
    simp only [put8]
    rw [Below.heap_setCell _ _ _ _ hk, Below.heap_setCell _ _ _ _ hk, Below.heap_setCell _ _ _ _ hk, Below.heap_setCell _ _ _ _ hk, Below.heap_setCell _ _ _ _ hk, Below.heap_setCell _ _ _ _ hk, Below.heap_setCell _ _ _ _ hk, Below.heap_setCell _ _ _ _ hk]
  refine ⟨(hx _ (by omega) (by omega)).trans A.zb, put8_below hB5 (by omega) _ _ _ _ _ _ _ _, ?_, ?_⟩
  · refine A.e.mono ⟨fun k o h => ?_, fun k o h => ?_, fun _ _ _ _ h => by cases h⟩
    · rcases h with h | ⟨h1, h2, h3⟩
      · exact .inl h
      · exact .inr ⟨by omega, by rw [s5]; have := h5.size; omega⟩
    · have hk : k < W.heap.size ∧ k ≠ b ∧ k ≠ w.heap.size + 1 := by
        rcases h with h | ⟨h1, h2, h3⟩
        · have := hS k o h; omega
        · omega
      exact World.cell?_of_block (a := ⟨k, o, none⟩) ((hp k hk.2.2).trans (hx k hk.1 hk.2.1))
  · refine his_rep (B := W4.heap.size) (l := h ++ [x]) ?_ fun k o h1 h2 => .inr ⟨by omega, h2⟩
    rw [List.length_append, List.flatMap_append, List.length_singleton, List.flatMap_singleton]
    exact put8_own ho (by omega) _ _ _ _ _ _ _ _
theorem reps_mono {S S' : Nat → Nat → Prop} {w w' : World} : ∀ {vs : List V} {cs : List Value}, RepCs Tryz.prog S w noOw vs cs → Le S S' noOw noOw w w' → RepCs Tryz.prog S' w' noOw vs cs
  | [], cs, h, _ => by rw [nil_inv h]; exact .nil _
  | v :: vs, cs, h, hl => by
    obtain ⟨c1, c2, rfl, p1, p2⟩ := cons_inv h
    exact .cons _ (p1.mono hl) (reps_mono p2 hl)
theorem set_edn {c1 c2 : List Value} {x : Edn} {fv cv : Value} {i : Nat} (hc : c1.length = i * 5) (l : List File) : (c1 ++ (encE x fv ++ c2)).set (i * 5 + 4) cv = c1 ++ (encE (x.1, x.2.1, x.2.2.1, x.2.2.2.1, l) cv ++ c2) := by
  rw [List.set_append_right _ _ (by omega), hc, show i * 5 + 4 - i * 5 = 4 by omega]
  rfl
theorem set_split {l : List Edn} {i : Nat} (h : i < l.length) (y : Edn) : l.set i y = l.take i ++ y :: l.drop (i + 1) := by
  rw [List.set_eq_take_append_cons_drop, if_pos h]
theorem mapE_split {l : List Edn} {i : Nat} (h : i < l.length) (y : Edn) : (l.set i y).map (toV shEdn) = (l.take i).map (toV shEdn) ++ toV shEdn y :: (l.drop (i + 1)).map (toV shEdn) :=
  (congrArg (List.map (toV shEdn)) (set_split h y)).trans List.map_append
theorem with_reps {S : Nat → Nat → Prop} {w : World} {o : Obj} {cs : List Value} {i : Nat} {l : List File} {cv : Value} (h : RepCs Tryz.prog S w noOw (o.2.2.1.map (toV shEdn)) cs) (hi : i < o.2.2.1.length) (hl : RepC Tryz.prog S w noOw (.sl none 70 (l.map (toV shFile))) [cv]) :
    RepCs Tryz.prog S w noOw ((withP o i l).2.2.1.map (toV shEdn)) (cs.set (i * 5 + 4) cv) := by
  obtain ⟨c1, fv, c2, rfl, q1, q2, q3, q4⟩ := edns_get h hi
  rw [set_edn q1 l]
  have hk : (withP o i l).2.2.1.map (toV shEdn) = _ := mapE_split hi ((o.2.2.1.getD i E0).1, (o.2.2.1.getD i E0).2.1, (o.2.2.1.getD i E0).2.2.1, (o.2.2.1.getD i E0).2.2.2.1, l)
  rw [hk]
  exact reps_app q2 (.cons _ (edn_rep (x := ((o.2.2.1.getD i E0).1, (o.2.2.1.getD i E0).2.1, (o.2.2.1.getD i E0).2.2.1, (o.2.2.1.getD i E0).2.2.2.1, l)) hl) q4)
theorem with_len (o : Obj) (i : Nat) (l : List File) : (withP o i l).2.2.1.length = o.2.2.1.length := List.length_set
theorem rep_arch {S : Nat → Nat → Prop} {o : Obj} {ev hv : Value} {w w6 w7 w8 : World} {i : Nat} {l : List File} {cv nv : Value} {cs : List Value} (hi : i < o.2.2.1.length) (hS : ∀ b o, S b o → b < w.heap.size) (hh : RepC Tryz.prog S w noOw (.sl none 65 (o.2.2.2.1.map (toV shFix))) [hv])
    (hcs : RepCs Tryz.prog S w noOw (o.2.2.1.map (toV shEdn)) cs) (H : ObjW w w6 o ev hv) (h7 : Below w6.heap.size w6 w7) (ho7 : w7.ownsRow w6.heap.size 70 2 cv l.length (l.flatMap encF)) (h8 : Below w7.heap.size w7 w8) (ho8 : w8.ownsRow w7.heap.size 63 5 nv o.2.2.1.length (cs.set (i * 5 + 4) cv)) :
    FinA S w (w8.alloc (Go.Obj.cells (aCells o.1 o.2.1 nv hv o.2.2.2.2 (.slice none 0 0)) 78 (0, 0))) o.1 o.2.1 o.2.2.2.2 o.2.2.2.1 nv hv (withP o i l).2.2.1 w8.heap.size := by
  have H8 := (H.step h7).step h8
  have hb := H8.b0.alloc H8.b0.size (Go.Obj.cells (aCells o.1 o.2.1 nv hv o.2.2.2.2 (.slice none 0 0)) 78 (0, 0))
  have hz := (Array.getElem?_eq_some_iff.1 H8.zb).1
  have hz6 := (Array.getElem?_eq_some_iff.1 H.zb).1
  have s8 : (w8.alloc (Go.Obj.cells (aCells o.1 o.2.1 nv hv o.2.2.2.2 (.slice none 0 0)) 78 (0, 0))).heap.size = w8.heap.size + 1 := by simp
  have k7 := h7.size
  have k8 := h8.size
  obtain ⟨a1, a2⟩ := his_at hh
  refine ⟨hb, (heap_alloc_old w8 _ hz).trans H8.zb, hz, by rw [s8]; omega, ⟨heap_alloc_new w8 _, a1.below hb, fun hn g hg => ?_, World.ownsRow_nil _ _ _ _⟩, ?_⟩
  · obtain ⟨k, hk⟩ := a2 hn g hg
    have := hS g k hk
    have := H.b0.size
    omega
  · have q : RepC Tryz.prog (fun k o => S k o ∨ (w.heap.size + 1 < k ∧ k < w8.heap.size)) w8 noOw (.sl none 63 ((withP o i l).2.2.1.map (toV shEdn))) [nv] := by
      refine edns_rep (B := w7.heap.size) (l := (withP o i l).2.2.1) (by rw [with_len]; exact ho8) (fun k o h1 h2 => .inr ⟨by omega, h2⟩) ?_
      refine with_reps (reps_mono hcs ⟨fun k o h => .inl h, fun k o h => ?_, fun _ _ _ _ h => by cases h⟩) hi ?_
      · exact H8.b0.cell (p := ⟨k, o, none⟩) (hS k o h)
      · exact files_rep (B := w6.heap.size) (ho7.kept (grown_of_below h8 none) (by cases hv : cv.ownBlock <;> simp)) fun k o h1 h2 => .inr ⟨by omega, h2⟩
    refine q.mono ⟨fun k o h => ?_, fun k o h => ?_, fun _ _ _ _ h => by cases h⟩
    · rcases h with h | ⟨h1, h2⟩
      · exact .inl h
      · exact .inr ⟨h1, by rw [s8]; omega, by omega⟩
    · have hk : k < w8.heap.size := by
        rcases h with h | ⟨h1, h2⟩
        · have := hS k o h; have := H8.b0.size; omega
        · exact h2
      exact World.cell?_of_block (a := ⟨k, o, none⟩) (heap_alloc_old w8 _ hk)
set_option maxHeartbeats 8000000 in
set_option maxRecDepth 100000 in
theorem walkRepair {S : Nat → Nat → Prop} (o : Obj) (i : Nat) (l : List File) (d : Int) (h0 : objP o = 0) (hi : i < o.2.2.1.length) (h1 : lateP o d = 0) (h2 : rightP l = 0) (h3 : rootP l = (o.2.2.1.getD i E0).2.2.2.1) (h4 : ¬ 64 ≤ o.2.2.2.1.length) (hf : FitO o) (hl : Fit l)
    (w : World) (hG : GT w) (hS : ∀ b o, S b o → b < w.heap.size)
    (ev hv fv : Value) (he : RepC Tryz.prog S w noOw (.sl none 63 (o.2.2.1.map (toV shEdn))) [ev]) (hh : RepC Tryz.prog S w noOw (.sl none 65 (o.2.2.2.1.map (toV shFix))) [hv]) (hfv : RepC Tryz.prog S w noOw (.sl none 70 (l.map (toV shFile))) [fv]) :
    Calls Tryz.prog 27 #[.agg (encO o ev hv).toArray, .int .i64 (i : Int), fv, .int .i64 d] w fun e w' => ∃ ev' hv', e = .returned (.tuple #[.agg #[.int .i64 o.1, .int .i64 o.2.1, ev', hv', .int .i64 o.2.2.2.2.1, .int .i64 o.2.2.2.2.2.1, .int .i64 o.2.2.2.2.2.2.1, .int .i64 o.2.2.2.2.2.2.2], .int .i64 0]) ∧ Below w.heap.size w w' ∧
      RepC Tryz.prog (grow S w w') w' noOw (.sl none 63 ((withP o i l).2.2.1.map (toV shEdn))) [ev'] ∧ RepC Tryz.prog (grow S w w') w' noOw (.sl none 65 ((o.2.2.2.1 ++ [fixP o.2.2.2.1 d 4 i (rootP l) true]).map (toV shFix))) [hv'] := by
  have hr := rightO_of h0
  have r1 := hr.e1
  have r8 := hr.e8
  have hi1 : (i : Int) < (o.2.2.1.length : Int) := by omega
  have hi0 : ¬ (i : Int) < 0 := by omega
  have h4' : (o.2.2.2.1.length : Int) < 64 := by omega
  obtain ⟨cs, hcs, hrs⟩ := edns_at he
  obtain ⟨eb, eo, ec, -, rfl, -, -⟩ := edn_at he (i := 0) (by omega)
  obtain ⟨ha, hc, rfl⟩ := sl_form hh
  obtain ⟨fa, fc, rfl⟩ := sl_form hfv
  rw [lenX, lenF] at *
  obtain ⟨R0, hR0⟩ : ∃ R0 : ByteArray, R0 = ⟨(rootP l).toArray⟩ := ⟨_, rfl⟩
  have H15 : Aside (∀ w1, ObjW w w1 o (.slice (some ⟨eb, eo, none⟩) o.2.2.1.length ec) (.slice ha o.2.2.2.1.length hc) → Calls Tryz.prog 15 #[.agg (encO o (.slice (some ⟨eb, eo, none⟩) o.2.2.1.length ec) (.slice ha o.2.2.2.1.length hc)).toArray] w1 fun e w' => e = .returned (.int .i64 0) ∧ Below w1.heap.size w1 w') := fun w1 hw => by
    have := call15 o hf (obj_rep he hh) hS w1 hw.b0 (keepsGT _ _ hG hw.b0)
    rwa [h0] at this
  have H51 : Aside (∀ w1, ObjW w w1 o (.slice (some ⟨eb, eo, none⟩) o.2.2.1.length ec) (.slice ha o.2.2.2.1.length hc) → Calls Tryz.prog 51 #[.agg (encO o (.slice (some ⟨eb, eo, none⟩) o.2.2.1.length ec) (.slice ha o.2.2.2.1.length hc)).toArray, .int .i64 d] w1 fun e w' => e = .returned (.int .i64 0) ∧ Below w1.heap.size w1 w') := fun w1 hw => by
    have := call51 o d hf (obj_rep he hh) hS w1 hw.b0 (keepsGT _ _ hG hw.b0)
    rwa [h1] at this
  have H38 : Aside (∀ w1, Below w.heap.size w w1 → Calls Tryz.prog 38 #[.slice fa l.length fc] w1 fun e w' => e = .returned (.int .i64 0) ∧ Below w1.heap.size w1 w') := fun w1 hw => by
    have := call38 l hl _ hfv hS w1 hw (keepsGT _ _ hG hw)
    rwa [h2] at this
  have H40 : Aside (∀ w1, Below w.heap.size w w1 → Calls Tryz.prog 40 #[.slice fa l.length fc] w1 fun e w' => e = .returned (.string R0) ∧ Below w1.heap.size w1 w') := fun w1 hw => by
    rw [hR0]
    exact call40 l hl _ hfv hS w1 hw (keepsGT _ _ hG hw)
  have H41 : Aside (∀ w1, Below w.heap.size w w1 → Calls Tryz.prog 41 #[.slice fa l.length fc] w1 fun e w' => ∃ v', e = .returned v' ∧ w'.ownsRow w1.heap.size 70 2 v' l.length (l.flatMap encF) ∧ Below w1.heap.size w1 w') := fun w1 hw => callClone41 w1 ((files_at hfv).below hw) (by have := hl.1; omega)
  have H67 : Aside (∀ w1 ca cn cc, Below w.heap.size w w1 → Calls Tryz.prog 67 #[.agg #[.int .i64 o.1, .int .i64 o.2.1, .slice (some ⟨eb, eo, none⟩) o.2.2.1.length ec, .slice ha o.2.2.2.1.length hc, .int .i64 o.2.2.2.2.1, .int .i64 o.2.2.2.2.2.1, .int .i64 o.2.2.2.2.2.2.1, .int .i64 o.2.2.2.2.2.2.2], .int .i64 (i : Int), .slice ca cn cc] w1 fun e w' => ∃ v', e = .returned (.agg #[.int .i64 o.1, .int .i64 o.2.1, v', .slice ha o.2.2.2.1.length hc, .int .i64 o.2.2.2.2.1, .int .i64 o.2.2.2.2.2.1, .int .i64 o.2.2.2.2.2.2.1, .int .i64 o.2.2.2.2.2.2.2]) ∧
      w'.ownsRow w1.heap.size 63 5 v' o.2.2.1.length (cs.set (i * 5 + 4) (.slice ca cn cc)) ∧ Below w1.heap.size w1 w') := fun w1 ca cn cc hw => walkWith o.1 o.2.1 _ ha _ hc o.2.2.2.2 o.2.2.1.length cs i hi (by omega) ca cn cc w1 (hcs.below hw)
  have HADD : Aside (∀ W b nv, FinA S w W o.1 o.2.1 o.2.2.2.2 o.2.2.2.1 nv (.slice ha o.2.2.2.1.length hc) (withP o i l).2.2.1 b → Calls Tryz.prog 42 #[.pointer (some ⟨b, 0, none⟩), .agg #[.int .i64 d, .int .i64 4, .int .i64 (i : Int), .string R0, .string ⟨#[]⟩, .bool true]] W fun e w' => e = .returned (.tuple #[]) ∧
      ∃ av', ArchAt w' b o.1 o.2.1 nv (.slice ha o.2.2.2.1.length hc) o.2.2.2.2 o.2.2.2.1 av' [fixP o.2.2.2.1 d 4 i (rootP l) true] ∧ BelowX (fun k => k = b ∨ (Value.slice none 0 0).ownBlock = some k) W w') := fun W b nv A => by
    rw [hR0]
    have hi2 : inR (i : Int) := by unfold inR; omega
    have := walkAdd W (keepsGT _ _ hG A.b0) A.a (d, 4, i, rootP l, [], true) ⟨day_in (late_day h1), show inR 4 by unfold inR; omega, hi2, by rw [root_len]; omega, by simp⟩ (by omega) (by simp) (by rw [List.append_nil]; exact hr.inx hf)
    rw [List.append_nil] at this
    exact this
  have HX : Aside (o.2.2.2.1.length ≤ 4000 ∧ (∀ b o, S b o → b < w.heap.size) ∧ RepC Tryz.prog S w noOw (.sl none 65 (o.2.2.2.1.map (toV shFix))) [.slice ha o.2.2.2.1.length hc] ∧ RepCs Tryz.prog S w noOw (o.2.2.1.map (toV shEdn)) cs ∧ i < o.2.2.1.length) := ⟨by omega, hS, hh, hrs, hi⟩
  obtain ⟨ga, gc, hE, -⟩ := edn_at' he hi
  have HE : Aside (EdnC w eb (eo + i * 5) (o.2.2.1.getD i E0) (.slice ga (o.2.2.1.getD i E0).2.2.2.2.length gc) ∧ R0 = ⟨(o.2.2.1.getD i E0).2.2.2.1.toArray⟩) := ⟨hE, by rw [hR0, h3]⟩
  have R0' := obj_row8 (heap_alloc2_old w (Go.Obj.cells (encO o (.slice (some ⟨eb, eo, none⟩) o.2.2.1.length ec) (.slice ha o.2.2.2.1.length hc)).toArray 32 (0, 0)) (Go.Obj.cells #[.int .i64 0, .int .i64 0, .slice none 0 0, .slice none 0 0, .int .i64 0, .int .i64 0, .int .i64 0, .int .i64 0] 32 (0, 0)))
  unfold encO at H15 H51 R0' ⊢
  obtain ⟨z0, z1, z2, z3, z4, z5, z6, z7, y0, y1, y2, y3, y4, y5, y6, y7⟩ := R0'
  clear he hh hf hr hS hG h0 h1 h2 h3 h4 hE hR0 hcs hrs hl hfv hi
  go_enter Tryz.func27, Tryz.ntmps27
  go_wp2_with (first
    | (go_at_call 15; refine (H15.out _ ObjW.start).mono ?_; rintro e w1 ⟨rfl, hb⟩; have H : Aside (ObjW w w1 o _ _) := ObjW.step ObjW.start hb; clear hb z0 z1 z2 z3 z4 z5 z6 z7 y0 y1 y2 y3 y4 y5 y6 y7; obtain ⟨z0, z1, z2, z3, z4, z5, z6, z7, y0, y1, y2, y3, y4, y5, y6, y7⟩ := obj_row8 H.out.ob)
    | (go_at_call 51; refine (H51.out _ H.out).mono ?_; rintro e w3 ⟨rfl, hb⟩; have H3 : Aside (ObjW w w3 o _ _) := ObjW.step H.out hb; clear hb z0 z1 z2 z3 z4 z5 z6 z7 y0 y1 y2 y3 y4 y5 y6 y7)
    | (go_at_call 38; refine (H38.out _ H3.out.b0).mono ?_; rintro e w4 ⟨rfl, hb⟩; have H4 : Aside (ObjW w w4 o _ _) := ObjW.step H3.out hb; clear hb; obtain ⟨z0, z1, z2, z3, z4, z5, z6, z7, y0, y1, y2, y3, y4, y5, y6, y7⟩ := obj_row8 H4.out.ob; have p3 := (HE.out.1.below H4.out.b0).c3; rw [← HE.out.2] at p3)
    | (go_at_call 40; refine (H40.out _ H4.out.b0).mono ?_; rintro e w5 ⟨rfl, hb⟩; have H5 : Aside (ObjW w w5 o _ _) := ObjW.step H4.out hb; clear hb p3 z0 z1 z2 z3 z4 z5 z6 z7 y0 y1 y2 y3 y4 y5 y6 y7; obtain ⟨z0, z1, z2, z3, z4, z5, z6, z7, y0, y1, y2, y3, y4, y5, y6, y7⟩ := obj_row8 H5.out.ob))
  have H6 : Aside (ObjW w w5.drew o _ _) := H5.out.step ⟨rfl, rfl, rfl, Nat.le_refl _, fun _ _ => rfl⟩
  go_region_held3 (fun w' => w'.cell? ⟨w.heap.size, 0, none⟩ = some (.int .i64 o.1) ∧ w'.cell? ⟨w.heap.size, 1, none⟩ = some (.int .i64 o.2.1) ∧ w'.cell? ⟨w.heap.size, 2, none⟩ = some (.slice (some ⟨eb, eo, none⟩) o.2.2.1.length ec) ∧ w'.cell? ⟨w.heap.size, 3, none⟩ = some (.slice ha o.2.2.2.1.length hc) ∧
      w'.cell? ⟨w.heap.size, 4, none⟩ = some (.int .i64 o.2.2.2.2.1) ∧ w'.cell? ⟨w.heap.size, 5, none⟩ = some (.int .i64 o.2.2.2.2.2.1) ∧ w'.cell? ⟨w.heap.size, 6, none⟩ = some (.int .i64 o.2.2.2.2.2.2.1) ∧ w'.cell? ⟨w.heap.size, 7, none⟩ = some (.int .i64 o.2.2.2.2.2.2.2))
    (first | exact ⟨z0, z1, z2, z3, z4, z5, z6, z7⟩ | exact ⟨Z7.c0, Z7.c1, Z7.c2, Z7.c3, Z7.c4, Z7.c5, Z7.c6, Z7.c7⟩ | exact ⟨Z8.c0, Z8.c1, Z8.c2, Z8.c3, Z8.c4, Z8.c5, Z8.c6, Z8.c7⟩ | exact ⟨(Z9 _).c0, (Z9 _).c1, (Z9 _).c2, (Z9 _).c3, (Z9 _).c4, (Z9 _).c5, (Z9 _).c6, (Z9 _).c7⟩)
    (first
    | (go_at_call 41; refine (H41.out _ H6.out.b0).mono ?_; rintro e w7 ⟨v7, rfl, ho7, hb7⟩; have G7 : Aside (_ ∧ _) := ⟨ho7, hb7⟩; have B7 : Aside (Below w.heap.size w w7) := (H6.out.step hb7).b0; have Z7 := obj_row8 (H6.out.step hb7).ob; obtain ⟨ca, cc, rfl⟩ := own_form ho7; clear ho7 hb7)
    | (go_at_call 67; refine (H67.out _ _ _ _ B7.out).mono ?_; rintro e w8 ⟨v8, rfl, ho8, hb8⟩; have F8 : Aside _ := rep_arch HX.out.2.2.2.2 HX.out.2.1 HX.out.2.2.1 HX.out.2.2.2.1 H6.out G7.out.2 G7.out.1 hb8 ho8; have Z8 := obj_row8 ((H6.out.step G7.out.2).step hb8).ob; have Z9 := fun ob => obj_row8 ((heap_alloc_old w8 ob (Array.getElem?_eq_some_iff.1 ((H6.out.step G7.out.2).step hb8).ob).1).trans ((H6.out.step G7.out.2).step hb8).ob); obtain ⟨na, nc, rfl⟩ := own_form ho8; clear ho8 hb8))
  go_wp2_with (first
    | (go_at_call 42; refine (HADD.out _ _ _ F8.out).mono ?_; rintro e w9 ⟨rfl, av9, A9, X9⟩; have A9 : Aside _ := A9; have X9 : Aside _ := X9)
    | (go_at_call 43; refine (walkDone _ A9.out HX.out.1 (by simp)).mono ?_; rintro e w10 ⟨v10, rfl, ho, hb⟩; replace ho : w10.ownsRow w9.heap.size 65 6 v10 (o.2.2.2.1.length + 1) (o.2.2.2.1.flatMap encX ++ encX (fixP o.2.2.2.1 d 4 i (rootP l) true)) := (by simpa using ho); have E10 : Aside _ := fin_end HX.out.2.1 F8.out X9.out hb ho; obtain ⟨a10, c10, rfl⟩ := own_form ho; have R1 := row8 (E10.out (.bool true) (.bool true) (.bool true) (.bool true) (.bool true) (.bool true) (.bool true) (.bool true)).1; clear ho hb; obtain ⟨z0, z1, z2, z3, z4, z5, z6, z7, y0, y1, y2, y3, y4, y5, y6, y7⟩ := R1))
  (try simp only [Exit.inBlock, Exit.then])
  have hz := (E10.out (.bool true) (.bool true) (.bool true) (.bool true) (.bool true) (.bool true) (.bool true) (.bool true)).1
  refine bodyPost_ret (results_row_tmp (fn := Tryz.f27) (p := 8) (u := 9) (ty := 32) rfl _ _ (w.heap.size + 1) _ rfl (run_loadVar_row _ (w.heap.size + 1) 32 32 _ (0, 0) _ (put8_row hz _ _ _ _ _ _ _ _) Tryz.underlying32 rfl (by kernel_rfl)) _ rfl) rfl ⟨_, _, rfl, ?_, ?_, ?_⟩
  · exact (E10.out _ _ _ _ _ _ _ _).2.1
  · exact (E10.out _ _ _ _ _ _ _ _).2.2.1
  · exact (E10.out _ _ _ _ _ _ _ _).2.2.2
end Go.Proofs.YtecjedagdpnemaaGreatDoor
