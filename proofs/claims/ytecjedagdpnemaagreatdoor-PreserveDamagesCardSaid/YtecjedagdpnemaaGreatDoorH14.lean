/-
  the reference's Damage walked where it damages a byte. No condition beyond what each line says.
-/
import Derived.Test.YtecjedagdpnemaaGreatDoorH13
namespace Go.Proofs.YtecjedagdpnemaaGreatDoor
open Go Go.Nu Go.RowKit Go.Sort
set_option linter.unusedVariables false
theorem app_fresh (w : World) (fb fo n c : Nat) (news : List Value) (hl : news.length = n * 2) (hn : n ≤ 100000) (hc : ∀ j u, news[j]? = some u → w.cell? ((⟨fb, fo, none⟩ : Addr).add j) = some u) (h1 : ∀ u ∈ news, u.oneCell' = true) :
    ∃ v' w', (Builtin.append_ #[22, 22] 22 #[.slice (some ⟨w.heap.size, 0, none⟩) 0 0, .slice (some ⟨fb, fo, none⟩) n c]).run Tryz.prog (w.alloc (Go.Obj.cells #[] 70 (0, 0))) = .ok v' w' ∧ w'.ownsRow w.heap.size 70 2 v' n news ∧ Below w.heap.size w w' := by
  obtain ⟨i0, z, q1, q2, q3, q4, q5⟩ := info70
  obtain ⟨v', w', hr, h2, h3, _⟩ := run_append_own (P := Tryz.prog) (w := w.alloc (Go.Obj.cells #[] 70 (0, 0))) w.heap.size 22 22 70 i0 z 2 32 Tryz.underlying22 q1 q2 q3 q4 q5 (by omega) _ 0 [] (World.ownsRow_made w #[] 0 (Nat.le_refl _) (Nat.zero_le _) (by simp)) ⟨fb, fo, none⟩ n c news hl (fun j u hj => Lib.cell?_alloc_some _ (hc j u hj)) h1 (by unfold maxLen; omega) (by omega) (by simp)
  refine ⟨v', w', hr, by simpa using h2, ((Below.refl _ w).alloc (Nat.le_refl _) _).grown h3 (by simp) (by intro k hk; simp [Value.ownBlock] at hk; omega)⟩
theorem call29 {S : Nat → Nat → Prop} {w0 : World} (o : Obj) (hf : FitO o) {c : Value} (hc : Rep1 Tryz.prog S w0 noOw (toV shObj o) c) (hS : ∀ b o, S b o → b < w0.heap.size) (w : World) (hb : Below w0.heap.size w0 w) (hg : GT w) :
    Calls Tryz.prog 29 #[c] w fun e w' => e = .returned (.int .i64 (objP o)) ∧ Below w.heap.size w w' := by
  obtain ⟨ev, hv, rfl, h1, h2⟩ := obj_inv hc
  exact call_sim (S := S) (cargs := [_]) (k29.sim rfl o _ (c29 o hf)) (rep_int _ _) w hg (fun b o h => Nat.lt_of_lt_of_le (hS b o h) hb.size) ⟨obj_rep (h1.mono (le_below hS hb)) (h2.mono (le_below hS hb)), trivial⟩
theorem call68 {S : Nat → Nat → Prop} (o : Obj) (i : Nat) (l : List File) (hi : i < o.2.2.1.length) (hn : o.2.2.1.length ≤ 1000) {ev hv fv : Value} (W : World) (hG : GT W) (hS : ∀ b o, S b o → b < W.heap.size) (he : RepC Tryz.prog S W noOw (.sl none 63 (o.2.2.1.map (toV shEdn))) [ev]) (hh : RepC Tryz.prog S W noOw (.sl none 65 (o.2.2.2.1.map (toV shFix))) [hv]) (hf : RepC Tryz.prog S W noOw (.sl none 70 (l.map (toV shFile))) [fv]) :
    Calls Tryz.prog 68 #[.agg (encO o ev hv).toArray, .int .i64 (i : Int), fv] W fun e w' => ∃ ev' hv', e = .returned (.agg (encO o ev' hv').toArray) ∧ Below W.heap.size W w' ∧ ∃ S' : Nat → Nat → Prop, (∀ b o, S' b o → b < w'.heap.size) ∧ (∀ b o, b < W.heap.size → (S' b o ↔ S b o)) ∧
      RepC Tryz.prog S' w' noOw (.sl none 63 ((withP o i l).2.2.1.map (toV shEdn))) [ev'] ∧ RepC Tryz.prog S' w' noOw (.sl none 65 (o.2.2.2.1.map (toV shFix))) [hv'] := by
  have k := k68.sim rfl (o, (i : Int), l) _ (c68 o i l ⟨by omega, by omega⟩ hn)
  rw [Int.toNat_natCast] at k
  refine (k W S [_, _, _] hG hS ⟨obj_rep he hh, RepC.int noOw .i64 _, hf, trivial⟩).mono ?_
  rintro e w' ⟨c, rfl, hb, S', h1, h2, hc⟩
  obtain ⟨ev', hv', rfl, h3, h4⟩ := obj_inv (o := withP o i l) hc
  exact ⟨ev', hv', rfl, hb, S', h1, h2, h3, h4⟩
theorem dmgR_end {S S' : Nat → Nat → Prop} {o : Obj} {ev hv : Value} {w W5 w8 : World} {vs vs' : V} {B0 : Nat} {nv nh : Value} (hS : ∀ b o, S b o → b < w.heap.size) (H : ObjW w W5 o ev hv) (hB : w.heap.size + 1 < B0) (h8 : Below W5.heap.size W5 w8) (h1 : ∀ b o, S' b o → b < w8.heap.size) (h2 : ∀ b o, b < W5.heap.size → (S' b o ↔ S b o ∨ (B0 ≤ b ∧ b < W5.heap.size)))
    (h3 : RepC Tryz.prog S' w8 noOw vs [nv]) (h4 : RepC Tryz.prog S' w8 noOw vs' [nh]) (a0 a1 a2 a3 a4 a5 a6 a7 : Value) :
    w8.heap[w.heap.size + 1]? = some (.cells zero8 32 (0, 0)) ∧ Below w.heap.size w (put8 w8 (w.heap.size + 1) a0 a1 a2 a3 a4 a5 a6 a7) ∧
      RepC Tryz.prog (grow S w (put8 w8 (w.heap.size + 1) a0 a1 a2 a3 a4 a5 a6 a7)) (put8 w8 (w.heap.size + 1) a0 a1 a2 a3 a4 a5 a6 a7) noOw vs [nv] ∧ RepC Tryz.prog (grow S w (put8 w8 (w.heap.size + 1) a0 a1 a2 a3 a4 a5 a6 a7)) (put8 w8 (w.heap.size + 1) a0 a1 a2 a3 a4 a5 a6 a7) noOw vs' [nh] := by
  have H8 := H.step h8
  have k8 := h8.size
  have hz := (Array.getElem?_eq_some_iff.1 H.zb).1
  have s8 : (put8 w8 (w.heap.size + 1) a0 a1 a2 a3 a4 a5 a6 a7).heap.size = w8.heap.size := by simp [World.setCell]
  have hp : ∀ k, k ≠ w.heap.size + 1 → (put8 w8 (w.heap.size + 1) a0 a1 a2 a3 a4 a5 a6 a7).heap[k]? = w8.heap[k]? := fun k hk => by
    simp only [put8]
    rw [Below.heap_setCell _ _ _ _ hk, Below.heap_setCell _ _ _ _ hk, Below.heap_setCell _ _ _ _ hk, Below.heap_setCell _ _ _ _ hk, Below.heap_setCell _ _ _ _ hk, Below.heap_setCell _ _ _ _ hk, Below.heap_setCell _ _ _ _ hk, Below.heap_setCell _ _ _ _ hk]
  have hle : Le S' (grow S w (put8 w8 (w.heap.size + 1) a0 a1 a2 a3 a4 a5 a6 a7)) noOw noOw w8 (put8 w8 (w.heap.size + 1) a0 a1 a2 a3 a4 a5 a6 a7) := by
    have key : ∀ b o, S' b o → (S b o ∨ w.heap.size + 1 < b) ∧ b < w8.heap.size := fun b o h => by
      refine ⟨?_, h1 b o h⟩
      by_cases hb : b < W5.heap.size
      · rcases (h2 b o hb).1 h with h | ⟨h, _⟩
        · exact .inl h
        · exact .inr (by omega)
      · exact .inr (by omega)
    refine ⟨fun k o h => ?_, fun k o h => ?_, fun _ _ _ _ h => by cases h⟩
    · rcases (key k o h).1 with h' | h'
      · exact .inl h'
      · exact .inr ⟨by omega, by rw [s8]; exact (key k o h).2⟩
    · have hk : k ≠ w.heap.size + 1 := by
        rcases (key k o h).1 with h' | h'
        · have := hS k o h'; omega
        · omega
      exact World.cell?_of_block (a := ⟨k, o, none⟩) (hp k hk)
  exact ⟨H8.zb, put8_below H8.b0 (by omega) _ _ _ _ _ _ _ _, h3.mono hle, h4.mono hle⟩
theorem dmgR_call {S : Nat → Nat → Prop} {o : Obj} {ev hv : Value} {w W5 : World} {i B0 : Nat} {l : List File} {cv : Value} (hi : i < o.2.2.1.length) (hn : o.2.2.1.length ≤ 1000) (hS : ∀ b o, S b o → b < w.heap.size) (hG : GT w) (he : RepC Tryz.prog S w noOw (.sl none 63 (o.2.2.1.map (toV shEdn))) [ev]) (hh : RepC Tryz.prog S w noOw (.sl none 65 (o.2.2.2.1.map (toV shFix))) [hv])
    (H : ObjW w W5 o ev hv) (hB : w.heap.size + 1 < B0) (ho5 : W5.ownsRow B0 70 2 cv l.length (l.flatMap encF)) :
    Calls Tryz.prog 68 #[.agg (encO o ev hv).toArray, .int .i64 (i : Int), cv] W5 fun e w8 => ∃ na nn nc ka kn kc, e = .returned (.agg (encO o (.slice na nn nc) (.slice ka kn kc)).toArray) ∧ ∀ a0 a1 a2 a3 a4 a5 a6 a7 : Value,
      w8.heap[w.heap.size + 1]? = some (.cells zero8 32 (0, 0)) ∧ Below w.heap.size w (put8 w8 (w.heap.size + 1) a0 a1 a2 a3 a4 a5 a6 a7) ∧
      RepC Tryz.prog (grow S w (put8 w8 (w.heap.size + 1) a0 a1 a2 a3 a4 a5 a6 a7)) (put8 w8 (w.heap.size + 1) a0 a1 a2 a3 a4 a5 a6 a7) noOw (.sl none 63 ((withP o i l).2.2.1.map (toV shEdn))) [.slice na nn nc] ∧ RepC Tryz.prog (grow S w (put8 w8 (w.heap.size + 1) a0 a1 a2 a3 a4 a5 a6 a7)) (put8 w8 (w.heap.size + 1) a0 a1 a2 a3 a4 a5 a6 a7) noOw (.sl none 65 (o.2.2.2.1.map (toV shFix))) [.slice ka kn kc] := by
  have hle : Le S (fun b o => S b o ∨ (B0 ≤ b ∧ b < W5.heap.size)) noOw noOw w W5 := ⟨fun _ _ h => .inl h, fun b o h => H.b0.cell (p := ⟨b, o, none⟩) (hS b o h), fun _ _ _ _ h => by cases h⟩
  refine (call68 (S := fun b o => S b o ∨ (B0 ≤ b ∧ b < W5.heap.size)) o i l hi hn W5 (keepsGT _ _ hG H.b0) (fun b o h => ?_) (he.mono hle) (hh.mono hle) (files_rep ho5 fun b o h1 h2 => .inr ⟨h1, h2⟩)).mono ?_
  · rcases h with h | h
    · exact Nat.lt_of_lt_of_le (hS b o h) H.b0.size
    · exact h.2
  · rintro e w8 ⟨ev', hv', rfl, hb, S', h1, h2, h3, h4⟩
    obtain ⟨na, nc, rfl⟩ := sl_form h3
    obtain ⟨ka, kc, rfl⟩ := sl_form h4
    exact ⟨na, _, nc, ka, _, kc, rfl, fun a0 a1 a2 a3 a4 a5 a6 a7 => dmgR_end hS H hB hb h1 h2 h3 h4 a0 a1 a2 a3 a4 a5 a6 a7⟩
set_option maxHeartbeats 8000000 in
set_option maxRecDepth 100000 in
theorem walkDamageR {S : Nat → Nat → Prop} (o : Obj) (i f a : Nat) (h0 : objP o = 0) (hi : i < o.2.2.1.length) (hfl : f < (o.2.2.1.getD i E0).2.2.2.2.length) (hal : a < ((o.2.2.1.getD i E0).2.2.2.2.getD f ([], [])).2.length) (hf : FitO o)
    (w : World) (hG : GT w) (hS : ∀ b o, S b o → b < w.heap.size)
    (ev hv : Value) (he : RepC Tryz.prog S w noOw (.sl none 63 (o.2.2.1.map (toV shEdn))) [ev]) (hh : RepC Tryz.prog S w noOw (.sl none 65 (o.2.2.2.1.map (toV shFix))) [hv]) :
    Calls Tryz.prog 26 #[.agg (encO o ev hv).toArray, .int .i64 (i : Int), .int .i64 (f : Int), .int .i64 (a : Int)] w fun e w' => ∃ ev' hv', e = .returned (.tuple #[.agg #[.int .i64 o.1, .int .i64 o.2.1, ev', hv', .int .i64 o.2.2.2.2.1, .int .i64 o.2.2.2.2.2.1, .int .i64 o.2.2.2.2.2.2.1, .int .i64 o.2.2.2.2.2.2.2], .int .i64 0]) ∧ Below w.heap.size w w' ∧
      RepC Tryz.prog (grow S w w') w' noOw (.sl none 63 ((withP o i (dmgF (o.2.2.1.getD i E0).2.2.2.2 f a)).2.2.1.map (toV shEdn))) [ev'] ∧ RepC Tryz.prog (grow S w w') w' noOw (.sl none 65 (o.2.2.2.1.map (toV shFix))) [hv'] := by
  have hr := rightO_of h0
  have r1 := hr.e1
  have r8 := hr.e8
  have i0 : ¬ (i : Int) < 0 := by omega
  have i1 : (i : Int) < (o.2.2.1.length : Int) := by omega
  have i2 : (i : Int) < 8 := by omega
  obtain ⟨cs, hcs, hrs⟩ := edns_at he
  obtain ⟨eb, eo, ec, -, rfl, -, -⟩ := edn_at he (i := 0) (by omega)
  obtain ⟨ha, hc, rfl⟩ := sl_form hh
  rw [lenX] at *
  obtain ⟨ga, gc, hE, hfv⟩ := edn_at' he hi
  obtain ⟨fb, fo, fc, hfe, hfc⟩ := file_at hfv hfl
  cases hfe
  have hft := (hf.el _ (getD_mem E0 hi)).2
  have H15 : Aside (∀ w1, ObjW w w1 o (.slice (some ⟨eb, eo, none⟩) o.2.2.1.length ec) (.slice ha o.2.2.2.1.length hc) → Calls Tryz.prog 29 #[.agg (encO o (.slice (some ⟨eb, eo, none⟩) o.2.2.1.length ec) (.slice ha o.2.2.2.1.length hc)).toArray] w1 fun e w' => e = .returned (.int .i64 0) ∧ Below w1.heap.size w1 w') := fun w1 hw => by
    have := call29 o hf (obj_rep he hh) hS w1 hw.b0 (keepsGT _ _ hG hw.b0)
    rwa [h0] at this
  have H41 : Aside (∀ w1, Below w.heap.size w w1 → ∃ v' w', (Builtin.append_ #[22, 22] 22 #[.slice (some ⟨w1.heap.size, 0, none⟩) 0 0, .slice (some ⟨fb, fo, none⟩) (o.2.2.1.getD i E0).2.2.2.2.length gc]).run Tryz.prog (w1.alloc (Go.Obj.cells #[] 70 (0, 0))) = .ok v' w' ∧ w'.ownsRow w1.heap.size 70 2 v' (o.2.2.1.getD i E0).2.2.2.2.length ((o.2.2.1.getD i E0).2.2.2.2.flatMap encF) ∧ Below w1.heap.size w1 w') := fun w1 hw => by
    obtain ⟨q1, q2, a1, cap1, e1, q4, q5⟩ := (files_at hfv).below hw
    cases e1
    exact app_fresh w1 fb fo _ gc _ q1 (by have := hft.1; omega) (q5 _ rfl) q2
  have H67 : Aside (∀ W5 B0 (l : List File) cv, ObjW w W5 o (.slice (some ⟨eb, eo, none⟩) o.2.2.1.length ec) (.slice ha o.2.2.2.1.length hc) → w.heap.size + 1 < B0 → W5.ownsRow B0 70 2 cv l.length (l.flatMap encF) → _) := fun W5 B0 l cv H hB ho5 => dmgR_call (i := i) hi (by omega) hS hG he hh H hB ho5
  obtain ⟨L, hL⟩ : ∃ L, L = (o.2.2.1.getD i E0).2.2.2.2 := ⟨_, rfl⟩
  obtain ⟨D, hD⟩ : ∃ D, D = (L.getD f ([], [])).2 := ⟨_, rfl⟩
  rw [← hL, ← hD] at hfc
  rw [← hL, ← hD] at hal
  rw [← hL] at hfl H41 hE
  rw [← hL]
  have hD5 : D.length ≤ 50000 := by rw [hD]; exact (fit_at (hL ▸ hft) f).2
  have hL1 : L.length ≤ 1000 := by rw [hL]; exact hft.1
  have f0 : ¬ (f : Int) < 0 := by omega
  have f1 : (f : Int) < (L.length : Int) := by omega
  have a0 : ¬ (a : Int) < 0 := by omega
  have a1 : (a : Int) < (D.length : Int) := by omega
  have hDs : (⟨D.toArray⟩ : ByteArray).size = D.length := by show D.toArray.size = _; simp
  obtain ⟨u, hu⟩ : ∃ u, D[a]? = some u := ⟨_, List.getElem?_eq_getElem hal⟩
  have HX : Aside ((∀ b o, S b o → b < w.heap.size) ∧ RepCs Tryz.prog S w noOw (o.2.2.1.map (toV shEdn)) cs ∧ i < o.2.2.1.length ∧ EdnC w eb (eo + i * 5) (o.2.2.1.getD i E0) (.slice (some ⟨fb, fo, none⟩) L.length gc) ∧ w.cell? ⟨fb, fo + f * 2 + 1, none⟩ = some (.string ⟨D.toArray⟩) ∧ f < L.length ∧ a < D.length ∧ D = (L.getD f ([], [])).2 ∧ D[a]? = some u) := ⟨hS, hrs, hi, hE, hfc, hfl, hal, hD, hu⟩
  obtain ⟨B2, hB2⟩ : ∃ B2 : ByteArray, B2 = ⟨(dmg D a).toArray⟩ := ⟨_, rfl⟩
  obtain ⟨B, hB⟩ : ∃ B : ByteArray, B = ⟨D.toArray⟩ := ⟨_, rfl⟩
  have hBs : B.size = D.length := by rw [hB]; exact hDs
  have R0' := obj_row8 (heap_alloc2_old w (Go.Obj.cells (encO o (.slice (some ⟨eb, eo, none⟩) o.2.2.1.length ec) (.slice ha o.2.2.2.1.length hc)).toArray 32 (0, 0)) (Go.Obj.cells #[.int .i64 0, .int .i64 0, .slice none 0 0, .slice none 0 0, .int .i64 0, .int .i64 0, .int .i64 0, .int .i64 0] 32 (0, 0)))
  unfold encO at H15 H67 R0' ⊢
  obtain ⟨z0, z1, z2, z3, z4, z5, z6, z7, y0, y1, y2, y3, y4, y5, y6, y7⟩ := R0'
  clear he hh hf hr hS hG h0 hE hcs hrs hft hL hD hDs hfc hfv hi hfl hal hu
  have HB : Aside (B = ⟨D.toArray⟩) := hB
  have HB2 : Aside (B2 = ⟨(dmg D a).toArray⟩) := hB2
  clear hB hB2
  go_enter Tryz.func26, Tryz.ntmps26
  go_wp2_with (first
    | (go_at_call 29; refine (H15.out _ ObjW.start).mono ?_; rintro e w1 ⟨rfl, hb⟩; have H : Aside (ObjW w w1 o _ _) := ObjW.step ObjW.start hb; clear hb z0 z1 z2 z3 z4 z5 z6 z7 y0 y1 y2 y3 y4 y5 y6 y7; obtain ⟨z0, z1, z2, z3, z4, z5, z6, z7, y0, y1, y2, y3, y4, y5, y6, y7⟩ := obj_row8 H.out.ob; have p4 := (HX.out.2.2.2.1.below H.out.b0).c4; have p5 := (H.out.b0.cell (p := ⟨fb, fo + f * 2 + 1, none⟩) (World.block_lt_of_cell? w _ HX.out.2.2.2.2.1)).trans HX.out.2.2.2.2.1; rw [← HB.out] at p5; have z2a := Lib.cell?_alloc_some (Go.Obj.cells #[] 70 (0, 0)) z2; have p4a := Lib.cell?_alloc_some (Go.Obj.cells #[] 70 (0, 0)) p4; obtain ⟨v2, w2, hr2, ho, hb⟩ := H41.out _ H.out.b0; have H2 : Aside (ObjW w w2 o _ _) := H.out.step hb; obtain ⟨g, cap2, rfl, hg1, hg2⟩ := own_grew (w := w2) ho (Nat.lt_of_le_of_lt (Nat.zero_le _) HX.out.2.2.2.2.2.1); obtain ⟨gc2, gf2⟩ := own_cell ho (files_step HX.out.2.2.2.2.2.1); rw [← HX.out.2.2.2.2.2.2.2.1, ← HB.out] at gc2; obtain ⟨cap, C, hcv, hC1, hC2⟩ := conv_bytes w2 D; rw [← HB.out] at hcv; have hr3 := heap_alloc_new w2 (Go.Obj.cells C 5 (C.size, C.size + 1)); have b1 := (cell_of_row _ _ a _ _ _ hr3).trans (hC2 a _ HX.out.2.2.2.2.2.2.2.2); have b2 : (w2.alloc (Go.Obj.cells C 5 (C.size, C.size + 1))).frozen? ⟨w2.heap.size, a, none⟩ = false := (by simp only [World.frozen?, hr3]; have := HX.out.2.2.2.2.2.2.1; simp; omega); have b1d : (w2.alloc (Go.Obj.cells C 5 (C.size, C.size + 1))).drew.cell? ⟨w2.heap.size, a, none⟩ = _ := b1; have b2d : (w2.alloc (Go.Obj.cells C 5 (C.size, C.size + 1))).drew.frozen? ⟨w2.heap.size, a, none⟩ = false := b2; have DW := dmg_world (cap := cap) H2.out (B0 := w1.heap.size) ho hg1 (Array.getElem?_eq_some_iff.1 H.out.zb).1 (files_step HX.out.2.2.2.2.2.1) HX.out.2.2.2.2.2.2.2.2 hC1 hC2 (.string B2); rw [← HX.out.2.2.2.2.2.2.2.1, ← HB.out] at DW; rw [← HB2.out] at DW; have HO : Aside _ := DW.2.2.2; have HP5 : Aside (ObjW w _ o _ _) := HO.out.1.step (below_drew _); have hbk := DW.1; have gc4 := DW.2.1; have gf4 := DW.2.2.1; obtain ⟨q0, q1, q2, q3, q4, q5, q6, q7, -, -, -, -, -, -, -, -⟩ := obj_row8 HO.out.1.ob; clear DW hb ho hg1 hC1 hC2 hr3)
    | (at_builtin; refine Lib.wpList_append_run _ rfl _ _ _ _ rfl _ _ rfl rfl _ _ hr2 ?_)
    | (go_at_call 68; refine (H67.out _ _ (dmgF L f a) _ HP5.out (Array.getElem?_eq_some_iff.1 H.out.zb).1 (by rw [dmgF_len, ← dmgF_flat HX.out.2.2.2.2.2.1, ← HX.out.2.2.2.2.2.2.2.1, ← HB2.out]; exact HO.out.2)).mono ?_; rintro e w8 ⟨na, nn, nc, ka, kn, kc, rfl, E8⟩; have R1 := row8 (E8 (.bool true) (.bool true) (.bool true) (.bool true) (.bool true) (.bool true) (.bool true) (.bool true)).1; have E8 : Aside _ := E8; clear z0 z1 z2 z3 z4 z5 z6 z7 y0 y1 y2 y3 y4 y5 y6 y7 q0 q1 q2 q3 q4 q5 q6 q7; obtain ⟨z0, z1, z2, z3, z4, z5, z6, z7, y0, y1, y2, y3, y4, y5, y6, y7⟩ := R1))
  (try simp only [Exit.inBlock, Exit.then])
  have hz := (E8.out (.bool true) (.bool true) (.bool true) (.bool true) (.bool true) (.bool true) (.bool true) (.bool true)).1
  refine bodyPost_ret (results_row_tmp (fn := Tryz.f26) (p := 8) (u := 9) (ty := 32) rfl _ _ (w.heap.size + 1) _ rfl (run_loadVar_row _ (w.heap.size + 1) 32 32 _ (0, 0) _ (put8_row hz _ _ _ _ _ _ _ _) Tryz.underlying32 rfl (by kernel_rfl)) _ rfl) rfl ⟨_, _, rfl, ?_, ?_, ?_⟩
  · exact (E8.out _ _ _ _ _ _ _ _).2.1
  · exact (E8.out _ _ _ _ _ _ _ _).2.2.1
  · exact (E8.out _ _ _ _ _ _ _ _).2.2.2
end Go.Proofs.YtecjedagdpnemaaGreatDoor
