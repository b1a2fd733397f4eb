/-
  preserve.Ingest walked where it makes an object. No condition beyond what each line says.
-/
import Derived.Test.YtecjedagdpnemaaGreatDoorH7
namespace Go.Proofs.YtecjedagdpnemaaGreatDoor
open Go Go.Nu Go.RowKit Go.Sort
set_option linter.unusedVariables false
abbrev E1 (f d : Int) (l : List File) : Edn := (f, -1, d, rootP l, l)
abbrev zero8 : Array Value := #[.int .i64 0, .int .i64 0, .slice none 0 0, .slice none 0 0, .int .i64 0, .int .i64 0, .int .i64 0, .int .i64 0]
structure IngW (w W : World) (t : Rts) : Prop where
  b0 : Below w.heap.size w W
  rb : W.heap[w.heap.size]? = some (.cells (encR t).toArray 24 (0, 0))
  zb : W.heap[w.heap.size + 1]? = some (.cells zero8 32 (0, 0))
theorem IngW.step {w W W1 : World} {t : Rts} (h : IngW w W t) (hb : Below W.heap.size W W1) : IngW w W1 t :=
  ⟨below_tr h.b0 h.b0.size hb, (hb.block _ (Array.getElem?_eq_some_iff.1 h.rb).1).trans h.rb, (hb.block _ (Array.getElem?_eq_some_iff.1 h.zb).1).trans h.zb⟩
theorem IngW.start {w : World} {t : Rts} : IngW w ((w.alloc (Go.Obj.cells (encR t).toArray 24 (0, 0))).alloc (Go.Obj.cells zero8 32 (0, 0))) t := by
  have h1 := ((Below.refl _ w).alloc (Nat.le_refl _) (Go.Obj.cells (encR t).toArray 24 (0, 0)))
  exact ⟨h1.alloc h1.size _, heap_alloc2_old _ _ _, heap_alloc2_new _ _ _⟩
structure RtsC (W : World) (k : Nat) (t : Rts) : Prop where
  c0 : W.cell? ⟨k, 0, none⟩ = some (.int .i64 t.1)
  c1 : W.cell? ⟨k, 1, none⟩ = some (.int .i64 t.2.1)
  c2 : W.cell? ⟨k, 2, none⟩ = some (.int .i64 t.2.2.1)
  c3 : W.cell? ⟨k, 3, none⟩ = some (.int .i64 t.2.2.2)
theorem IngW.c {w W : World} {t : Rts} (h : IngW w W t) : RtsC W w.heap.size t := by
  have h1 := fun o => cell_of_row _ _ o _ _ _ h.rb
  exact ⟨h1 0, h1 1, h1 2, h1 3⟩
structure IngA (S : Nat → Nat → Prop) (w W : World) (n r f d : Int) (t : Rts) (l : List File) (b g : Nat) : Prop where
  i : IngW w W t
  b1 : w.heap.size + 1 < b
  bw : b < W.heap.size
  a : ArchAt W b n r (.slice (some ⟨g, 0, none⟩) 1 1) (.slice none 0 0) t [] (.slice none 0 0) []
  e : RepC Tryz.prog (fun k o => S k o ∨ (b < k ∧ k < W.heap.size)) W noOw (.sl none 63 ([E1 f d l].map (toV shEdn))) [.slice (some ⟨g, 0, none⟩) 1 1]
theorem ing_arch {S : Nat → Nat → Prop} {w w4 w1 : World} {n r f d : Int} {t : Rts} {l : List File} (hl : l.length ≤ 1000) {ca : Option Addr} {cc : Nat} (H : IngW w w4 t)
    (hb : Below (w4.alloc (Go.Obj.cells (aCells n r (.slice none 0 0) (.slice none 0 0) t (.slice none 0 0)) 78 (0, 0))).heap.size (w4.alloc (Go.Obj.cells (aCells n r (.slice none 0 0) (.slice none 0 0) t (.slice none 0 0)) 78 (0, 0))) w1)
    (ho : w1.ownsRow (w4.alloc (Go.Obj.cells (aCells n r (.slice none 0 0) (.slice none 0 0) t (.slice none 0 0)) 78 (0, 0))).heap.size 70 2 (.slice ca l.length cc) l.length (l.flatMap encF)) :
    IngA S w ((w1.alloc (Go.Obj.cells (encE (E1 f d l) (.slice ca l.length cc)).toArray 63 (0, 0))).setCell ⟨w4.heap.size, 2, none⟩ (.slice (some ⟨w1.heap.size, 0, none⟩) 1 1)) n r f d t l w4.heap.size w1.heap.size := by
  have s4 : (w4.alloc (Go.Obj.cells (aCells n r (.slice none 0 0) (.slice none 0 0) t (.slice none 0 0)) 78 (0, 0))).heap.size = w4.heap.size + 1 := by simp
  rw [s4] at ho
  have h4 : w4.heap.size < w1.heap.size := by have := hb.size; omega
  have hrow : w1.heap[w4.heap.size]? = some (.cells (aCells n r (.slice none 0 0) (.slice none 0 0) t (.slice none 0 0)) 78 (0, 0)) := (hb.block _ (by omega)).trans (heap_alloc_new w4 _)
  have hA := (Below.refl _ w4).alloc (Nat.le_refl _) (Go.Obj.cells (aCells n r (.slice none 0 0) (.slice none 0 0) t (.slice none 0 0)) 78 (0, 0))
  have hB : Below w4.heap.size w4 w1 := below_tr hA (by omega) hb
  have hC := hB.alloc hB.size (Go.Obj.cells (encE (E1 f d l) (.slice ca l.length cc)).toArray 63 (0, 0))
  have hD := hC.setCell (p := ⟨w4.heap.size, 2, none⟩) (Nat.le_refl _) (.slice (some ⟨w1.heap.size, 0, none⟩) 1 1)
  have hz := (Array.getElem?_eq_some_iff.1 H.zb).1
  have sz : ((w1.alloc (Go.Obj.cells (encE (E1 f d l) (.slice ca l.length cc)).toArray 63 (0, 0))).setCell ⟨w4.heap.size, 2, none⟩ (.slice (some ⟨w1.heap.size, 0, none⟩) 1 1)).heap.size = w1.heap.size + 1 := by simp [World.setCell]
  refine ⟨H.step hD, hz, by rw [sz]; omega, ⟨?_, SlAt.nil _ _, fun h => absurd rfl h, World.ownsRow_nil _ _ _ _⟩, ?_⟩
  · have : (w1.alloc (Go.Obj.cells (encE (E1 f d l) (.slice ca l.length cc)).toArray 63 (0, 0))).heap[w4.heap.size]? = some (.cells (aCells n r (.slice none 0 0) (.slice none 0 0) t (.slice none 0 0)) 78 (0, 0)) := (heap_alloc_old w1 _ h4).trans hrow
    simp [World.setCell, Array.getElem?_modify, this, aCells]
  · have hg : ((w1.alloc (Go.Obj.cells (encE (E1 f d l) (.slice ca l.length cc)).toArray 63 (0, 0))).setCell ⟨w4.heap.size, 2, none⟩ (.slice (some ⟨w1.heap.size, 0, none⟩) 1 1)).heap[w1.heap.size]? = some (.cells (encE (E1 f d l) (.slice ca l.length cc)).toArray 63 (0, 0)) :=
      (Below.heap_setCell _ _ _ _ (by show w1.heap.size ≠ w4.heap.size; omega)).trans (heap_alloc_new w1 _)
    refine edns_rep (l := [E1 f d l]) (own_new (n := 1) (k := 5) hg rfl (by unfold maxLen; omega)) (fun k o h1 h2 => .inr ⟨by omega, h2⟩) ?_
    have hc : ((w1.alloc (Go.Obj.cells (encE (E1 f d l) (.slice ca l.length cc)).toArray 63 (0, 0))).setCell ⟨w4.heap.size, 2, none⟩ (.slice (some ⟨w1.heap.size, 0, none⟩) 1 1)).ownsRow (w4.heap.size + 1) 70 2 (.slice ca l.length cc) l.length (l.flatMap encF) := own_set (ho.alloc _) (by show w4.heap.size < _; omega)
    have := RepCs.cons (P := Tryz.prog) noOw (edn_rep (x := E1 f d l) (files_rep hc (S' := fun k o => S k o ∨ (w4.heap.size < k ∧ k < ((w1.alloc (Go.Obj.cells (encE (E1 f d l) (.slice ca l.length cc)).toArray 63 (0, 0))).setCell ⟨w4.heap.size, 2, none⟩ (.slice (some ⟨w1.heap.size, 0, none⟩) 1 1)).heap.size)) (fun k o h1 h2 => .inr ⟨by omega, h2⟩))) (.nil noOw)
    exact this
theorem ing_c {w4 w1 : World} {n r : Int} {t : Rts} (hb : Below (w4.alloc (Go.Obj.cells (aCells n r (.slice none 0 0) (.slice none 0 0) t (.slice none 0 0)) 78 (0, 0))).heap.size (w4.alloc (Go.Obj.cells (aCells n r (.slice none 0 0) (.slice none 0 0) t (.slice none 0 0)) 78 (0, 0))) w1) (ob : Go.Obj) :
    (w1.alloc ob).cell? ⟨w4.heap.size, 2, none⟩ = some (.slice none 0 0) ∧ (w1.alloc ob).frozen? ⟨w4.heap.size, 2, none⟩ = false := by
  have s4 : (w4.alloc (Go.Obj.cells (aCells n r (.slice none 0 0) (.slice none 0 0) t (.slice none 0 0)) 78 (0, 0))).heap.size = w4.heap.size + 1 := by simp
  have h4 : w4.heap.size < w1.heap.size := by have := hb.size; omega
  have hrow : (w1.alloc ob).heap[w4.heap.size]? = some (.cells (aCells n r (.slice none 0 0) (.slice none 0 0) t (.slice none 0 0)) 78 (0, 0)) := (heap_alloc_old w1 _ h4).trans ((hb.block _ (by omega)).trans (heap_alloc_new w4 _))
  exact ⟨cell_of_row _ _ 2 _ _ _ hrow, by simp [World.frozen?, hrow]⟩
theorem ing_end {S : Nat → Nat → Prop} {w W W4 W5 : World} {n r f d : Int} {t : Rts} {l : List File} {b g : Nat} (hS : ∀ b o, S b o → b < w.heap.size) (A : IngA S w W n r f d t l b g) {x : Fix} {v5 : Value}
    (hX : BelowX (fun k => k = b ∨ (Value.slice none 0 0).ownBlock = some k) W W4) (h5 : Below W4.heap.size W4 W5) (ho : W5.ownsRow W4.heap.size 65 6 v5 1 (encX x)) (a0 a1 a2 a3 a4 a5 a6 a7 : Value) :
    W5.heap[w.heap.size + 1]? = some (.cells zero8 32 (0, 0)) ∧ Below w.heap.size w (put8 W5 (w.heap.size + 1) a0 a1 a2 a3 a4 a5 a6 a7) ∧
      RepC Tryz.prog (grow S w (put8 W5 (w.heap.size + 1) a0 a1 a2 a3 a4 a5 a6 a7)) (put8 W5 (w.heap.size + 1) a0 a1 a2 a3 a4 a5 a6 a7) noOw (.sl none 63 ([E1 f d l].map (toV shEdn))) [.slice (some ⟨g, 0, none⟩) 1 1] ∧
      RepC Tryz.prog (grow S w (put8 W5 (w.heap.size + 1) a0 a1 a2 a3 a4 a5 a6 a7)) (put8 W5 (w.heap.size + 1) a0 a1 a2 a3 a4 a5 a6 a7) noOw (.sl none 65 ([x].map (toV shFix))) [v5] := by
  have hW := A.i.b0.size
  have hb := A.b1
  have hbw := A.bw
  have h4 := hX.size
  have hx : ∀ k, k < W.heap.size → k ≠ b → W5.heap[k]? = W.heap[k]? := fun k hk hn =>
    (h5.block k (by omega)).trans (hX.block k hk (fun h => by rcases h with h | h; exact hn h; cases h))
  have hB5 : Below w.heap.size w W5 := ⟨h5.os.trans (hX.os.trans A.i.b0.os), h5.tape.trans (hX.tape.trans A.i.b0.tape), h5.output.trans (hX.output.trans A.i.b0.output), by have := h5.size; omega, fun k hk => (hx k (by omega) (by omega)).trans (A.i.b0.block k hk)⟩
  have s5 : (put8 W5 (w.heap.size + 1) a0 a1 a2 a3 a4 a5 a6 a7).heap.size = W5.heap.size := by simp [World.setCell]
  have hp : ∀ k, k ≠ w.heap.size + 1 → (put8 W5 (w.heap.size + 1) a0 a1 a2 a3 a4 a5 a6 a7).heap[k]? = W5.heap[k]? := fun k hk => by
    simp only [put8]
    rw [Below.heap_setCell _ _ _ _ hk, Below.heap_setCell _ _ _ _ hk, Below.heap_setCell _ _ _ _ hk, Below.heap_setCell _ _ _ _ hk, Below.heap_setCell _ _ _ _ hk, Below.heap_setCell _ _ _ _ hk, Below.heap_setCell _ _ _ _ hk, Below.heap_setCell _ _ _ _ hk]
  refine ⟨(hx _ (by omega) (by omega)).trans A.i.zb, put8_below hB5 (by omega) _ _ _ _ _ _ _ _, ?_, ?_⟩
  · refine A.e.mono ⟨fun k o h => ?_, fun k o h => ?_, fun _ _ _ _ h => by cases h⟩
    · rcases h with h | ⟨h1, h2⟩
      · exact .inl h
      · exact .inr ⟨by omega, by rw [s5]; have := h5.size; omega⟩
    · have hk : k < W.heap.size ∧ k ≠ b ∧ k ≠ w.heap.size + 1 := by
        rcases h with h | ⟨h1, h2⟩
        · have := hS k o h; omega
        · omega
      exact World.cell?_of_block (a := ⟨k, o, none⟩) ((hp k hk.2.2).trans (hx k hk.1 hk.2.1))
  · refine his_rep (B := W4.heap.size) (l := [x]) (put8_own ho (by omega) _ _ _ _ _ _ _ _) fun k o h1 h2 => .inr ⟨by omega, h2⟩
set_option maxHeartbeats 4000000 in
set_option maxRecDepth 100000 in
theorem walkIngest {S : Nat → Nat → Prop} (n r f d : Int) (l : List File) (t : Rts) (h1 : idB n = true) (h2 : idB r = true) (h3 : idB f = true) (h4 : dayB d = true) (h5 : rightP l = 0) (h6 : rgtP t = 0) (hl : Fit l) (w : World) (hG : GT w) (hS : ∀ b o, S b o → b < w.heap.size)
    (fv : Value) (hf : RepC Tryz.prog S w noOw (.sl none 70 (l.map (toV shFile))) [fv]) :
    Calls Tryz.prog 12 #[.int .i64 n, .int .i64 r, .int .i64 f, .int .i64 d, fv, .agg #[.int .i64 t.1, .int .i64 t.2.1, .int .i64 t.2.2.1, .int .i64 t.2.2.2]] w fun e w' => ∃ ev hv, e = .returned (.tuple #[.agg (encO (n, r, [E1 f d l], [fixP [] d 1 0 (rootP l) true], t) ev hv).toArray, .int .i64 0]) ∧ Below w.heap.size w w' ∧
      RepC Tryz.prog (grow S w w') w' noOw (.sl none 63 ([E1 f d l].map (toV shEdn))) [ev] ∧ RepC Tryz.prog (grow S w w') w' noOw (.sl none 65 ([fixP [] d 1 0 (rootP l) true].map (toV shFix))) [hv] := by
  have HI : Aside (∀ m w1, IngW w w1 t → (m = n ∨ m = r ∨ m = f) → Calls Tryz.prog 36 #[.int .i64 m] w1 fun e w' => e = .returned (.bool true) ∧ Below w1.heap.size w1 w') := fun m w1 hw hm => by
    have := call36 m w1 (keepsGT _ _ hG hw.b0)
    rcases hm with rfl | rfl | rfl
    · rwa [h1] at this
    · rwa [h2] at this
    · rwa [h3] at this
  have HD : Aside (∀ w1, IngW w w1 t → Calls Tryz.prog 37 #[.int .i64 d] w1 fun e w' => e = .returned (.bool true) ∧ Below w1.heap.size w1 w') := fun w1 hw => by
    have := call37 d w1 (keepsGT _ _ hG hw.b0)
    rwa [h4] at this
  have HR : Aside (∀ w1, IngW w w1 t → Calls Tryz.prog 38 #[fv] w1 fun e w' => e = .returned (.int .i64 0) ∧ Below w1.heap.size w1 w') := fun w1 hw => by
    have := call38 l hl fv hf hS w1 hw.b0 (keepsGT _ _ hG hw.b0)
    rwa [h5] at this
  have HT : Aside (∀ w1, IngW w w1 t → Calls Tryz.prog 39 #[.agg #[.int .i64 t.1, .int .i64 t.2.1, .int .i64 t.2.2.1, .int .i64 t.2.2.2]] w1 fun e w' => e = .returned (.int .i64 0) ∧ Below w1.heap.size w1 w') := fun w1 hw => by
    have := call39 t w1 (keepsGT _ _ hG hw.b0)
    rwa [h6] at this
  obtain ⟨R0, hR0⟩ : ∃ R0 : ByteArray, R0 = ⟨(rootP l).toArray⟩ := ⟨_, rfl⟩
  have HO : Aside (∀ w1, IngW w w1 t → Calls Tryz.prog 40 #[fv] w1 fun e w' => e = .returned (.string R0) ∧ Below w1.heap.size w1 w') := fun w1 hw => by
    rw [hR0]
    exact call40 l hl fv hf hS w1 hw.b0 (keepsGT _ _ hG hw.b0)
  have HC : Aside (∀ w1, Below w.heap.size w w1 → Calls Tryz.prog 41 #[fv] w1 fun e w' => ∃ v', e = .returned v' ∧ w'.ownsRow w1.heap.size 70 2 v' l.length (l.flatMap encF) ∧ Below w1.heap.size w1 w') := fun w1 hw => callClone41 w1 ((files_at hf).below hw) (by have := hl.1; omega)
  have HX : Aside (l.length ≤ 1000 ∧ R0 = ⟨(rootP l).toArray⟩ ∧ GT w ∧ inR d ∧ (∀ b o, S b o → b < w.heap.size)) := ⟨hl.1, hR0, hG, day_in h4, hS⟩
  have HADD : Aside (∀ W b g, IngA S w W n r f d t l b g → Calls Tryz.prog 42 #[.pointer (some ⟨b, 0, none⟩), .agg #[.int .i64 d, .int .i64 1, .int .i64 0, .string R0, .string ⟨#[]⟩, .bool true]] W fun e w' => e = .returned (.tuple #[]) ∧ ∃ av', ArchAt w' b n r (.slice (some ⟨g, 0, none⟩) 1 1) (.slice none 0 0) t [] av' [fixP [] d 1 0 (rootP l) true] ∧ BelowX (fun k => k = b ∨ (Value.slice none 0 0).ownBlock = some k) W w') := fun W b g A => by
    rw [hR0]
    exact walkAdd W (keepsGT _ _ hG A.i.b0) A.a (d, 1, 0, rootP l, [], true) ⟨day_in h4, show inR 1 by unfold inR; omega, show inR 0 by unfold inR; omega, by rw [root_len]; omega, by simp⟩ (by simp) (by simp) (fun y hy => by cases hy)
  obtain ⟨fa, fc, rfl⟩ := sl_form hf
  rw [lenF] at *
  clear h1 h2 h3 h4 h5 h6 hl hf hS hG hR0
  go_enter Tryz.func12, Tryz.ntmps12
  go_wp2_with (first
    | (go_at_call 36; refine (HI.out _ _ (by first | exact H.out | exact IngW.start) (by first | exact .inl rfl | exact .inr (.inl rfl) | exact .inr (.inr rfl))).mono ?_; rintro e w1 ⟨rfl, hb⟩; have H : Aside (IngW w w1 t) := IngW.step (by first | exact H.out | exact IngW.start) hb; clear hb)
    | (go_at_call 37; refine (HD.out _ H.out).mono ?_; rintro e w1 ⟨rfl, hb⟩; have H : Aside (IngW w w1 t) := IngW.step H.out hb; clear hb)
    | (go_at_call 38; refine (HR.out _ H.out).mono ?_; rintro e w1 ⟨rfl, hb⟩; have H : Aside (IngW w w1 t) := IngW.step H.out hb; clear hb; obtain ⟨k0, k1, k2, k3⟩ := H.out.c)
    | (go_at_call 39; refine (HT.out _ H.out).mono ?_; rintro e w1 ⟨rfl, hb⟩; have H : Aside (IngW w w1 t) := IngW.step H.out hb; clear hb k0 k1 k2 k3)
    | (go_at_call 40; refine (HO.out _ H.out).mono ?_; rintro e w4 ⟨rfl, hb⟩; have H : Aside (IngW w w4 t) := IngW.step H.out hb; clear hb; obtain ⟨k0, k1, k2, k3⟩ := H.out.c)
    | (go_at_call 41; refine (HC.out _ (H.out.b0.alloc H.out.b0.size _)).mono ?_; rintro e w1 ⟨v1, rfl, ho, hb⟩; obtain ⟨ca, cc, rfl⟩ := own_form ho; have HA := ing_arch (S := S) (f := f) (d := d) HX.out.1 H.out hb ho; unfold encE at HA; rw [← HX.out.2.1] at HA; dsimp only at HA; have C2 := ing_c hb; obtain ⟨c2, f2⟩ := C2 (Go.Obj.cells #[.int .i64 f, .int .i64 (-1), .int .i64 d, .string R0, .slice ca l.length cc] 63 (0, 0)); have HA : Aside _ := HA; clear C2 ho hb k0 k1 k2 k3)
    | (go_at_call 42; refine (HADD.out _ _ _ HA.out).mono ?_; rintro e w5 ⟨rfl, av5, A5, X5⟩; have A5 : Aside _ := A5; have X5 : Aside _ := X5; clear c2 f2)
    | (go_at_call 43; refine (walkDone _ A5.out (by simp) (by simp)).mono ?_; rintro e w6 ⟨v6, rfl, ho6, hb6⟩; replace ho6 : w6.ownsRow w5.heap.size 65 6 v6 1 (encX (fixP [] d 1 0 (rootP l) true)) := (by simpa using ho6); have E6 : Aside _ := ing_end HX.out.2.2.2.2 HA.out X5.out hb6 ho6; obtain ⟨a6, c6, rfl⟩ := own_form ho6; have R1 := row8 (E6.out (.bool true) (.bool true) (.bool true) (.bool true) (.bool true) (.bool true) (.bool true) (.bool true)).1; clear ho6 hb6; obtain ⟨z0, z1, z2, z3, z4, z5, z6, z7, y0, y1, y2, y3, y4, y5, y6, y7⟩ := R1))
  (try simp only [Exit.inBlock, Exit.then])
  have hz := (E6.out (.bool true) (.bool true) (.bool true) (.bool true) (.bool true) (.bool true) (.bool true) (.bool true)).1
  refine bodyPost_ret (results_row_tmp (fn := Tryz.f12) (p := 12) (u := 13) (ty := 32) rfl _ _ (w.heap.size + 1) _ rfl (run_loadVar_row _ (w.heap.size + 1) 32 32 _ (0, 0) _ (put8_row hz _ _ _ _ _ _ _ _) Tryz.underlying32 rfl (by kernel_rfl)) _ rfl) rfl ⟨_, _, rfl, ?_, ?_, ?_⟩
  · exact (E6.out _ _ _ _ _ _ _ _).2.1
  · exact (E6.out _ _ _ _ _ _ _ _).2.2.1
  · exact (E6.out _ _ _ _ _ _ _ _).2.2.2
end Go.Proofs.YtecjedagdpnemaaGreatDoor
