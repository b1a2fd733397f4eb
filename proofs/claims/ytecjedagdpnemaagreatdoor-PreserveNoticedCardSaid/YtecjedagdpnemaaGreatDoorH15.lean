/-
  What preserve.Migrate's callees return; its boxes. No condition beyond what each line says.
-/
import Derived.Test.YtecjedagdpnemaaGreatDoorH14
namespace Go.Proofs.YtecjedagdpnemaaGreatDoor
open Go Go.Nu Go.RowKit Go.Sort
set_option linter.unusedVariables false
theorem sz72 : sizes Tryz.prog 72 = some [1, 1, 1, 1, 1, 1, 1] := by kernel_rfl
theorem cells72 : Tryz.prog.cellsOf 72 = 7 := by kernel_rfl
def encM (f : Fmt) (tv : Value) : List Value := [.int .i64 f.1, .int .i64 f.2.1, .int .i64 f.2.2.1, .int .i64 f.2.2.2.1, .string ⟨f.2.2.2.2.1.toArray⟩, .string ⟨f.2.2.2.2.2.1.toArray⟩, tv]
set_option maxRecDepth 100000 in
theorem fmt_rep {S : Nat → Nat → Prop} {w : World} {ow : Ow} {f : Fmt} {tv : Value} (h : RepC Tryz.prog S w ow (.sl none 3 (f.2.2.2.2.2.2.map (toV (.int .i64)))) [tv]) : Rep1 Tryz.prog S w ow (toV shFmt f) (.agg (encM f tv).toArray) := by
  refine ⟨encM f tv, rfl, ?_⟩
  show RepC Tryz.prog S w ow (.agg 72 [.int .i64 f.1, .int .i64 f.2.1, .int .i64 f.2.2.1, .int .i64 f.2.2.2.1, .str f.2.2.2.2.1, .str f.2.2.2.2.2.1, .sl none 3 (f.2.2.2.2.2.2.map (toV (.int .i64)))])
    ([.int .i64 f.1] ++ ([.int .i64 f.2.1] ++ ([.int .i64 f.2.2.1] ++ ([.int .i64 f.2.2.2.1] ++ ([.string ⟨f.2.2.2.2.1.toArray⟩] ++ ([.string ⟨f.2.2.2.2.2.1.toArray⟩] ++ ([tv] ++ [])))))))
  exact .agg ow sz72 (by rw [cells72]; rfl) (.cons ow (.int ow .i64 _) (.cons ow (.int ow .i64 _) (.cons ow (.int ow .i64 _) (.cons ow (.int ow .i64 _) (.cons ow (.str ow _) (.cons ow (.str ow _) (.cons ow h (.nil ow)))))))) (by decide)
theorem fmt_inv {S : Nat → Nat → Prop} {w : World} {ow : Ow} {f : Fmt} {c : Value} (h : Rep1 Tryz.prog S w ow (toV shFmt f) c) : ∃ tv, c = .agg (encM f tv).toArray ∧ RepC Tryz.prog S w ow (.sl none 3 (f.2.2.2.2.2.2.map (toV (.int .i64)))) [tv] := by
  obtain ⟨cs, rfl, h⟩ := h
  change RepC Tryz.prog S w ow (.agg 72 [.int .i64 f.1, .int .i64 f.2.1, .int .i64 f.2.2.1, .int .i64 f.2.2.2.1, .str f.2.2.2.2.1, .str f.2.2.2.2.2.1, .sl none 3 (f.2.2.2.2.2.2.map (toV (.int .i64)))]) cs at h
  obtain ⟨c1, r1, rfl, p1, q1⟩ := cons_inv (agg_inv (by decide) h)
  obtain ⟨c2, r2, rfl, p2, q2⟩ := cons_inv q1
  obtain ⟨c3, r3, rfl, p3, q3⟩ := cons_inv q2
  obtain ⟨c4, r4, rfl, p4, q4⟩ := cons_inv q3
  obtain ⟨c5, r5, rfl, p5, q5⟩ := cons_inv q4
  obtain ⟨c6, r6, rfl, p6, q6⟩ := cons_inv q5
  obtain ⟨c7, r7, rfl, p7, q7⟩ := cons_inv q6
  obtain ⟨tv, rfl⟩ := sl_one p7
  rw [int_inv p1, int_inv p2, int_inv p3, int_inv p4, str_inv p5, str_inv p6, nil_inv q7]
  exact ⟨tv, rfl, p7⟩
structure MigW (w W : World) (o : Obj) (ev hv : Value) (ab : Nat) : Prop where
  ow : ObjW w W o ev hv
  a1 : w.heap.size + 1 < ab
  a : ArchAt W ab o.1 o.2.1 ev hv o.2.2.2.2 o.2.2.2.1 (.slice none 0 0) []
theorem MigW.step {w W W1 : World} {o : Obj} {ev hv : Value} {ab : Nat} (h : MigW w W o ev hv ab) (hb : Below W.heap.size W W1) : MigW w W1 o ev hv ab := ⟨h.ow.step hb, h.a1, h.a.below hb⟩
theorem MigW.ab {w W : World} {o : Obj} {ev hv : Value} {ab : Nat} (h : MigW w W o ev hv ab) : ab < W.heap.size := (Array.getElem?_eq_some_iff.1 h.a.blk).1
theorem MigW.start {S : Nat → Nat → Prop} {w w2 : World} {o : Obj} {ev hv : Value} (hS : ∀ b o, S b o → b < w.heap.size) (hh : RepC Tryz.prog S w noOw (.sl none 65 (o.2.2.2.1.map (toV shFix))) [hv]) (H : ObjW w w2 o ev hv) :
    MigW w (w2.alloc (Go.Obj.cells (aCells o.1 o.2.1 ev hv o.2.2.2.2 (.slice none 0 0)) 78 (0, 0))) o ev hv w2.heap.size := by
  have hA := (Below.refl _ w2).alloc (Nat.le_refl _) (Go.Obj.cells (aCells o.1 o.2.1 ev hv o.2.2.2.2 (.slice none 0 0)) 78 (0, 0))
  have hz := (Array.getElem?_eq_some_iff.1 H.zb).1
  obtain ⟨a1, a2⟩ := his_at hh
  refine ⟨H.step hA, hz, heap_alloc_new w2 _, a1.below (H.step hA).b0, fun hn g hg => ?_, World.ownsRow_nil _ _ _ _⟩
  obtain ⟨k, hk⟩ := a2 hn g hg
  have := hS g k hk
  have := H.b0.size
  omega
structure MigS (S Sc : Nat → Nat → Prop) (w W : World) (ab : Nat) : Prop where
  lt : ∀ b o, Sc b o → b < W.heap.size
  sub : ∀ b o, S b o → Sc b o
  own : ∀ b o, Sc b o → S b o ∨ (w.heap.size + 1 < b ∧ b ≠ ab)
theorem MigS.step {S Sc : Nat → Nat → Prop} {w W W1 : World} {ab : Nat} (h : MigS S Sc w W ab) (hs : W.heap.size ≤ W1.heap.size) : MigS S Sc w W1 ab := ⟨fun b o hh => Nat.lt_of_lt_of_le (h.lt b o hh) hs, h.sub, h.own⟩
theorem MigS.call {S Sc S' : Nat → Nat → Prop} {w W W1 : World} {ab : Nat} {o : Obj} {ev hv : Value} (h : MigS S Sc w W ab) (H : MigW w W o ev hv ab) (hs : W.heap.size ≤ W1.heap.size) (h1 : ∀ b o, S' b o → b < W1.heap.size) (h2 : ∀ b o, b < W.heap.size → (S' b o ↔ Sc b o)) : MigS S S' w W1 ab := by
  refine ⟨h1, fun b o hh => (h2 b o (h.lt b o (h.sub b o hh))).2 (h.sub b o hh), fun b o hh => ?_⟩
  by_cases hb : b < W.heap.size
  · exact h.own b o ((h2 b o hb).1 hh)
  · have := H.ab
    have := H.a1
    exact .inr ⟨by omega, by omega⟩
theorem mig_le {Sc S' : Nat → Nat → Prop} {W W1 : World} (h0 : ∀ b o, Sc b o → b < W.heap.size) (hb : Below W.heap.size W W1) (h2 : ∀ b o, b < W.heap.size → (S' b o ↔ Sc b o)) : Le Sc S' noOw noOw W W1 :=
  ⟨fun b o h => (h2 b o (h0 b o h)).2 h, fun b o h => hb.cell (p := ⟨b, o, none⟩) (h0 b o h), fun _ _ _ _ h => by cases h⟩
theorem call21 {S : Nat → Nat → Prop} {w0 : World} (o : Obj) (k : Nat) (hk : o.2.2.1.length = k + 1) (hf : FitO o) {c : Value} (hc : Rep1 Tryz.prog S w0 noOw (toV shObj o) c) (hS : ∀ b o, S b o → b < w0.heap.size) (w : World) (hb : Below w0.heap.size w0 w) (hg : GT w) :
    Calls Tryz.prog 21 #[c] w fun e w' => e = .returned (.int .i64 (k : Int)) ∧ Below w.heap.size w w' := by
  obtain ⟨ev, hv, rfl, h1, h2⟩ := obj_inv hc
  have e : ((o.2.2.1.length : Int) - 1) = (k : Int) := by omega
  have h := c21 o (by have := hf.e; omega)
  rw [e] at h
  exact call_sim (S := S) (cargs := [_]) (k21.sim rfl o _ h) (rep_int _ _) w hg (fun b o h => Nat.lt_of_lt_of_le (hS b o h) hb.size) ⟨obj_rep (h1.mono (le_below hS hb)) (h2.mono (le_below hS hb)), trivial⟩
theorem call60 {Sc : Nat → Nat → Prop} (l : List Fmt) (n : Int) (f : Fmt) (hf : getF l n = some f) (hn : l.length ≤ 1000000) {lv : Value} (W : World) (hG : GT W) (hS : ∀ b o, Sc b o → b < W.heap.size) (hl : RepC Tryz.prog Sc W noOw (.sl none 72 (l.map (toV shFmt))) [lv]) :
    Calls Tryz.prog 60 #[lv, .int .i64 n] W fun e w' => ∃ ta tn tc, e = .returned (.tuple #[.agg (encM f (.slice ta tn tc)).toArray, .bool true]) ∧ Below W.heap.size W w' ∧ ∃ S' : Nat → Nat → Prop, (∀ b o, S' b o → b < w'.heap.size) ∧ (∀ b o, b < W.heap.size → (S' b o ↔ Sc b o)) ∧
      RepC Tryz.prog S' w' noOw (.sl none 3 (f.2.2.2.2.2.2.map (toV (.int .i64)))) [.slice ta tn tc] := by
  have h := c60 l n hn
  rw [getG_some hf] at h
  refine (k60.sim rfl (l, n) _ h W Sc [_, _] hG hS ⟨hl, RepC.int noOw .i64 _, trivial⟩).mono ?_
  rintro e w' ⟨c, rfl, hb, S', h1, h2, cs, rfl, hc⟩
  rcases cs with _ | ⟨c1, _ | ⟨c2, _ | ⟨c3, cs⟩⟩⟩
  · exact hc.elim
  · exact hc.2.elim
  · obtain ⟨tv, rfl, h3⟩ := fmt_inv hc.1
    have hb2 : RepC Tryz.prog S' w' noOw (.bool true) [c2] := hc.2.1
    cases bool_inv hb2
    obtain ⟨ta, tc, rfl⟩ := sl_form h3
    exact ⟨ta, _, tc, rfl, hb, S', h1, h2, h3⟩
  · exact hc.2.2.elim
theorem call61 {Sc : Nat → Nat → Prop} {w0 : World} (l : List Int) (n : Int) (hn : l.length ≤ 1000000) {lv : Value} (hS : ∀ b o, Sc b o → b < w0.heap.size) (hl : RepC Tryz.prog Sc w0 noOw (.sl none 3 (l.map (toV (.int .i64)))) [lv]) (w : World) (hb : Below w0.heap.size w0 w) (hg : GT w) :
    Calls Tryz.prog 61 #[lv, .int .i64 n] w fun e w' => e = .returned (.bool (decide (n ∈ l))) ∧ Below w.heap.size w w' :=
  call_sim (S := Sc) (cargs := [_, _]) (k61.sim rfl (l, n) _ (c61 l n hn)) (rep_bool _) w hg (fun b o h => Nat.lt_of_lt_of_le (hS b o h) hb.size) ⟨hl.mono (le_below hS hb), RepC.int noOw .i64 _, trivial⟩
theorem call62 {Sc : Nat → Nat → Prop} (l r : List File) (f t : Fmt) (ht : t.2.2.2.2.2.1.length ≤ 10000) (hl : FitC l) (hr : convsP f t l = some r) (h0 : rightP r = 0) {fv tv uv : Value} (W : World) (hG : GT W) (hS : ∀ b o, Sc b o → b < W.heap.size)
    (hfv : RepC Tryz.prog Sc W noOw (.sl none 70 (l.map (toV shFile))) [fv]) (htv : RepC Tryz.prog Sc W noOw (.sl none 3 (f.2.2.2.2.2.2.map (toV (.int .i64)))) [tv]) (huv : RepC Tryz.prog Sc W noOw (.sl none 3 (t.2.2.2.2.2.2.map (toV (.int .i64)))) [uv]) :
    Calls Tryz.prog 62 #[fv, .agg (encM f tv).toArray, .agg (encM t uv).toArray] W fun e w' => ∃ ra rc, e = .returned (.tuple #[.slice ra r.length rc, .int .i64 0]) ∧ Below W.heap.size W w' ∧ ∃ S' : Nat → Nat → Prop, (∀ b o, S' b o → b < w'.heap.size) ∧ (∀ b o, b < W.heap.size → (S' b o ↔ Sc b o)) ∧
      RepC Tryz.prog S' w' noOw (.sl none 70 (r.map (toV shFile))) [.slice ra r.length rc] := by
  have h := c62 l f t ht hl
  unfold convR at h
  rw [hr] at h
  simp only [] at h
  rw [h0] at h
  refine (k62.sim rfl (l, f, t) _ h W Sc [_, _, _] hG hS ⟨hfv, fmt_rep htv, fmt_rep huv, trivial⟩).mono ?_
  rintro e w' ⟨c, rfl, hb, S', h1, h2, cs, rfl, hc⟩
  rcases cs with _ | ⟨c1, _ | ⟨c2, _ | ⟨c3, cs⟩⟩⟩
  · exact hc.elim
  · exact hc.2.elim
  · have h3 : RepC Tryz.prog S' w' noOw (.sl none 70 (r.map (toV shFile))) [c1] := hc.1
    have hb2 : RepC Tryz.prog S' w' noOw (.int .i64 0) [c2] := hc.2.1
    cases int_inv hb2
    obtain ⟨ra, rc, rfl⟩ := sl_form h3
    rw [lenF] at *
    exact ⟨ra, rc, rfl, hb, S', h1, h2, h3⟩
  · exact hc.2.2.elim
theorem app_edn (v : Value) (n : Nat) (xs : List Value) (w : World) (B : Nat) (hB : B ≤ w.heap.size) (hown : w.ownsRow B 63 5 v n xs) (x : Edn) (fv : Value) (h1 : ∀ u ∈ encE x fv, u.oneCell' = true) (hn : n ≤ 10000) :
    ∃ v' w', (Builtin.append_ #[29, 29] 29 #[v, .slice (some ⟨w.heap.size, 0, none⟩) 1 1]).run Tryz.prog (w.alloc (Go.Obj.cells (encE x fv).toArray 63 (0, 0))) = .ok v' w' ∧ w'.ownsRow B 63 5 v' (n + 1) (xs ++ encE x fv) ∧ w.grownBy w' v.ownBlock := by
  obtain ⟨i0, z, q1, q2, q3, q4, q5⟩ := info63
  obtain ⟨v', w', hr, h2, h3, _⟩ := run_append_own (P := Tryz.prog) (w := w.alloc (Go.Obj.cells (encE x fv).toArray 63 (0, 0))) B 29 29 63 i0 z 5 64 Tryz.underlying29 q1 q2 q3 q4 q5 (by omega) v n xs (hown.alloc _) ⟨w.heap.size, 0, none⟩ 1 1 (encE x fv) rfl (fun j u' hj => by
    rw [Nu.addr_add, Nat.zero_add]
    refine (cell_of_row _ _ j _ _ _ (heap_alloc_new w _)).trans ?_
    simpa using hj) h1 (by unfold maxLen; omega) (by omega) (by simp; omega)
  have hd := World.grownBy_alloc w (Go.Obj.cells (encE x fv).toArray 63 (0, 0)) v.ownBlock
  exact ⟨v', w', hr, h2, h3.os.trans hd.os, h3.tape.trans hd.tape, h3.output.trans hd.output, Nat.le_trans hd.size h3.size, fun k hk hne => (h3.block k (Nat.lt_of_lt_of_le hk hd.size) hne).trans (hd.block k hk hne)⟩
theorem mig_fin {S Sc : Nat → Nat → Prop} {w w9 w10 w11 : World} {o : Obj} {ev hv : Value} {ab : Nat} {cs : List Value} {x : Edn} {fv v10 v11 : Value} (hS : ∀ b o, S b o → b < w.heap.size) (hcs : RepCs Tryz.prog S w noOw (o.2.2.1.map (toV shEdn)) cs)
    (H9 : MigW w w9 o ev hv ab) (G9 : MigS S Sc w w9 ab) (hfv : RepC Tryz.prog Sc w9 noOw (.sl none 70 (x.2.2.2.2.map (toV shFile))) [fv]) (h10 : Below w9.heap.size w9 w10) (ho10 : w10.ownsRow w9.heap.size 63 5 v10 o.2.2.1.length cs)
    (ho11 : w11.ownsRow w9.heap.size 63 5 v11 (o.2.2.1.length + 1) (cs ++ encE x fv)) (hg11 : w10.grownBy w11 v10.ownBlock) :
    w11.cell? ⟨ab, 2, none⟩ = some ev ∧ w11.frozen? ⟨ab, 2, none⟩ = false ∧ FinA S w (w11.setCell ⟨ab, 2, none⟩ v11) o.1 o.2.1 o.2.2.2.2 o.2.2.2.1 v11 hv (o.2.2.1 ++ [x]) ab := by
  have H10 := H9.step h10
  have hab := H9.ab
  have ha1 := H9.a1
  have k10 := h10.size
  have k11 := hg11.size
  have hkeep : ∀ k, k < w9.heap.size → w11.heap[k]? = w10.heap[k]? := fun k hk => hg11.block k (by omega) fun e => by have := (ho10.lt k e.symm).1; omega
  have hrow : w11.heap[ab]? = some (.cells (aCells o.1 o.2.1 ev hv o.2.2.2.2 (.slice none 0 0)) 78 (0, 0)) := (hkeep ab hab).trans H10.a.blk
  have h911 : Below w9.heap.size w9 w11 := ⟨hg11.os.trans h10.os, hg11.tape.trans h10.tape, hg11.output.trans h10.output, by omega, fun k hk => (hkeep k hk).trans (h10.block k hk)⟩
  have H11 := H9.step h911
  have hset : ∀ k, k ≠ ab → (w11.setCell ⟨ab, 2, none⟩ v11).heap[k]? = w11.heap[k]? := fun k hk => Below.heap_setCell _ _ _ _ hk
  have hss : (w11.setCell ⟨ab, 2, none⟩ v11).heap.size = w11.heap.size := by simp [World.setCell]
  have hw := H9.ow.b0.size
  refine ⟨cell_of_row _ _ 2 _ _ _ hrow, by simp [World.frozen?, hrow], ⟨H11.ow.b0.setCell (by show w.heap.size ≤ ab; omega) _, (hset _ (by omega)).trans H11.ow.zb, ha1, by rw [hss]; omega, ⟨?_, ?_, H9.a.hlt, World.ownsRow_nil _ _ _ _⟩, ?_⟩⟩
  · simp [World.setCell, Array.getElem?_modify, hrow, aCells]
  · obtain ⟨q1, q2, a1, cap, q3, q4, q5⟩ := H11.a.his
    refine ⟨q1, q2, a1, cap, q3, q4, fun ad e j u hu => ?_⟩
    have hk : (ad.add j).block < ab := by
      have h1 : (ad.add j).block = ad.block := by unfold Addr.add; split <;> rfl
      rw [h1]
      exact H9.a.hlt (fun hn => by rw [hn] at hu; cases hu) _ (by rw [q3, e]; rfl)
    exact (World.cell?_of_block (hset _ (by omega))).trans (q5 ad e j u hu)
  · refine edns_rep (B := w9.heap.size) (l := o.2.2.1 ++ [x]) (by rw [List.length_append, List.length_singleton]; exact own_set ho11 (by show ab < _; exact hab)) (fun k o h1 h2 => .inr ⟨by omega, h2, by omega⟩) ?_
    have e1 : (o.2.2.1 ++ [x]).map (toV shEdn) = o.2.2.1.map (toV shEdn) ++ [x].map (toV shEdn) := List.map_append
    rw [e1]
    refine reps_app (reps_mono hcs ⟨fun k o h => .inl h, fun k o h => ?_, fun _ _ _ _ h => by cases h⟩) ?_
    · have hk := hS k o h
      exact (World.cell?_of_block (a := ⟨k, o, none⟩) (hset k (by omega))).trans (H11.ow.b0.cell (p := ⟨k, o, none⟩) hk)
    · have := RepCs.cons (P := Tryz.prog) noOw (edn_rep (x := x) (hfv.mono (S' := fun k o => S k o ∨ (w.heap.size + 1 < k ∧ k < (w11.setCell ⟨ab, 2, none⟩ v11).heap.size ∧ k ≠ ab)) (w' := w11.setCell ⟨ab, 2, none⟩ v11) (ow' := noOw) ⟨fun k o h => ?_, fun k o h => ?_, fun _ _ _ _ h => by cases h⟩)) (.nil noOw)
      · exact this
      · have := G9.lt k o h
        rcases G9.own k o h with h | h
        · exact .inl h
        · exact .inr ⟨h.1, by rw [hss]; omega, h.2⟩
      · have hk := G9.lt k o h
        have hne : k ≠ ab := by
          rcases G9.own k o h with h | h
          · have := hS k o h; omega
          · exact h.2
        exact (World.cell?_of_block (a := ⟨k, o, none⟩) (hset k hne)).trans (h911.cell (p := ⟨k, o, none⟩) hk)
theorem mig60 {S : Nat → Nat → Prop} {w : World} {o : Obj} {ev hv lv : Value} (l : List Fmt) (hG : GT w) (hS : ∀ b o, S b o → b < w.heap.size) (hl : RepC Tryz.prog S w noOw (.sl none 72 (l.map (toV shFmt))) [lv]) (hl1 : l.length ≤ 1000000)
    (W : World) (ab : Nat) (Sc : Nat → Nat → Prop) (n : Int) (g : Fmt) (hw : MigW w W o ev hv ab) (hs : MigS S Sc w W ab) (hg : getF l n = some g) :
    Calls Tryz.prog 60 #[lv, .int .i64 n] W fun e w' => ∃ ta tn tc, e = .returned (.tuple #[.agg (encM g (.slice ta tn tc)).toArray, .bool true]) ∧ Below W.heap.size W w' ∧ ∃ S' : Nat → Nat → Prop, MigS S S' w w' ab ∧ Le Sc S' noOw noOw W w' ∧
      RepC Tryz.prog S' w' noOw (.sl none 3 (g.2.2.2.2.2.2.map (toV (.int .i64)))) [.slice ta tn tc] := by
  have hle : Le S Sc noOw noOw w W := ⟨hs.sub, fun b o h => hw.ow.b0.cell (p := ⟨b, o, none⟩) (hS b o h), fun _ _ _ _ h => by cases h⟩
  have hG2 := keepsGT _ _ hG hw.ow.b0
  have hm := hl.mono hle
  have := call60 l n g hg hl1 W hG2 hs.lt hm
  refine this.mono ?_
  rintro e w' ⟨ta, tn, tc, rfl, hb, S', q1, q2, q3⟩
  exact ⟨ta, tn, tc, rfl, hb, S', hs.call hw hb.size q1 q2, mig_le hs.lt hb q2, q3⟩
theorem mig61 {S : Nat → Nat → Prop} {w : World} {o : Obj} {ev hv lv : Value} (l : List Int) (n : Int) (hn : l.length ≤ 1000000) (hm : n ∈ l) (hG : GT w) (W W0 : World) (Sc : Nat → Nat → Prop) (ab : Nat) (hw : MigW w W o ev hv ab) (hs : MigS S Sc w W0 ab) (hb : Below W0.heap.size W0 W)
    (hq : RepC Tryz.prog Sc W0 noOw (.sl none 3 (l.map (toV (.int .i64)))) [lv]) : Calls Tryz.prog 61 #[lv, .int .i64 n] W fun e w' => e = .returned (.bool true) ∧ Below W.heap.size W w' := by
  have := call61 l n hn hs.lt hq W hb (keepsGT _ _ hG hw.ow.b0)
  rwa [decide_eq_true hm] at this
theorem mig62 {S : Nat → Nat → Prop} {w : World} {o : Obj} {ev hv fv tv uv : Value} (l r : List File) (f t : Fmt) (ht : t.2.2.2.2.2.1.length ≤ 10000) (hl : FitC l) (hr : convsP f t l = some r) (h0 : rightP r = 0) (hG : GT w) (hS : ∀ b o, S b o → b < w.heap.size) (hfv : RepC Tryz.prog S w noOw (.sl none 70 (l.map (toV shFile))) [fv])
    (W : World) (ab : Nat) (Sc : Nat → Nat → Prop) (hw : MigW w W o ev hv ab) (hs : MigS S Sc w W ab) (q1 : RepC Tryz.prog Sc W noOw (.sl none 3 (f.2.2.2.2.2.2.map (toV (.int .i64)))) [tv]) (q2 : RepC Tryz.prog Sc W noOw (.sl none 3 (t.2.2.2.2.2.2.map (toV (.int .i64)))) [uv]) :
    Calls Tryz.prog 62 #[fv, .agg (encM f tv).toArray, .agg (encM t uv).toArray] W fun e w' => ∃ ra rc, e = .returned (.tuple #[.slice ra r.length rc, .int .i64 0]) ∧ Below W.heap.size W w' ∧ ∃ S' : Nat → Nat → Prop, MigS S S' w w' ab ∧ RepC Tryz.prog S' w' noOw (.sl none 70 (r.map (toV shFile))) [.slice ra r.length rc] := by
  have hle : Le S Sc noOw noOw w W := ⟨hs.sub, fun b o h => hw.ow.b0.cell (p := ⟨b, o, none⟩) (hS b o h), fun _ _ _ _ h => by cases h⟩
  have hG2 := keepsGT _ _ hG hw.ow.b0
  have hm := hfv.mono hle
  have := call62 l r f t ht hl hr h0 W hG2 hs.lt hm q1 q2
  refine this.mono ?_
  rintro e w' ⟨ra, rc, rfl, hb, S', p1, p2, p3⟩
  exact ⟨ra, rc, rfl, hb, S', hs.call hw hb.size p1 p2, p3⟩
end Go.Proofs.YtecjedagdpnemaaGreatDoor
