/-
  Objects as values; what the callees of the functions on objects return; worlds that grow. No condition beyond what each line says.
-/
import Derived.Test.YtecjedagdpnemaaGreatDoorH6
import Derived.Test.YtecjedagdpnemaaGreatDoorQ
import Derived.Laws.ResultCell
namespace Go.Proofs.YtecjedagdpnemaaGreatDoor
open Go Go.Nu Go.RowKit Go.Sort
set_option linter.unusedVariables false
def encR (t : Rts) : List Value := [.int .i64 t.1, .int .i64 t.2.1, .int .i64 t.2.2.1, .int .i64 t.2.2.2]
theorem sz24 : sizes Tryz.prog 24 = some [1, 1, 1, 1] := by kernel_rfl
theorem cells24 : Tryz.prog.cellsOf 24 = 4 := by kernel_rfl
theorem sz32 : sizes Tryz.prog 32 = some [1, 1, 1, 1, 4] := by kernel_rfl
theorem cells32 : Tryz.prog.cellsOf 32 = 8 := by kernel_rfl
theorem rep_rts {S : Nat → Nat → Prop} {w : World} {ow : Ow} (t : Rts) : RepC Tryz.prog S w ow (toV shRts t) (encR t) := by
  show RepC Tryz.prog S w ow (.agg 24 [.int .i64 t.1, .int .i64 t.2.1, .int .i64 t.2.2.1, .int .i64 t.2.2.2])
    ([.int .i64 t.1] ++ ([.int .i64 t.2.1] ++ ([.int .i64 t.2.2.1] ++ ([.int .i64 t.2.2.2] ++ []))))
  exact .agg ow sz24 (by rw [cells24]; rfl) (.cons ow (.int ow .i64 _) (.cons ow (.int ow .i64 _) (.cons ow (.int ow .i64 _) (.cons ow (.int ow .i64 _) (.nil ow))))) (by decide)
theorem rts_inv {S : Nat → Nat → Prop} {w : World} {ow : Ow} {t : Rts} {cs : List Value} (h : RepC Tryz.prog S w ow (toV shRts t) cs) : cs = encR t := by
  change RepC Tryz.prog S w ow (.agg 24 [.int .i64 t.1, .int .i64 t.2.1, .int .i64 t.2.2.1, .int .i64 t.2.2.2]) cs at h
  obtain ⟨c1, r1, rfl, p1, q1⟩ := cons_inv (agg_inv (by decide) h)
  obtain ⟨c2, r2, rfl, p2, q2⟩ := cons_inv q1
  obtain ⟨c3, r3, rfl, p3, q3⟩ := cons_inv q2
  obtain ⟨c4, r4, rfl, p4, q4⟩ := cons_inv q3
  rw [int_inv p1, int_inv p2, int_inv p3, int_inv p4, nil_inv q4]
  rfl
def encO (o : Obj) (ev hv : Value) : List Value := [.int .i64 o.1, .int .i64 o.2.1, ev, hv, .int .i64 o.2.2.2.2.1, .int .i64 o.2.2.2.2.2.1, .int .i64 o.2.2.2.2.2.2.1, .int .i64 o.2.2.2.2.2.2.2]
set_option maxRecDepth 100000 in
theorem obj_rep {S : Nat → Nat → Prop} {w : World} {ow : Ow} {o : Obj} {ev hv : Value} (he : RepC Tryz.prog S w ow (.sl none 63 (o.2.2.1.map (toV shEdn))) [ev]) (hh : RepC Tryz.prog S w ow (.sl none 65 (o.2.2.2.1.map (toV shFix))) [hv]) :
    Rep1 Tryz.prog S w ow (toV shObj o) (.agg (encO o ev hv).toArray) := by
  refine ⟨encO o ev hv, rfl, ?_⟩
  show RepC Tryz.prog S w ow (.agg 32 [.int .i64 o.1, .int .i64 o.2.1, .sl none 63 (o.2.2.1.map (toV shEdn)), .sl none 65 (o.2.2.2.1.map (toV shFix)), toV shRts o.2.2.2.2])
    ([.int .i64 o.1] ++ ([.int .i64 o.2.1] ++ ([ev] ++ ([hv] ++ (encR o.2.2.2.2 ++ [])))))
  exact .agg ow sz32 (by rw [cells32]; rfl) (.cons ow (.int ow .i64 _) (.cons ow (.int ow .i64 _) (.cons ow he (.cons ow hh (.cons ow (rep_rts _) (.nil ow)))))) (by decide)
theorem obj_inv {S : Nat → Nat → Prop} {w : World} {ow : Ow} {o : Obj} {c : Value} (h : Rep1 Tryz.prog S w ow (toV shObj o) c) : ∃ ev hv, c = .agg (encO o ev hv).toArray ∧ RepC Tryz.prog S w ow (.sl none 63 (o.2.2.1.map (toV shEdn))) [ev] ∧ RepC Tryz.prog S w ow (.sl none 65 (o.2.2.2.1.map (toV shFix))) [hv] := by
  obtain ⟨cs, rfl, h⟩ := h
  change RepC Tryz.prog S w ow (.agg 32 [.int .i64 o.1, .int .i64 o.2.1, .sl none 63 (o.2.2.1.map (toV shEdn)), .sl none 65 (o.2.2.2.1.map (toV shFix)), toV shRts o.2.2.2.2]) cs at h
  obtain ⟨c1, r1, rfl, p1, q1⟩ := cons_inv (agg_inv (by decide) h)
  obtain ⟨c2, r2, rfl, p2, q2⟩ := cons_inv q1
  obtain ⟨c3, r3, rfl, p3, q3⟩ := cons_inv q2
  obtain ⟨c4, r4, rfl, p4, q4⟩ := cons_inv q3
  obtain ⟨c5, r5, rfl, p5, q5⟩ := cons_inv q4
  obtain ⟨ev, rfl⟩ := sl_one p3
  obtain ⟨hv, rfl⟩ := sl_one p4
  rw [int_inv p1, int_inv p2, rts_inv p5, nil_inv q5]
  exact ⟨ev, hv, rfl, p3, p4⟩
theorem results_row_tmp {fn : Func} {p u : Tmp} {ty : TypeId} (h : fn.results = #[.cell p ty, .tmp u]) (tmps : Array Value) (w : World) (g : Nat) (cs : Array Value)
    (hp : tmps.getD p undef = .pointer (some ⟨g, 0, none⟩)) (hr : (loadVar ty ⟨g, 0, none⟩).run Tryz.prog w = .ok (.agg cs) w) (v : Value) (hv : tmps.getD u undef = v) :
    (results fn tmps).run Tryz.prog w = .ok (.tuple #[.agg cs, v]) w := by
  rw [results_cell_tmp h, hp, hv]
  simp [asAddr, hr, Result.andThen]
theorem call_sim {f : FuncId} {vs : List V} {cargs : List Value} {r : V} {c : Value} {S : Nat → Nat → Prop} (h : SimCalls Tryz.prog GT f vs r) (hr : ∀ S w, ∀ c', RepS Tryz.prog S w noOw (fun _ => none) (fun _ => none) r c' → c' = c) (w : World) (hg : GT w)
    (hS : ∀ b o, S b o → b < w.heap.size) (ha : All2 (Rep1 Tryz.prog S w noOw) vs cargs) : Calls Tryz.prog f cargs.toArray w fun e w' => e = .returned c ∧ Below w.heap.size w w' := by
  refine (h w S cargs hg hS ha).mono ?_
  rintro e w' ⟨c', rfl, hb, S', _, _, hc⟩
  rw [hr _ _ _ hc]
  exact ⟨rfl, hb⟩
theorem call36 (n : Int) (w : World) (hg : GT w) : Calls Tryz.prog 36 #[.int .i64 n] w fun e w' => e = .returned (.bool (idB n)) ∧ Below w.heap.size w w' :=
  call_sim (S := fun _ _ => False) (cargs := [.int .i64 n]) (k36.sim rfl n _ (c36 n)) (rep_bool _) w hg (fun _ _ h => h.elim) ⟨RepC.int noOw .i64 n, trivial⟩
theorem call37 (n : Int) (w : World) (hg : GT w) : Calls Tryz.prog 37 #[.int .i64 n] w fun e w' => e = .returned (.bool (dayB n)) ∧ Below w.heap.size w w' :=
  call_sim (S := fun _ _ => False) (cargs := [.int .i64 n]) (k37.sim rfl n _ (c37 n)) (rep_bool _) w hg (fun _ _ h => h.elim) ⟨RepC.int noOw .i64 n, trivial⟩
theorem call39 (t : Rts) (w : World) (hg : GT w) : Calls Tryz.prog 39 #[.agg (encR t).toArray] w fun e w' => e = .returned (.int .i64 (rgtP t)) ∧ Below w.heap.size w w' :=
  call_sim (S := fun _ _ => False) (cargs := [.agg (encR t).toArray]) (k39.sim rfl t _ (c39 t)) (rep_int _ _) w hg (fun _ _ h => h.elim) ⟨⟨encR t, rfl, rep_rts t⟩, trivial⟩
theorem call38 {S : Nat → Nat → Prop} {w0 : World} (l : List File) (hl : Fit l) (fv : Value) (hf : RepC Tryz.prog S w0 noOw (.sl none 70 (l.map (toV shFile))) [fv]) (hS : ∀ b o, S b o → b < w0.heap.size) (w : World) (hb : Below w0.heap.size w0 w) (hg : GT w) :
    Calls Tryz.prog 38 #[fv] w fun e w' => e = .returned (.int .i64 (rightP l)) ∧ Below w.heap.size w w' :=
  call_sim (S := S) (cargs := [fv]) (k38.sim rfl l _ (g13 l hl)) (rep_int _ _) w hg (fun b o h => Nat.lt_of_lt_of_le (hS b o h) hb.size) ⟨hf.mono (le_below hS hb), trivial⟩
theorem call40 {S : Nat → Nat → Prop} {w0 : World} (l : List File) (hl : Fit l) (fv : Value) (hf : RepC Tryz.prog S w0 noOw (.sl none 70 (l.map (toV shFile))) [fv]) (hS : ∀ b o, S b o → b < w0.heap.size) (w : World) (hb : Below w0.heap.size w0 w) (hg : GT w) :
    Calls Tryz.prog 40 #[fv] w fun e w' => e = .returned (.string ⟨(rootP l).toArray⟩) ∧ Below w.heap.size w w' :=
  call_sim (S := S) (cargs := [fv]) (k40.sim rfl l _ (g15 l hl)) (rep_str _) w hg (fun b o h => Nat.lt_of_lt_of_le (hS b o h) hb.size) ⟨hf.mono (le_below hS hb), trivial⟩
theorem call15 {S : Nat → Nat → Prop} {w0 : World} (o : Obj) (hf : FitO o) {c : Value} (hc : Rep1 Tryz.prog S w0 noOw (toV shObj o) c) (hS : ∀ b o, S b o → b < w0.heap.size) (w : World) (hb : Below w0.heap.size w0 w) (hg : GT w) :
    Calls Tryz.prog 15 #[c] w fun e w' => e = .returned (.int .i64 (objP o)) ∧ Below w.heap.size w w' := by
  obtain ⟨ev, hv, rfl, h1, h2⟩ := obj_inv hc
  exact call_sim (S := S) (cargs := [_]) (k15.sim rfl o _ (c15 o hf)) (rep_int _ _) w hg (fun b o h => Nat.lt_of_lt_of_le (hS b o h) hb.size) ⟨obj_rep (h1.mono (le_below hS hb)) (h2.mono (le_below hS hb)), trivial⟩
theorem call51 {S : Nat → Nat → Prop} {w0 : World} (o : Obj) (d : Int) (hf : FitO o) {c : Value} (hc : Rep1 Tryz.prog S w0 noOw (toV shObj o) c) (hS : ∀ b o, S b o → b < w0.heap.size) (w : World) (hb : Below w0.heap.size w0 w) (hg : GT w) :
    Calls Tryz.prog 51 #[c, .int .i64 d] w fun e w' => e = .returned (.int .i64 (lateP o d)) ∧ Below w.heap.size w w' := by
  obtain ⟨ev, hv, rfl, h1, h2⟩ := obj_inv hc
  exact call_sim (S := S) (cargs := [_, _]) (k51.sim rfl (o, d) _ (c51 o d (by have := hf.h; omega))) (rep_int _ _) w hg (fun b o h => Nat.lt_of_lt_of_le (hS b o h) hb.size) ⟨obj_rep (h1.mono (le_below hS hb)) (h2.mono (le_below hS hb)), RepC.int noOw .i64 d, trivial⟩
abbrev grow (S : Nat → Nat → Prop) (w w' : World) : Nat → Nat → Prop := fun b o => S b o ∨ (w.heap.size ≤ b ∧ b < w'.heap.size)
theorem sim_end {S : Nat → Nat → Prop} {w w' : World} {r : V} {c : Value} (hS : ∀ b o, S b o → b < w.heap.size) (hb : Below w.heap.size w w') (hr : RepS Tryz.prog (grow S w w') w' noOw (fun _ => none) (fun _ => none) r c) :
    ∃ S' : Nat → Nat → Prop, (∀ b o, S' b o → b < w'.heap.size) ∧ (∀ b o, b < w.heap.size → (S' b o ↔ S b o)) ∧ RepS Tryz.prog S' w' noOw (fun _ => none) (fun _ => none) r c := by
  refine ⟨grow S w w', fun b o hh => ?_, fun b o hlt => ⟨fun hh => ?_, .inl⟩, hr⟩
  · rcases hh with hh | ⟨_, hh⟩
    · exact Nat.lt_of_lt_of_le (hS b o hh) hb.size
    · exact hh
  · rcases hh with hh | ⟨hh, _⟩
    · exact hh
    · omega
theorem his_rep {S' : Nat → Nat → Prop} {w' : World} {B : Nat} {v : Value} {l : List Fix} (ho : w'.ownsRow B 65 6 v l.length (l.flatMap encX)) (hS : ∀ b o, B ≤ b → b < w'.heap.size → S' b o) : RepC Tryz.prog S' w' noOw (.sl none 65 (l.map (toV shFix))) [v] :=
  own_rep ho hS (reps_fix l) (lenX l) (width_fix l)
theorem files_rep {S' : Nat → Nat → Prop} {w' : World} {B : Nat} {v : Value} {l : List File} (ho : w'.ownsRow B 70 2 v l.length (l.flatMap encF)) (hS : ∀ b o, B ≤ b → b < w'.heap.size → S' b o) : RepC Tryz.prog S' w' noOw (.sl none 70 (l.map (toV shFile))) [v] :=
  own_rep ho hS (reps_file l) (lenF l) (width_file l)
theorem edns_rep {S' : Nat → Nat → Prop} {w' : World} {B : Nat} {v : Value} {l : List Edn} {cs : List Value} (ho : w'.ownsRow B 63 5 v l.length cs) (hS : ∀ b o, B ≤ b → b < w'.heap.size → S' b o) (hr : RepCs Tryz.prog S' w' noOw (l.map (toV shEdn)) cs) : RepC Tryz.prog S' w' noOw (.sl none 63 (l.map (toV shEdn))) [v] :=
  own_rep ho hS hr (lenE l) (width_edn l)
theorem own_new {w : World} {e k n g : Nat} {cs : List Value} (h : w.heap[g]? = some (.cells cs.toArray e (0, 0))) (hl : cs.length = n * k) (hn : n ≤ maxLen) : w.ownsRow g e k (.slice (some ⟨g, 0, none⟩) n n) n cs :=
  ⟨hl, .inr ⟨g, n, cs.toArray, rfl, Nat.le_refl _, h, Nat.le_refl _, hn, by simpa using hl, by
    show cs.take (n * k) = cs
    rw [← hl, List.take_length]⟩⟩
end Go.Proofs.YtecjedagdpnemaaGreatDoor
