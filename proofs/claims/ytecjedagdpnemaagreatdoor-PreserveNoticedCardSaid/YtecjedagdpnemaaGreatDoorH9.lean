/-
  preserve.Check walked where it checks an object. No condition beyond what each line says.
-/
import Derived.Test.YtecjedagdpnemaaGreatDoorH8
namespace Go.Proofs.YtecjedagdpnemaaGreatDoor
open Go Go.Nu Go.RowKit Go.Sort
set_option linter.unusedVariables false
theorem checkG_app (d : Int) : ∀ (l1 l2 : List Edn) (k : Nat) (o : Obj), checkG d k (l1 ++ l2) o = checkG d (k + l1.length) l2 (checkG d k l1 o)
  | [], l2, k, o => rfl
  | x :: l1, l2, k, o => by
    rw [List.cons_append, checkG_cons, checkG_app d l1 l2 (k + 1), checkG_cons, List.length_cons, show k + 1 + l1.length = k + (l1.length + 1) by omega]
theorem badG_app : ∀ (l1 l2 : List Edn) (k : Nat), badG k (l1 ++ l2) = badG k l1 ++ badG (k + l1.length) l2
  | [], l2, k => rfl
  | x :: l1, l2, k => by
    rw [List.cons_append, badG_cons, badG_app l1 l2 (k + 1), badG_cons, List.append_assoc, List.length_cons, show k + 1 + l1.length = k + (l1.length + 1) by omega]
theorem checkG_keep (d : Int) : ∀ (l : List Edn) (k : Nat) (o : Obj), (checkG d k l o).1 = o.1 ∧ (checkG d k l o).2.1 = o.2.1 ∧ (checkG d k l o).2.2.1 = o.2.2.1 ∧ (checkG d k l o).2.2.2.2 = o.2.2.2.2
  | [], k, o => ⟨rfl, rfl, rfl, rfl⟩
  | x :: l, k, o => by
    rw [checkG_cons]
    exact checkG_keep d l (k + 1) (addP o d 2 k (rootP x.2.2.2.2) (intactB x))
theorem badG_len : ∀ (l : List Edn) (k : Nat), (badG k l).length ≤ l.length
  | [], k => Nat.le_refl _
  | x :: l, k => by
    have := badG_len l (k + 1)
    rw [badG_cons, List.length_append, List.length_cons]
    split
    · rw [List.length_nil]; omega
    · rw [List.length_singleton]; omega
theorem check_step (d : Int) (o : Obj) {i : Nat} (h : i < o.2.2.1.length) : (checkG d 0 (o.2.2.1.take (i + 1)) o).2.2.2.1 = (checkG d 0 (o.2.2.1.take i) o).2.2.2.1 ++ [fixP (checkG d 0 (o.2.2.1.take i) o).2.2.2.1 d 2 i (rootP (o.2.2.1.getD i E0).2.2.2.2) (intactB (o.2.2.1.getD i E0))] := by
  rw [take_app _ E0 h, checkG_app, List.length_take, Nat.min_eq_left (Nat.le_of_lt h), Nat.zero_add]
  rfl
theorem bad_step (o : Obj) {i : Nat} (h : i < o.2.2.1.length) : badG 0 (o.2.2.1.take (i + 1)) = badG 0 (o.2.2.1.take i) ++ (if intactB (o.2.2.1.getD i E0) = true then [] else [(i : Int)]) := by
  rw [take_app _ E0 h, badG_app, List.length_take, Nat.min_eq_left (Nat.le_of_lt h), Nat.zero_add]
  show _ ++ ((if intactB (o.2.2.1.getD i E0) = true then [] else [(i : Int)]) ++ []) = _
  rw [List.append_nil]
theorem info3 : ∃ i0 z, Tryz.prog.info? 3 = some i0 ∧ i0.zero = some z ∧ i0.size = 1 ∧ i0.bytes = 8 ∧ z.cells.size = 1 := by
  have h : ((Tryz.prog.info? 3).bind fun i => i.zero.map fun z => (i.size, i.bytes, z.cells.size)) = some (1, 8, 1) := by kernel_rfl
  cases hi : Tryz.prog.info? 3 with
  | none => rw [hi] at h; cases h
  | some i0 =>
    rw [hi] at h
    replace h : (i0.zero.map fun z => (i0.size, i0.bytes, z.cells.size)) = some (1, 8, 1) := h
    cases hz : i0.zero with
    | none => rw [hz] at h; cases h
    | some z =>
      rw [hz] at h
      replace h : some (i0.size, i0.bytes, z.cells.size) = some (1, 8, 1) := h
      injection h with h
      injection h with h1 h2
      injection h2 with h2 h3
      exact ⟨i0, z, rfl, hz, h1, h2, h3⟩
theorem app_int (v : Value) (n : Nat) (xs : List Value) (w : World) (B : Nat) (hB : B ≤ w.heap.size) (hown : w.ownsRow B 3 1 v n xs) (u : Int) (hn : n ≤ 10000) :
    ∃ v' w', (Builtin.append_ #[40, 40] 40 #[v, .slice (some ⟨w.heap.size, 0, none⟩) 1 1]).run Tryz.prog (w.alloc (Go.Obj.cells #[.int .i64 u] 3 (0, 0))) = .ok v' w' ∧ w'.ownsRow B 3 1 v' (n + 1) (xs ++ [.int .i64 u]) ∧ w.grownBy w' v.ownBlock := by
  obtain ⟨i0, z, q1, q2, q3, q4, q5⟩ := info3
  obtain ⟨v', w', hr, h2, h3, _⟩ := run_append_own (P := Tryz.prog) (w := w.alloc (Go.Obj.cells #[.int .i64 u] 3 (0, 0))) B 40 40 3 i0 z 1 8 Tryz.underlying40 q1 q2 q3 q4 q5 (by omega) v n xs (hown.alloc _) ⟨w.heap.size, 0, none⟩ 1 1 [.int .i64 u] rfl (fun j u' hj => by
    match j, hj with
    | 0, hj => cases hj; exact cell_of_row _ _ 0 _ _ _ (heap_alloc_new w _)
    | j + 1, hj => cases hj) (fun u' hu => by simp only [List.mem_singleton] at hu; subst hu; rfl) (by unfold maxLen; omega) (by omega) (by simp; omega)
  have hd := World.grownBy_alloc w (Go.Obj.cells #[.int .i64 u] 3 (0, 0)) v.ownBlock
  exact ⟨v', w', hr, h2, h3.os.trans hd.os, h3.tape.trans hd.tape, h3.output.trans hd.output, Nat.le_trans hd.size h3.size, fun k hk hne => (h3.block k (Nat.lt_of_lt_of_le hk hd.size) hne).trans (hd.block k hk hne)⟩
theorem reps_int {S : Nat → Nat → Prop} {w : World} {ow : Ow} : ∀ l : List Int, RepCs Tryz.prog S w ow (l.map (toV (.int .i64))) (l.map (.int .i64 ·))
  | [] => .nil _
  | x :: l => RepCs.cons ow (show RepC Tryz.prog S w ow (toV (.int .i64) x) [.int .i64 x] from RepC.int ow .i64 x) (reps_int l)
theorem cells3 : Tryz.prog.cellsOf 3 = 1 := by kernel_rfl
theorem lenI (l : List Int) : (l.map (toV (.int .i64))).length = l.length := List.length_map _
theorem ints_rep {S' : Nat → Nat → Prop} {w' : World} {B : Nat} {v : Value} {l : List Int} (ho : w'.ownsRow B 3 1 v l.length (l.map (.int .i64 ·))) (hS : ∀ b o, B ≤ b → b < w'.heap.size → S' b o) : RepC Tryz.prog S' w' noOw (.sl none 3 (l.map (toV (.int .i64)))) [v] :=
  own_rep ho hS (reps_int l) (lenI l) fun x hx => by
    obtain ⟨y, _, rfl⟩ := List.mem_map.1 hx
    rw [cells3]; rfl
structure ObjW (w W : World) (o : Obj) (ev hv : Value) : Prop where
  b0 : Below w.heap.size w W
  ob : W.heap[w.heap.size]? = some (.cells (encO o ev hv).toArray 32 (0, 0))
  zb : W.heap[w.heap.size + 1]? = some (.cells zero8 32 (0, 0))
theorem ObjW.step {w W W1 : World} {o : Obj} {ev hv : Value} (h : ObjW w W o ev hv) (hb : Below W.heap.size W W1) : ObjW w W1 o ev hv :=
  ⟨below_tr h.b0 h.b0.size hb, (hb.block _ (Array.getElem?_eq_some_iff.1 h.ob).1).trans h.ob, (hb.block _ (Array.getElem?_eq_some_iff.1 h.zb).1).trans h.zb⟩
theorem ObjW.start {w : World} {o : Obj} {ev hv : Value} : ObjW w ((w.alloc (Go.Obj.cells (encO o ev hv).toArray 32 (0, 0))).alloc (Go.Obj.cells zero8 32 (0, 0))) o ev hv := by
  have h1 := ((Below.refl _ w).alloc (Nat.le_refl _) (Go.Obj.cells (encO o ev hv).toArray 32 (0, 0)))
  exact ⟨h1.alloc h1.size _, heap_alloc2_old _ _ _, heap_alloc2_new _ _ _⟩
structure ChkI (o : Obj) (d : Int) (ev hv : Value) (b : Nat) (w W : World) (i j : Nat) (bv av : Value) (l : List Fix) : Prop where
  b0 : Below w.heap.size w W
  zb : W.heap[w.heap.size + 1]? = some (.cells zero8 32 (0, 0))
  bb : w.heap.size + 1 < b
  a : ArchAt W b o.1 o.2.1 ev hv o.2.2.2.2 o.2.2.2.1 av l
  bd : W.ownsRow (b + 1) 3 1 bv (badG 0 (o.2.2.1.take j)).length ((badG 0 (o.2.2.1.take j)).map (.int .i64 ·))
  hl : o.2.2.2.1 ++ l = (checkG d 0 (o.2.2.1.take i) o).2.2.2.1
  li : l.length = i
  inx : ∀ y ∈ o.2.2.2.1 ++ l, inX y
theorem ChkI.step {o : Obj} {d : Int} {ev hv : Value} {b : Nat} {w W W1 : World} {i j : Nat} {bv av : Value} {l : List Fix} (h : ChkI o d ev hv b w W i j bv av l) (hb : Below W.heap.size W W1) : ChkI o d ev hv b w W1 i j bv av l :=
  ⟨below_tr h.b0 h.b0.size hb, (hb.block _ (Array.getElem?_eq_some_iff.1 h.zb).1).trans h.zb, h.bb, h.a.below hb, h.bd.kept (grown_of_below hb none) (by cases hv : bv.ownBlock <;> simp), h.hl, h.li, h.inx⟩
theorem own_type {W : World} {B e e' k k' n n' : Nat} {B' : Nat} {v v' : Value} {cs cs' : List Value} (h : W.ownsRow B e k v n cs) (h' : W.ownsRow B' e' k' v' n' cs') (he : e ≠ e') (g : Nat) (hg : v.ownBlock = some g) (hg' : v'.ownBlock = some g) : False := by
  rcases h.2 with ⟨rfl, _⟩ | ⟨g1, cap, cur, rfl, h1, h2, h3⟩
  · cases hg
  rcases h'.2 with ⟨rfl, _⟩ | ⟨g2, cap', cur', rfl, h1', h2', h3'⟩
  · cases hg'
  cases hg
  cases hg'
  rw [h2] at h2'
  injection h2' with h2'
  injection h2' with _ h4 _
  exact he h4
theorem own_keptX {W W1 : World} {B e k n : Nat} {v : Value} {cs : List Value} {LX : Nat → Prop} (h : W.ownsRow B e k v n cs) (hX : BelowX LX W W1) (hn : ∀ g, v.ownBlock = some g → ¬ LX g) : W1.ownsRow B e k v n cs := by
  refine ⟨h.1, ?_⟩
  rcases h.2 with h | ⟨g, cap, cur, rfl, h1, h2, h3⟩
  · exact .inl h
  · exact .inr ⟨g, cap, cur, rfl, h1, (hX.block g (Array.getElem?_eq_some_iff.1 h2).1 (hn g rfl)).trans h2, h3⟩
theorem ChkI.add {o : Obj} {d : Int} {ev hv : Value} {b : Nat} {w W W1 : World} {i j : Nat} {bv av av' : Value} {l : List Fix} (h : ChkI o d ev hv b w W i j bv av l) (hi : i < o.2.2.1.length) (hd : inR d) (hn : o.2.2.1.length ≤ 1000)
    (ha : ArchAt W1 b o.1 o.2.1 ev hv o.2.2.2.2 o.2.2.2.1 av' (l ++ [fixP (o.2.2.2.1 ++ l) d 2 i (rootP (o.2.2.1.getD i E0).2.2.2.2) (intactB (o.2.2.1.getD i E0))])) (hX : BelowX (fun k => k = b ∨ av.ownBlock = some k) W W1) : 
    ChkI o d ev hv b w W1 (i + 1) j bv av' (l ++ [fixP (o.2.2.2.1 ++ l) d 2 i (rootP (o.2.2.1.getD i E0).2.2.2.2) (intactB (o.2.2.1.getD i E0))]) := by
  have hlow : ∀ k, k < W.heap.size → k < b → W1.heap[k]? = W.heap[k]? := fun k hk hkb => hX.block k hk fun hh => by
    rcases hh with hh | hh
    · omega
    · have := (h.a.own.lt k hh).1; omega
  have hbW := (Array.getElem?_eq_some_iff.1 h.a.blk).1
  have hb := h.bb
  refine ⟨⟨hX.os.trans h.b0.os, hX.tape.trans h.b0.tape, hX.output.trans h.b0.output, Nat.le_trans h.b0.size hX.size, fun k hk => (hlow k (by omega) (by omega)).trans (h.b0.block k hk)⟩, (hlow _ (by omega) (by omega)).trans h.zb, h.bb, ha, ?_, ?_, ?_, ?_⟩
  · refine own_keptX h.bd hX fun g hg hh => ?_
    rcases hh with hh | hh
    · have := (h.bd.lt g hg).1; omega
    · exact own_type h.bd h.a.own (by decide) g hg hh
  · rw [check_step d o hi, ← List.append_assoc, h.hl]
  · rw [List.length_append, h.li]; rfl
  · intro y hy
    rw [← List.append_assoc] at hy
    rcases List.mem_append.1 hy with hy | hy
    · exact h.inx y hy
    · rw [List.mem_singleton] at hy; subst hy
      exact fix_in ⟨hd, by unfold inR; omega, by unfold inR; omega, by rw [root_len]; omega⟩
theorem ChkI.app {o : Obj} {d : Int} {ev hv : Value} {b : Nat} {w W W1 : World} {i j : Nat} {bv bv' av : Value} {l : List Fix} (h : ChkI o d ev hv b w W i j bv av l) (hj : j < o.2.2.1.length) (hq : intactB (o.2.2.1.getD j E0) = false)
    (ho : W1.ownsRow (b + 1) 3 1 bv' ((badG 0 (o.2.2.1.take j)).length + 1) ((badG 0 (o.2.2.1.take j)).map (.int .i64 ·) ++ [.int .i64 (j : Int)])) (hg : W.grownBy W1 bv.ownBlock) : ChkI o d ev hv b w W1 i (j + 1) bv' av l := by
  have hbW := (Array.getElem?_eq_some_iff.1 h.a.blk).1
  have hb := h.bb
  have hlow : ∀ k, k < W.heap.size → k ≤ b → W1.heap[k]? = W.heap[k]? := fun k hk hkb => hg.block k hk fun hh => by have := (h.bd.lt k hh.symm).1; omega
  refine ⟨⟨hg.os.trans h.b0.os, hg.tape.trans h.b0.tape, hg.output.trans h.b0.output, Nat.le_trans h.b0.size hg.size, fun k hk => (hlow k (by omega) (by omega)).trans (h.b0.block k hk)⟩, (hlow _ (by omega) (by omega)).trans h.zb, h.bb, ⟨(hlow b hbW (Nat.le_refl _)).trans h.a.blk, ?_, h.a.hlt, ?_⟩, ?_, h.hl, h.li, h.inx⟩
  · obtain ⟨q1, q2, a1, cap, q3, q4, q5⟩ := h.a.his
    refine ⟨q1, q2, a1, cap, q3, q4, fun ad e k u hu => ?_⟩
    have hk : (ad.add k).block < b := by
      have h1 : (ad.add k).block = ad.block := by unfold Addr.add; split <;> rfl
      rw [h1]
      exact h.a.hlt (fun hn => by rw [hn] at hu; cases hu) _ (by rw [q3, e]; rfl)
    exact (World.cell?_of_block (hlow _ (by omega) (by omega))).trans (q5 ad e k u hu)
  · refine h.a.own.kept hg ?_
    cases hv : av.ownBlock with
    | none => exact .inl rfl
    | some g => exact .inr fun e => own_type h.a.own h.bd (by decide) g hv e.symm
  · rw [bad_step o hj, hq, if_neg (by simp), List.length_append, List.length_singleton, List.map_append]
    exact ho
theorem ChkI.skip {o : Obj} {d : Int} {ev hv : Value} {b : Nat} {w W : World} {i j : Nat} {bv av : Value} {l : List Fix} (h : ChkI o d ev hv b w W i j bv av l) (hj : j < o.2.2.1.length) (hq : intactB (o.2.2.1.getD j E0) = true) : ChkI o d ev hv b w W i (j + 1) bv av l := by
  refine ⟨h.b0, h.zb, h.bb, h.a, ?_, h.hl, h.li, h.inx⟩
  rw [bad_step o hj, hq, if_pos rfl, List.append_nil]
  exact h.bd
end Go.Proofs.YtecjedagdpnemaaGreatDoor
