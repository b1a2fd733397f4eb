/-
  The archive's add, done, intact, and with, walked. No condition beyond what each line says.
-/
import Derived.Test.YtecjedagdpnemaaGreatDoorH2
import Derived.Test.YtecjedagdpnemaaGreatDoorD
import Derived.Test.YtecjedagdpnemaaGreatDoorK
import Derived.Deep.RegionLaw
import Derived.Deep.RegionLawGrows
import Derived.Deep.AppendLies
namespace Go.Proofs.YtecjedagdpnemaaGreatDoor
open Go Go.Nu Go.RowKit Go.Sort
set_option linter.unusedVariables false
theorem step_append_run {P : Program} {ops : Array Oper} {o : Oper} {a : Act} {w : World} {K : Act → World → Prop} {Q : Exit → Act → World → Prop} {E : Prop} (hg : o.guard = none) (s x : Operand) (t tn : TypeId)
    (ho : o.op = .call { callee := .builtin .append, args := #[s, x], argTypes := #[t, tn] }) (vs vx : Value) (hs : a.eval s = vs) (hx : a.eval x = vx)
    (v' : Value) (w' : World) (hr : (Builtin.append_ #[t, tn] o.type #[vs, vx]).run P w = .ok v' w') (hK : K (a.put o.dst v') w') : if Region.wanted o (yielded ops a.tmps) = true then Oper.wp P o a w K Q else E := by
  have hw : Region.wanted o (yielded ops a.tmps) = true := by simp [Region.wanted, hg]
  rw [if_pos hw]
  exact Lib.wp_append_run w s x t tn ho vs vx hs hx v' w' hr hK
theorem call_str1 {f : FuncId} {s : List UInt8} {r : V} {c : Value} (h : SimCalls Tryz.prog GT f [.str s] r) (hr : ∀ S w, ∀ c', RepS Tryz.prog S w noOw (fun _ => none) (fun _ => none) r c' → c' = c) (w : World) (hg : GT w) :
    Calls Tryz.prog f #[.string ⟨s.toArray⟩] w fun e w' => e = .returned c ∧ Below w.heap.size w w' := by
  refine (h w (fun _ _ => False) [.string ⟨s.toArray⟩] hg (fun _ _ h => h.elim) ⟨RepC.str noOw s, trivial⟩).mono ?_
  rintro e w' ⟨c', rfl, hb, S', _, _, hc⟩
  rw [hr _ _ _ hc]
  exact ⟨rfl, hb⟩
theorem rep_bool (b : Bool) : ∀ (S : Nat → Nat → Prop) (w : World), ∀ c', RepS Tryz.prog S w noOw (fun _ => none) (fun _ => none) (.bool b) c' → c' = .bool b := by
  intro S w c' h
  have h : RepC Tryz.prog S w noOw (.bool b) [c'] := h
  cases h; rfl
theorem rep_int (k : IntKind) (n : Int) : ∀ (S : Nat → Nat → Prop) (w : World), ∀ c', RepS Tryz.prog S w noOw (fun _ => none) (fun _ => none) (.int k n) c' → c' = .int k n := by
  intro S w c' h
  have h : RepC Tryz.prog S w noOw (.int k n) [c'] := h
  cases h; rfl
theorem rep_str (s : List UInt8) : ∀ (S : Nat → Nat → Prop) (w : World), ∀ c', RepS Tryz.prog S w noOw (fun _ => none) (fun _ => none) (.str s) c' → c' = .string ⟨s.toArray⟩ := by
  intro S w c' h
  have h : RepC Tryz.prog S w noOw (.str s) [c'] := h
  cases h; rfl
theorem callSum (s : List UInt8) (w : World) (hg : GT w) (hs : s.length ≤ 1000000) : Calls Tryz.prog 73 #[.string ⟨s.toArray⟩] w fun e w' => e = .returned (.string ⟨(dig s).toArray⟩) ∧ Below w.heap.size w w' :=
  call_str1 (k73.sim rfl s _ (f11 s (by omega))) (rep_str _) w hg
theorem sz65 : sizes Tryz.prog 65 = some [1, 1, 1, 1, 1, 1] := by kernel_rfl
theorem cells65 : Tryz.prog.cellsOf 65 = 6 := by kernel_rfl
theorem rep_fix {S : Nat → Nat → Prop} {w : World} {ow : Ow} (x : Fix) : RepC Tryz.prog S w ow (toV shFix x) (encX x) := by
  show RepC Tryz.prog S w ow (.agg 65 [.int .i64 x.1, .int .i64 x.2.1, .int .i64 x.2.2.1, .str x.2.2.2.1, .str x.2.2.2.2.1, .bool x.2.2.2.2.2])
    ([.int .i64 x.1] ++ ([.int .i64 x.2.1] ++ ([.int .i64 x.2.2.1] ++ ([.string ⟨x.2.2.2.1.toArray⟩] ++ ([.string ⟨x.2.2.2.2.1.toArray⟩] ++ ([.bool x.2.2.2.2.2] ++ []))))))
  exact .agg ow sz65 (by rw [cells65]; rfl) (.cons ow (.int ow .i64 _) (.cons ow (.int ow .i64 _) (.cons ow (.int ow .i64 _) (.cons ow (.str ow _) (.cons ow (.str ow _) (.cons ow (.bool ow _) (.nil ow))))))) (by decide)
theorem callBody (x : Fix) (hx : inX x) (w : World) (hg : GT w) : Calls Tryz.prog 74 #[.agg (encX x).toArray] w fun e w' => e = .returned (.string ⟨(bodyP x).toArray⟩) ∧ Below w.heap.size w w' := by
  refine ((k74.sim rfl x _ (c74 x hx)) w (fun _ _ => False) [.agg (encX x).toArray] hg (fun _ _ h => h.elim) ⟨⟨encX x, rfl, rep_fix x⟩, trivial⟩).mono ?_
  rintro e w' ⟨c', rfl, hb, S', _, _, hc⟩
  rw [rep_str _ _ _ _ hc]
  exact ⟨rfl, hb⟩
theorem lastC_cells (l : List Fix) (hl : l ≠ []) : (l.flatMap encX)[(l.length - 1) * 6 + 4]? = some (.string ⟨(lastC l).toArray⟩) := by
  induction l with
  | nil => exact absurd rfl hl
  | cons x l ih =>
    by_cases h : l = []
    · subst h; rfl
    · rw [List.flatMap_cons, List.getElem?_append_right (by rw [encX_len, List.length_cons]; have := List.length_pos_iff.2 h; omega), encX_len, List.length_cons]
      have := List.length_pos_iff.2 h
      rw [show (l.length + 1 - 1) * 6 + 4 - 6 = (l.length - 1) * 6 + 4 by omega, ih h]
      congr 4
      unfold lastC
      rw [List.getLast?_cons]
      cases hq : l.getLast? with
      | none => exact absurd (List.getLast?_eq_none_iff.1 hq) h
      | some y => rfl
structure AddW (w W : World) (x : Fix) (c : List UInt8) : Prop where
  b0 : Below w.heap.size w W
  bx : W.heap[w.heap.size]? = some (.cells #[.int .i64 x.1, .int .i64 x.2.1, .int .i64 x.2.2.1, .string ⟨x.2.2.2.1.toArray⟩, .string ⟨c.toArray⟩, .bool x.2.2.2.2.2] 65 (0, 0))
structure AddC (k : Nat) (W : World) (x : Fix) (c : List UInt8) : Prop where
  c0 : W.cell? ⟨k, 0, none⟩ = some (.int .i64 x.1)
  c1 : W.cell? ⟨k, 1, none⟩ = some (.int .i64 x.2.1)
  c2 : W.cell? ⟨k, 2, none⟩ = some (.int .i64 x.2.2.1)
  c3 : W.cell? ⟨k, 3, none⟩ = some (.string ⟨x.2.2.2.1.toArray⟩)
  c4 : W.cell? ⟨k, 4, none⟩ = some (.string ⟨c.toArray⟩)
  c5 : W.cell? ⟨k, 5, none⟩ = some (.bool x.2.2.2.2.2)
  f4 : W.frozen? ⟨k, 4, none⟩ = false
theorem AddW.c {w W : World} {x : Fix} {c : List UInt8} (h : AddW w W x c) : AddC w.heap.size W x c := by
  have h1 := fun o => cell_of_row _ _ o _ _ _ h.bx
  exact ⟨h1 0, h1 1, h1 2, h1 3, h1 4, h1 5, by simp [World.frozen?, h.bx]⟩
theorem AddW.start {w W : World} {x : Fix} {c : List UInt8} {ob : Go.Obj} (ho : ob = Go.Obj.cells #[.int .i64 x.1, .int .i64 x.2.1, .int .i64 x.2.2.1, .string ⟨x.2.2.2.1.toArray⟩, .string ⟨c.toArray⟩, .bool x.2.2.2.2.2] 65 (0, 0)) (hb : Below (w.alloc ob).heap.size (w.alloc ob) W) : AddW w W x c := by
  subst ho
  have h1 := (Below.refl _ w).alloc (Nat.le_refl _) (Go.Obj.cells #[.int .i64 x.1, .int .i64 x.2.1, .int .i64 x.2.2.1, .string ⟨x.2.2.2.1.toArray⟩, .string ⟨c.toArray⟩, .bool x.2.2.2.2.2] 65 (0, 0))
  exact ⟨below_tr h1 h1.size hb, (hb.block _ (by simp)).trans (heap_alloc_new w _)⟩
theorem AddW.step {w W W1 : World} {x : Fix} {c : List UInt8} (h : AddW w W x c) (hb : Below W.heap.size W W1) : AddW w W1 x c :=
  ⟨below_tr h.b0 h.b0.size hb, (hb.block _ (Array.getElem?_eq_some_iff.1 h.bx).1).trans h.bx⟩
theorem AddW.set {w W : World} {x : Fix} {c c' : List UInt8} (h : AddW w W x c) : AddW w (W.setCell ⟨w.heap.size, 4, none⟩ (.string ⟨c'.toArray⟩)) x c' := by
  refine ⟨h.b0.setCell (Nat.le_refl _) _, by simp [World.setCell, Array.getElem?_modify, h.bx]⟩
theorem own_form {w : World} {B e k n : Nat} {v : Value} {cs : List Value} (h : w.ownsRow B e k v n cs) : ∃ a cap, v = .slice a n cap := by
  rcases h.2 with ⟨rfl, rfl⟩ | ⟨g, cap, cur, rfl, h1, h2, h3⟩
  · exact ⟨_, _, rfl⟩
  · exact ⟨_, _, rfl⟩
theorem step_add {ops : Array Oper} {o : Oper} {a : Act} {K : Act → World → Prop} {Q : Exit → Act → World → Prop} {E : Prop} (hgd : o.guard = none) (s xo : Operand)
    (ho : o.op = .call { callee := .builtin .append, args := #[s, xo], argTypes := #[30, 30] }) (hty : o.type = 30) (w5 : World) (cs : List Value) (hcs : cs.length = 6) (h1 : ∀ u ∈ cs, u.oneCell' = true)
    (B n : Nat) (av : Value) (xs : List Value) (hown : w5.ownsRow B 65 6 av n xs) (hB : B ≤ w5.heap.size) (hn : n ≤ 10000) (hs : a.eval s = av) (hx : a.eval xo = .slice (some ⟨w5.heap.size, 0, none⟩) 1 1)
    (hK : ∀ v' w', w'.ownsRow B 65 6 v' (n + 1) (xs ++ cs) → w5.grownBy w' av.ownBlock → K (a.put o.dst v') w') :
    if Region.wanted o (yielded ops a.tmps) = true then Oper.wp Tryz.prog o a ((w5.alloc (Go.Obj.cells cs.toArray 65 (0, 0))).drew) K Q else E := by
  have h2 : SlAt ((w5.alloc (Go.Obj.cells cs.toArray 65 (0, 0))).drew) 6 (.slice (some ⟨w5.heap.size, 0, none⟩) 1 1) 1 cs := by
    refine ⟨by omega, h1, _, _, rfl, (fun h => by cases h), fun ad e j u hu => ?_⟩
    cases e
    rw [Nu.addr_add, Nat.zero_add]
    have := cell_of_row (w5.alloc (Go.Obj.cells cs.toArray 65 (0, 0))) w5.heap.size j _ _ _ (heap_alloc_new w5 _)
    refine Eq.trans (show _ = (w5.alloc (Go.Obj.cells cs.toArray 65 (0, 0))).cell? ⟨w5.heap.size, j, none⟩ from rfl) (this.trans ?_)
    simpa using hu
  obtain ⟨v', w', hr, ho', hg⟩ := app_sl av n xs ((w5.alloc (Go.Obj.cells cs.toArray 65 (0, 0))).drew) B (Nat.le_trans hB (by show w5.heap.size ≤ (w5.heap.push _).size; rw [Array.size_push]; omega)) (hown.alloc _) _ 1 cs h2 (by omega)
  refine step_append_run hgd s xo 30 30 ho av _ hs hx v' w' (by rw [hty]; exact hr) (hK v' w' ho' ?_)
  have hd' := World.grownBy_alloc w5 (Go.Obj.cells cs.toArray 65 (0, 0)) av.ownBlock
  have hd : w5.grownBy ((w5.alloc (Go.Obj.cells cs.toArray 65 (0, 0))).drew) av.ownBlock := ⟨hd'.os, hd'.tape, hd'.output, hd'.size, hd'.block⟩
  exact ⟨hg.os.trans hd.os, hg.tape.trans hd.tape, hg.output.trans hd.output, Nat.le_trans hd.size hg.size, fun k hk hne => (hg.block k (Nat.lt_of_lt_of_le hk hd.size) hne).trans (hd.block k hk hne)⟩
theorem add_post {b : Nat} {n r : Int} {ev hv : Value} {t : Rts} {h : List Fix} {av v' : Value} {l : List Fix} {w w5 w6 : World} {x : Fix} (a : ArchAt w b n r ev hv t h av l) (hb : Below w.heap.size w w5) (hg : w5.grownBy w6 av.ownBlock)
    (ho : w6.ownsRow (b + 1) 65 6 v' (l.length + 1) (l.flatMap encX ++ encX x)) : ArchAt (w6.setCell ⟨b, 8, none⟩ v') b n r ev hv t h v' (l ++ [x]) ∧ BelowX (fun k => k = b ∨ av.ownBlock = some k) w (w6.setCell ⟨b, 8, none⟩ v') := by
  have hlt : b < w.heap.size := (Array.getElem?_eq_some_iff.1 a.blk).1
  have hne : some b ≠ av.ownBlock := fun e => by have := (a.own.lt b e.symm).1; omega
  have hb6 : w6.heap[b]? = w.heap[b]? := (hg.block b (Nat.lt_of_lt_of_le hlt hb.size) hne).trans (hb.block b hlt)
  have hlow : ∀ k, k < b → (w6.setCell ⟨b, 8, none⟩ v').heap[k]? = w.heap[k]? := fun k hk => by
    rw [Below.heap_setCell _ _ _ _ (by show k ≠ b; omega)]
    exact (hg.block k (by have := hb.size; omega) (fun e => by have := (a.own.lt k e.symm).1; omega)).trans (hb.block k (by omega))
  refine ⟨⟨?_, ?_, a.hlt, ?_⟩, ?_⟩
  · simp [World.setCell, Array.getElem?_modify, hb6, a.blk, aCells]
  · obtain ⟨q1, q2, a1, cap, q3, q4, q5⟩ := a.his
    refine ⟨q1, q2, a1, cap, q3, q4, fun ad e j u hu => ?_⟩
    have hk : (ad.add j).block < b := by
      have h1 : (ad.add j).block = ad.block := by unfold Addr.add; split <;> rfl
      rw [h1]
      exact a.hlt (fun hn => by subst hn; cases hu) _ (by rw [q3, e]; rfl)
    exact (World.cell?_of_block (hlow _ hk)).trans (q5 ad e j u hu)
  · rw [List.length_append, List.flatMap_append, List.length_singleton, List.flatMap_singleton]
    refine ⟨ho.1, ?_⟩
    rcases ho.2 with h | ⟨g, cap, cur, h1, h2, h3, h4⟩
    · exact .inl h
    · refine .inr ⟨g, cap, cur, h1, h2, ?_, h4⟩
      rw [Below.heap_setCell _ _ _ _ (by show g ≠ b; omega)]
      exact h3
  · have hs := hb.size
    refine ⟨hg.os.trans hb.os, hg.tape.trans hb.tape, hg.output.trans hb.output, ?_, fun k hk hn => ?_⟩
    · show w.heap.size ≤ (w6.setCell ⟨b, 8, none⟩ v').heap.size
      simp only [World.setCell, Array.size_modify]
      exact Nat.le_trans hs hg.size
    · have hn : ¬ (k = b ∨ av.ownBlock = some k) := hn
      rw [Below.heap_setCell _ _ _ _ (by show k ≠ b; exact fun e => hn (.inl e))]
      exact (hg.block k (Nat.lt_of_lt_of_le hk hb.size) (fun e => hn (.inr e.symm))).trans (hb.block k hk)
theorem ArchAt.below {b : Nat} {n r : Int} {ev hv : Value} {t : Rts} {h : List Fix} {av : Value} {l : List Fix} {w w1 : World} (a : ArchAt w b n r ev hv t h av l) (hb : Below w.heap.size w w1) : ArchAt w1 b n r ev hv t h av l :=
  ⟨(hb.block b (Array.getElem?_eq_some_iff.1 a.blk).1).trans a.blk, a.his.below hb, a.hlt, a.own.kept (grown_of_below hb none) (by cases hv : av.ownBlock <;> simp)⟩
theorem wrap_eq {N : Nat} (h0 : 0 < N) (h : N ≤ 8000) : (wrap64 ((N : Int) - 1)).toNat = N - 1 := by unfold wrap64; omega
theorem callAll {b : Nat} {n r : Int} {ev hv : Value} {t : Rts} {h : List Fix} {av : Value} {l : List Fix} (w w1 : World) (a : ArchAt w b n r ev hv t h av l) (hb : Below w.heap.size w w1) (hh : h.length ≤ 4000) (hl : l.length ≤ 4000) :
    Calls Tryz.prog 79 #[.pointer (some ⟨b, 0, none⟩)] w1 fun e w' => ∃ a2 cap2, e = .returned (.slice a2 (h.length + l.length) cap2) ∧ ((h.length + l.length = 0 ∧ (⟨(lastC (h ++ l)).toArray⟩ : ByteArray) = ⟨#[]⟩) ∨ (0 < h.length + l.length ∧ ∃ g, a2 = some ⟨g, 0, none⟩ ∧ w'.cell? ⟨g, (wrap64 (((h.length + l.length : Nat) : Int) - 1)).toNat * 6 + 4, none⟩ = some (.string ⟨(lastC (h ++ l)).toArray⟩))) ∧ Below w1.heap.size w1 w' := by
  refine (walkAll w1 (a.below hb) (by omega) (by omega)).mono ?_
  rintro e w' ⟨v', rfl, ho, hb'⟩
  by_cases h0 : h.length + l.length = 0
  · obtain ⟨a2, cap2, rfl⟩ := own_form ho
    have h1 : h = [] := List.eq_nil_of_length_eq_zero (by omega)
    have h2 : l = [] := List.eq_nil_of_length_eq_zero (by omega)
    subst h1
    subst h2
    exact ⟨_, _, rfl, .inl ⟨rfl, rfl⟩, hb'⟩
  · rcases ho.2 with ⟨_, h1⟩ | ⟨g, cap, cur, rfl, h1, h2, h3⟩
    · exact absurd h1 h0
    · refine ⟨_, _, rfl, .inr ⟨by omega, g, rfl, ?_⟩, hb'⟩
      rw [wrap_eq (by omega) (by omega)]
      have hc := ho.cells (g := g) rfl ((h.length + l.length - 1) * 6 + 4) (.string ⟨(lastC (h ++ l)).toArray⟩) (by
        rw [← List.flatMap_append, ← List.length_append]
        exact lastC_cells _ (fun e => h0 (by rw [← List.length_append, e]; rfl)))
      rw [Nu.addr_add, Nat.zero_add] at hc
      exact hc
theorem wrap_lt {N : Nat} (h0 : 0 < N) (h : N ≤ 8000) : 0 ≤ wrap64 ((N : Int) - 1) ∧ wrap64 ((N : Int) - 1) < N := by unfold wrap64; omega
set_option maxHeartbeats 2000000 in
set_option maxRecDepth 100000 in
theorem walkAdd {b : Nat} {n r : Int} {ev hv : Value} {t : Rts} {h : List Fix} {av : Value} {l : List Fix} (w : World) (hG : GT w) (a : ArchAt w b n r ev hv t h av l) (x : Fix) (hx : inX x) (hh : h.length ≤ 4000) (hl : l.length ≤ 4000) (hch : ∀ y ∈ h ++ l, inX y) :
    Calls Tryz.prog 42 #[.pointer (some ⟨b, 0, none⟩), .agg (encX x).toArray] w fun e w' => e = .returned (.tuple #[]) ∧ ∃ av', ArchAt w' b n r ev hv t h av' (l ++ [(x.1, x.2.1, x.2.2.1, x.2.2.2.1, chainP (lastC (h ++ l)) x, x.2.2.2.2.2)]) ∧ BelowX (fun k => k = b ∨ av.ownBlock = some k) w w' := by
  obtain ⟨N, hN⟩ : ∃ N, N = h.length + l.length := ⟨_, rfl⟩
  obtain ⟨bf, hbf⟩ : ∃ bf, bf = lastC (h ++ l) := ⟨_, rfl⟩
  have hbl : bf.length ≤ 1000 := by rw [hbf]; exact lastC_len hch
  have hbo := body_len hx
  obtain ⟨B0, hB0⟩ : ∃ B0 : ByteArray, B0 = ⟨bf.toArray⟩ := ⟨_, rfl⟩
  obtain ⟨D0, hD0⟩ : ∃ D0 : ByteArray, D0 = ⟨(bodyP x).toArray⟩ := ⟨_, rfl⟩
  obtain ⟨C0, hC0⟩ : ∃ C0 : List UInt8, C0 = dig (bf ++ bodyP x) := ⟨_, rfl⟩
  have hb1 : (B0.size : Int) ≤ 8388608 := by
    rw [hB0]
    show ((bf.toArray.size : Nat) : Int) ≤ _
    rw [List.size_toArray]; omega
  have hb2 : (D0.size : Int) ≤ 8388608 := by
    rw [hD0]
    show (((bodyP x).toArray.size : Nat) : Int) ≤ _
    rw [List.size_toArray]; omega
  have HA : Aside (∀ w1, Below w.heap.size w w1 → Calls Tryz.prog 79 #[.pointer (some ⟨b, 0, none⟩)] w1 fun e w' => ∃ a2 cap2, e = .returned (.slice a2 N cap2) ∧ ((N = 0 ∧ B0 = ⟨#[]⟩) ∨ (0 < N ∧ ∃ g, a2 = some ⟨g, 0, none⟩ ∧ w'.cell? ⟨g, (wrap64 ((N : Int) - 1)).toNat * 6 + 4, none⟩ = some (.string B0))) ∧ Below w1.heap.size w1 w') := fun w1 hb => by
    rw [hN, hB0, hbf]
    exact callAll w w1 a hb hh hl
  have A : Aside (ArchAt w b n r ev hv t h av l ∧ GT w ∧ C0 = chainP (lastC (h ++ l)) x) := ⟨a, hG, by rw [hC0, hbf]; rfl⟩
  have HB : Aside (∀ w1, Below w.heap.size w w1 → Calls Tryz.prog 74 #[.agg (encX x).toArray] w1 fun e w' => e = .returned (.string D0) ∧ Below w1.heap.size w1 w') := fun w1 hb => by rw [hD0]; exact callBody x hx w1 (keepsGT _ _ hG hb)
  have HS : Aside (∀ w1, Below w.heap.size w w1 → Calls Tryz.prog 73 #[.string (B0 ++ D0)] w1 fun e w' => e = .returned (.string ⟨C0.toArray⟩) ∧ Below w1.heap.size w1 w') := fun w1 hb => by rw [hB0, hD0, ByteArray.mk_append_mk, hC0]; exact callSum _ w1 (keepsGT _ _ hG hb) (by rw [List.length_append]; omega)
  have hN8 : Aside (N ≤ 8000) := by subst hN; exact Nat.le_trans (Nat.add_le_add hh hl) (by omega)
  clear a hG hbf hN hbl hx hbo hB0 hD0 hC0
  unfold encX at HB ⊢
  go_enter Tryz.func42, Tryz.ntmps42
  go_wp2_with (first
    | (go_at_call 79; refine (HA.out _ ?_).mono ?_; (exact (Below.refl _ w).alloc (Nat.le_refl _) _); rintro e w2 ⟨a2, cap2, rfl, hc, hb⟩; have H2 : Aside (AddW w w2 x x.2.2.2.2.1) := AddW.start rfl hb; clear hb; obtain ⟨p0, p1, p2, p3, p4, p5, f4⟩ := H2.out.c; rcases hc with ⟨rfl, rfl⟩ | ⟨h0, g, rfl, hc⟩; rotate_left; have hi : 0 ≤ wrap64 ((N : Int) - 1) ∧ wrap64 ((N : Int) - 1) < N := wrap_lt h0 hN8.out)
    | (go_at_call 74; refine (HB.out _ H2.out.b0).mono ?_; rintro e w3 ⟨rfl, hb⟩; have H3 : Aside (AddW w w3 x x.2.2.2.2.1) := H2.out.step hb; clear hb p0 p1 p2 p3 p4 p5 f4)
    | (go_at_call 73; refine (HS.out _ H3.out.b0).mono ?_; rintro e w4 ⟨rfl, hb⟩; have H4 : Aside (AddW w w4 x x.2.2.2.2.1) := H3.out.step hb; clear hb; obtain ⟨p0, p1, p2, p3, p4, p5, f4⟩ := H4.out.c))
  all_goals
    have H5 : Aside (AddW w (w4.setCell ⟨w.heap.size, 4, none⟩ (.string ⟨C0.toArray⟩)) x C0) := H4.out.set
    clear p0 p1 p2 p3 p4 p5 f4
    generalize w4.setCell _ _ = w5 at *
    obtain ⟨p0, p1, p2, p3, p4, p5, -⟩ := H5.out.c
    have hbw : b < w.heap.size := (Array.getElem?_eq_some_iff.1 A.out.1.blk).1
    have c8 : w5.cell? ⟨b, 8, none⟩ = some av := (H5.out.b0.cell hbw).trans A.out.1.c.c8
    have f8 : w5.frozen? ⟨b, 8, none⟩ = false := (H5.out.b0.frozen hbw).trans (by simp [World.frozen?, A.out.1.blk])
    have c8a : (w5.alloc (Go.Obj.cells #[.int .i64 x.1, .int .i64 x.2.1, .int .i64 x.2.2.1, .string ⟨x.2.2.2.1.toArray⟩, .string ⟨C0.toArray⟩, .bool x.2.2.2.2.2] 65 (0, 0))).cell? ⟨b, 8, none⟩ = some av := Lib.cell?_alloc_some _ c8
    have c8d : (w5.alloc (Go.Obj.cells #[.int .i64 x.1, .int .i64 x.2.1, .int .i64 x.2.2.1, .string ⟨x.2.2.2.1.toArray⟩, .string ⟨C0.toArray⟩, .bool x.2.2.2.2.2] 65 (0, 0))).drew.cell? ⟨b, 8, none⟩ = some av := c8a
    have HO : Aside (w5.ownsRow (b + 1) 65 6 av l.length (l.flatMap encX) ∧ b + 1 ≤ w5.heap.size ∧ l.length ≤ 10000) := ⟨A.out.1.own.kept (grown_of_below H5.out.b0 none) (by cases hv : av.ownBlock <;> simp), Nat.le_trans hbw H5.out.b0.size, Nat.le_trans hl (by omega)⟩
  all_goals
    go_region_law (refine step_add rfl (.tmp 28) (.tmp 30) rfl rfl w5 [.int .i64 x.1, .int .i64 x.2.1, .int .i64 x.2.2.1, .string ⟨x.2.2.2.1.toArray⟩, .string ⟨C0.toArray⟩, .bool x.2.2.2.2.2] rfl (encX_one (x.1, x.2.1, x.2.2.1, x.2.2.2.1, C0, x.2.2.2.2.2)) (b + 1) l.length av (l.flatMap encX) HO.out.1 HO.out.2.1 HO.out.2.2 (by simp [Act.eval, Act.put]) (by simp [Act.eval, Act.put]) ?_; intro v6 w6 ho6 hg6; obtain ⟨a6, cap6, rfl⟩ := own_form ho6; have H6 : Aside (w6.ownsRow (b + 1) 65 6 (.slice a6 (l.length + 1) cap6) (l.length + 1) (l.flatMap encX ++ encX (x.1, x.2.1, x.2.2.1, x.2.2.2.1, C0, x.2.2.2.2.2)) ∧ w5.grownBy w6 av.ownBlock) := ⟨ho6, hg6⟩; have c86 : w6.cell? ⟨b, 8, none⟩ = some av := (hg6.cell_far ⟨b, 8, none⟩ HO.out.2.1 (fun e => by have := (HO.out.1.lt b e.symm).1; omega)).trans c8; have f86 : w6.frozen? ⟨b, 8, none⟩ = false := (hg6.frozen_far ⟨b, 8, none⟩ HO.out.2.1 (fun e => by have := (HO.out.1.lt b e.symm).1; omega)).trans f8; clear ho6 hg6)
  all_goals go_end0
  all_goals
    have hP := add_post A.out.1 H5.out.b0 H6.out.2 H6.out.1
    rw [← A.out.2.2]
    exact ⟨rfl, _, hP.1, hP.2⟩
end Go.Proofs.YtecjedagdpnemaaGreatDoor
