/-
  field.Set, walked: where a subfield is turned, and where one is appended. No condition beyond what each line says.
-/
import Derived.Test.YtggdnnjabdcgjaaGreatDoorH6
namespace Go.Proofs.YtggdnnjabdcgjaaGreatDoor.S
open Go Go.Nu Go.RowKit Go.Sort Go.Lib
set_option linter.unusedVariables false

set_option maxHeartbeats 4000000 in
set_option maxRecDepth 1000000 in
theorem walkSetB (tag ind : List UInt8) (bv : ByteArray) (hbv : bv.toList.isEmpty = false) (v : List UInt8) (hv : bv = ⟨v.toArray⟩) (l : List Sub) (auth : Int) (c : UInt8) (sv : Value) (w : World) (S : Nat → Nat → Prop) (hg : GT w) (h : Holds0 S w l sv) (hl : l.length ≤ 1000000) (k : Nat) (hk : idxS c l 0 = (k : Int)) :
    Calls Tryz.prog 20 #[.agg #[.string ⟨tag.toArray⟩, .string ⟨ind.toArray⟩, sv, .int .i64 auth], .int .u8 (c.toNat : Int), .string bv] w fun e w' =>
      ∃ sv', e = .returned (.agg #[.string ⟨tag.toArray⟩, .string ⟨ind.toArray⟩, sv', .int .i64 auth]) ∧ Below w.heap.size w w' ∧ RowH w.heap.size w' (setS c v l) sv' := by
  have H : Aside (Holds0 S w l sv ∧ GT w) := ⟨h, hg⟩
  obtain ⟨hkl, hset⟩ := setS_at c v l 0 k (by rw [show ((0 : Nat) : Int) = 0 from rfl, hk]; congr 1; omega)
  have HK : Aside (idxS c l 0 = (k : Int) ∧ setS c v l = l.set k ((l.getD k (0, [])).1, v) ∧ bv = ⟨v.toArray⟩) := ⟨hk, hset, hv⟩
  have hkz : ((k : Int) : Int) < (l.length : Int) := by omega
  rw [hset]
  clear h hg hk hset hv
  go_enter Tryz.func20, Tryz.ntmps20
  go_wp2_with (first
    | (go_at_call 36; refine (callClone w _ (start_below w _ _ _) H.out.1 hl).mono ?_; rintro e w1 ⟨v', rfl, hown, hb⟩; rw [start_size] at hown hb; obtain ⟨g, cap, cur, rfl, o1, o2, o3, o4, o5, o6⟩ := own_pos hown (by omega); have HA : Aside (SetAt w.heap.size (.string ⟨tag.toArray⟩) (.string ⟨ind.toArray⟩) sv (.int .i64 auth) (.int .u8 (c.toNat : Int)) w1 ∧ w1.ownsRow (w.heap.size + 3) 46 2 (.slice (some ⟨g, 0, none⟩) l.length cap) l.length (l.flatMap encS) ∧ Below w.heap.size w w1 ∧ GAt g k l cap w1 ∧ w.heap.size + 3 ≤ g ∧ g < w1.heap.size) := ⟨(start_at w _ _ _ _ _).kept fun k hk => hb.block k hk, hown, (start_below w _ _ _).trans ⟨hb.os, hb.tape, hb.output, hb.size, fun k hk => hb.block k (by omega)⟩, gAt o2 hkl o3 o5, o1, (Array.getElem?_eq_some_iff.1 o2).1⟩; have HC := HA.out.1.c; have z3 := HC.a2; have f3 := HC.f2; clear hown hb HC o1 o2 o3 o4 o5 o6)
    | (go_at_call 29; refine (callIdx2 c (w.heap.size + 1) (w.heap.size + 3) l _ _ (keepsGT w _ H.out.2 (below_set HA.out.2.2.1 (Nat.le_refl _))) (HA.out.1.set.c.c0) (rowH_set (rowH_of HA.out.2.1) (by omega)) hl).mono ?_; rw [HK.out.1]; rintro e w2 ⟨rfl, hb⟩;
        have HA2 : Aside (SetAt w.heap.size (.string ⟨tag.toArray⟩) (.string ⟨ind.toArray⟩) (.slice (some ⟨g, 0, none⟩) l.length cap) (.int .i64 auth) (.int .u8 (c.toNat : Int)) w2 ∧ Below w.heap.size w w2 ∧ RowH (w.heap.size + 3) w2 l (.slice (some ⟨g, 0, none⟩) l.length cap) ∧ GAt g k l cap w2) := midAt HA.out.1 HA.out.2.1 HA.out.2.2.1 HA.out.2.2.2.1 HA.out.2.2.2.2.1 HA.out.2.2.2.2.2 hb;
        have y2 := HA2.out.1.c.a2; obtain ⟨q1, q2⟩ := HA2.out.2.2.2.o; have q3 := HA2.out.2.2.2.f;
        have HA3 : Aside (SetAt w.heap.size (.string ⟨tag.toArray⟩) (.string ⟨ind.toArray⟩) (.slice (some ⟨g, 0, none⟩) l.length cap) (.int .i64 auth) (.int .u8 (c.toNat : Int)) (w2.setCell ⟨g, k * 2 + 1, none⟩ (.string bv))) := HA2.out.1.kept fun j hj => Below.heap_setCell _ _ _ _ (by have := HA.out.2.2.2.2.1; simp; omega);
        obtain ⟨x0, x1, x2, x3, x4, x5, p0, p1, p2, p3, p4, p5, p6, p7⟩ := HA3.out.c; clear hb z3 f3))
  (try simp only [Exit.inBlock, Exit.then])
  refine bodyPost_ret (res4 rfl HA3.out) rfl ⟨_, rfl, below_end4 (below_set HA2.out.2.1 (by have := HA.out.2.2.2.2.1; omega)), rowH_end4 ?_⟩
  rw [HK.out.2.2]
  exact rowSet HA2.out.2.2.1 hkl rfl

set_option maxHeartbeats 4000000 in
set_option maxRecDepth 1000000 in
theorem walkSetC (tag ind : List UInt8) (bv : ByteArray) (hbv : bv.toList.isEmpty = false) (v : List UInt8) (hv : bv = ⟨v.toArray⟩) (l : List Sub) (auth : Int) (c : UInt8) (sv : Value) (w : World) (S : Nat → Nat → Prop) (hg : GT w) (h : Holds0 S w l sv) (hl : l.length ≤ 1000000) (hk : idxS c l 0 = -1) :
    Calls Tryz.prog 20 #[.agg #[.string ⟨tag.toArray⟩, .string ⟨ind.toArray⟩, sv, .int .i64 auth], .int .u8 (c.toNat : Int), .string bv] w fun e w' =>
      ∃ sv', e = .returned (.agg #[.string ⟨tag.toArray⟩, .string ⟨ind.toArray⟩, sv', .int .i64 auth]) ∧ Below w.heap.size w w' ∧ RowH w.heap.size w' (setS c v l) sv' := by
  have H : Aside (Holds0 S w l sv ∧ GT w) := ⟨h, hg⟩
  obtain ⟨i0, z, i1, i2, i3, i4, i5⟩ := info46
  have HK : Aside (idxS c l 0 = -1 ∧ bv = ⟨v.toArray⟩) := ⟨hk, hv⟩
  rw [setS_none c v l 0 hk]
  clear h hg hk hv
  go_enter Tryz.func20, Tryz.ntmps20
  go_wp2_with (first
    | (go_at_call 36; refine (callClone w _ (start_below w _ _ _) H.out.1 hl).mono ?_; rintro e w1 ⟨v', rfl, hown, hb⟩; rw [start_size] at hown hb; obtain ⟨a', cap', rfl⟩ := own_shape hown; have HA : Aside (SetAt w.heap.size (.string ⟨tag.toArray⟩) (.string ⟨ind.toArray⟩) sv (.int .i64 auth) (.int .u8 (c.toNat : Int)) w1 ∧ w1.ownsRow (w.heap.size + 3) 46 2 (.slice a' l.length cap') l.length (l.flatMap encS) ∧ Below w.heap.size w w1) := ⟨(start_at w _ _ _ _ _).kept fun k hk => hb.block k hk, hown, (start_below w _ _ _).trans ⟨hb.os, hb.tape, hb.output, hb.size, fun k hk => hb.block k (by omega)⟩⟩; have HC := HA.out.1.c; have z3 := HC.a2; have f3 := HC.f2; clear hown hb HC)
    | (go_at_call 29; refine (callIdx2 c (w.heap.size + 1) (w.heap.size + 3) l _ _ (keepsGT w _ H.out.2 (below_set HA.out.2.2 (Nat.le_refl _))) (HA.out.1.set.c.c0) (rowH_set (rowH_of HA.out.2.1) (by omega)) hl).mono ?_; rw [HK.out.1]; rintro e w2 ⟨rfl, hb⟩;
        have HA2 : Aside (SetAt w.heap.size (.string ⟨tag.toArray⟩) (.string ⟨ind.toArray⟩) (.slice a' l.length cap') (.int .i64 auth) (.int .u8 (c.toNat : Int)) w2 ∧ Below w.heap.size w w2 ∧ w2.ownsRow (w.heap.size + 3) 46 2 (.slice a' l.length cap') l.length (l.flatMap encS)) := midOwn HA.out.1 HA.out.2.1 HA.out.2.2 hb;
        obtain ⟨x0, x1, x2, x3, x4, x5, y0, y1, y2, y3, y4, y5, y6, y7⟩ := HA2.out.1.c; clear hb z3 f3)
    | (at_builtin; refine wpList_append_own _ rfl _ _ 22 rfl (w.heap.size + 3) 46 i0 z 2 24 Tryz.underlying22 i1 i2 i3 i4 i5 (by omega) _ _ _ rfl (own_alloc _ HA2.out.2.2) ⟨w2.heap.size, 0, none⟩ 1 1 [.int .u8 (c.toNat : Int), .string bv] rfl rfl (newCells _ _ _) (by intro u hu; simp only [List.mem_cons, List.not_mem_nil, or_false] at hu; rcases hu with rfl | rfl <;> rfl) (by unfold maxLen; omega) (by omega) (by have := (Array.getElem?_eq_some_iff.1 HA2.out.1.e6).1; simp; omega) ?_;
        intro v3 w3 hown3 hgrow hnil; obtain ⟨a3, cap3, rfl⟩ := own_shape hown3;
        have HA3 : Aside (SetAt w.heap.size (.string ⟨tag.toArray⟩) (.string ⟨ind.toArray⟩) (.slice a' l.length cap') (.int .i64 auth) (.int .u8 (c.toNat : Int)) w3 ∧ Below w.heap.size w w3 ∧ RowH (w.heap.size + 3) w3 (l ++ [(c, v)]) (.slice a3 (l.length + 1) cap3)) := endOwn HA2.out.1 HA2.out.2.1 HA2.out.2.2 hgrow (by have h5 := hown3; rw [HK.out.2] at h5; exact h5);
        obtain ⟨x0, x1, x2, x3, x4, x5, y0, y1, y2, y3, y4, y5, y6, y7⟩ := HA3.out.1.c; clear hown3 hgrow hnil))
  (try simp only [Exit.inBlock, Exit.then])
  exact bodyPost_ret (res20 rfl HA3.out.1) rfl ⟨_, rfl, below_end HA3.out.2.1, rowH_end HA3.out.2.2⟩
end Go.Proofs.YtggdnnjabdcgjaaGreatDoor.S
