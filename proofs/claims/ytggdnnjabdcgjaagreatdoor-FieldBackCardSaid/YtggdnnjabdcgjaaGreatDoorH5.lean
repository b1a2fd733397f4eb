/-
  field.Set, walked. No condition beyond what each line says.
-/
import Derived.Test.YtggdnnjabdcgjaaGreatDoorH4
namespace Go.Proofs.YtggdnnjabdcgjaaGreatDoor.S
open Go Go.Nu Go.RowKit Go.Sort Go.Lib
set_option linter.unusedVariables false

theorem start_at (w : World) (a b s d c : Value) : SetAt w.heap.size a b s d c (((w.alloc (.cells #[a, b, s, d] 24)).alloc (.cells #[c] 5)).alloc (.cells #[.string ⟨#[]⟩, .string ⟨#[]⟩, .slice none 0 0, .int .i64 0] 24)) := by
  generalize ha : (Obj.cells #[a, b, s, d] 24) = A
  generalize hb : (Obj.cells #[c] 5) = B
  generalize hc : (Obj.cells #[.string ⟨#[]⟩, .string ⟨#[]⟩, .slice none 0 0, .int .i64 0] 24) = C
  have h1 := heap_alloc_new w A
  have h2 := heap_alloc_new (w.alloc A) B
  have h3 := heap_alloc_new ((w.alloc A).alloc B) C
  have s1 : (w.alloc A).heap.size = w.heap.size + 1 := by simp
  have s2 : ((w.alloc A).alloc B).heap.size = w.heap.size + 2 := by simp
  have k1 := (Below.refl _ (w.alloc A)).alloc (Nat.le_refl _) B
  have k2 := (Below.refl _ ((w.alloc A).alloc B)).alloc (Nat.le_refl _) C
  rw [s1] at k1 h2
  rw [s2] at k2 h3
  refine ⟨?_, ?_, ?_⟩
  · rw [k2.block _ (by omega), k1.block _ (by omega), h1, ha]
  · rw [k2.block _ (by omega), h2, hb]
  · rw [h3, hc]
theorem own_shape {w : World} {B e n : Nat} {v : Value} {xs : List Value} (h : w.ownsRow B e 2 v n xs) : ∃ a cap, v = .slice a n cap := by
  rcases h.2 with ⟨rfl, rfl⟩ | ⟨g, cap, cur, rfl, _⟩ <;> exact ⟨_, _, rfl⟩
theorem rowH_shape {B : Nat} {w : World} {l : List Sub} {v : Value} (h : RowH B w l v) : ∃ a cap, v = .slice a l.length cap := by
  rcases h with ⟨rfl, a, cap, rfl, _⟩ | ⟨g, cap, rfl, _⟩ <;> exact ⟨_, _, rfl⟩
theorem start_below (w : World) (a b c : Obj) : Below w.heap.size w (((w.alloc a).alloc b).alloc c) := (((Below.refl _ w).alloc (Nat.le_refl _) a).alloc (by simp) b).alloc (by simp; omega) c
theorem start_size (w : World) (a b c : Obj) : (((w.alloc a).alloc b).alloc c).heap.size = w.heap.size + 3 := by simp

theorem own_set {w : World} {B n k : Nat} {v s : Value} {xs : List Value} (h : w.ownsRow B 46 2 v n xs) (hk : k < B) : (w.setCell ⟨k, 2, none⟩ s).ownsRow B 46 2 v n xs := by
  refine ⟨h.1, ?_⟩
  rcases h.2 with h | ⟨g, cap, cur, rfl, h1, h2, h3⟩
  · exact .inl h
  · exact .inr ⟨g, cap, cur, rfl, h1, by rw [Below.heap_setCell _ _ _ _ (by simp; omega)]; exact h2, h3⟩
theorem below_set {w w1 : World} {k o : Nat} {s : Value} (h : Below w.heap.size w w1) (hk : w.heap.size ≤ k) : Below w.heap.size w (w1.setCell ⟨k, o, none⟩ s) :=
  ⟨h.os, h.tape, h.output, by simpa [World.setCell] using h.size, fun j hj => by rw [Below.heap_setCell _ _ _ _ (by simp; omega)]; exact h.block j hj⟩
theorem below_x {w w1 w2 : World} {n : Nat} (h : Below w.heap.size w w1) (hb : BelowX (fun k => w.heap.size + n ≤ k) w1 w2) : Below w.heap.size w w2 :=
  ⟨hb.os.trans h.os, hb.tape.trans h.tape, hb.output.trans h.output, Nat.le_trans h.size hb.size, fun j hj => (hb.block j (Nat.lt_of_lt_of_le hj h.size) (by omega)).trans (h.block j hj)⟩
theorem rowH_set {B : Nat} {w : World} {l : List Sub} {v s : Value} {k o : Nat} (h : RowH B w l v) (hk : k < B) : RowH B (w.setCell ⟨k, o, none⟩ s) l v :=
  h.kept (by simp [World.setCell]) fun j hj _ => Below.heap_setCell _ _ _ _ (by simp; omega)
theorem rowH_le {B B' : Nat} {w : World} {l : List Sub} {v : Value} (h : RowH B w l v) (hk : B' ≤ B) : RowH B' w l v := by
  rcases h with h | ⟨g, cap, h1, h2, h3⟩
  · exact .inl h
  · exact .inr ⟨g, cap, h1, by omega, h3⟩
theorem below_end {w w2 : World} {a0 a1 a2 a3 a4 : Value} (h : Below w.heap.size w w2) :
    Below w.heap.size w (((((w2.setCell ⟨w.heap.size, 2, none⟩ a0).setCell ⟨w.heap.size + 2, 0, none⟩ a1).setCell ⟨w.heap.size + 2, 1, none⟩ a2).setCell ⟨w.heap.size + 2, 2, none⟩ a3).setCell ⟨w.heap.size + 2, 3, none⟩ a4) :=
  below_set (below_set (below_set (below_set (below_set h (Nat.le_refl _)) (by omega)) (by omega)) (by omega)) (by omega)
theorem rowH_end {w w2 : World} {l : List Sub} {v a0 a1 a2 a3 a4 : Value} (h : RowH (w.heap.size + 3) w2 l v) :
    RowH w.heap.size (((((w2.setCell ⟨w.heap.size, 2, none⟩ a0).setCell ⟨w.heap.size + 2, 0, none⟩ a1).setCell ⟨w.heap.size + 2, 1, none⟩ a2).setCell ⟨w.heap.size + 2, 2, none⟩ a3).setCell ⟨w.heap.size + 2, 3, none⟩ a4) l v :=
  rowH_le (rowH_set (rowH_set (rowH_set (rowH_set (rowH_set h (by omega)) (by omega)) (by omega)) (by omega)) (by omega)) (by omega)

theorem end_heap {n : Nat} {a b s d c a0 a1 a2 a3 a4 : Value} {w2 : World} (h : SetAt n a b s d c w2) :
    (((((w2.setCell ⟨n, 2, none⟩ a0).setCell ⟨n + 2, 0, none⟩ a1).setCell ⟨n + 2, 1, none⟩ a2).setCell ⟨n + 2, 2, none⟩ a3).setCell ⟨n + 2, 3, none⟩ a4).heap[n + 2]? = some (.cells #[a1, a2, a3, a4] 24 (0, 0)) := by
  have h6 : (w2.setCell ⟨n, 2, none⟩ a0).heap[n + 2]? = some (.cells #[.string ⟨#[]⟩, .string ⟨#[]⟩, .slice none 0 0, .int .i64 0] 24 (0, 0)) := by rw [Below.heap_setCell _ _ _ _ (by simp)]; exact h.e6
  generalize w2.setCell ⟨n, 2, none⟩ a0 = w3 at *
  simp [World.setCell, Array.getElem?_modify, h6]
theorem res20 {tmps : Array Value} {n : Nat} {a b s d c a0 a1 a2 a3 a4 : Value} {w2 : World} (hp : tmps.getD 6 undef = .pointer (some ⟨n + 2, 0, none⟩)) (h : SetAt n a b s d c w2) :
    (results Tryz.f20 tmps).run Tryz.prog (((((w2.setCell ⟨n, 2, none⟩ a0).setCell ⟨n + 2, 0, none⟩ a1).setCell ⟨n + 2, 1, none⟩ a2).setCell ⟨n + 2, 2, none⟩ a3).setCell ⟨n + 2, 3, none⟩ a4) =
      .ok (.agg #[a1, a2, a3, a4]) (((((w2.setCell ⟨n, 2, none⟩ a0).setCell ⟨n + 2, 0, none⟩ a1).setCell ⟨n + 2, 1, none⟩ a2).setCell ⟨n + 2, 2, none⟩ a3).setCell ⟨n + 2, 3, none⟩ a4) :=
  results_cell_row (fn := Tryz.f20) (p := 6) (ty := 24) rfl tmps _ (n + 2) 24 #[a1, a2, a3, a4] (0, 0) _ hp (end_heap h) Tryz.underlying24 rfl (by kernel_rfl)

set_option maxHeartbeats 4000000 in
set_option maxRecDepth 1000000 in
theorem walkSetA (tag ind : List UInt8) (l : List Sub) (auth : Int) (c : UInt8) (sv : Value) (w : World) (S : Nat → Nat → Prop) (hg : GT w) (h : Holds0 S w l sv) (hl : l.length ≤ 1000000) :
    Calls Tryz.prog 20 #[.agg #[.string ⟨tag.toArray⟩, .string ⟨ind.toArray⟩, sv, .int .i64 auth], .int .u8 (c.toNat : Int), .string ⟨#[]⟩] w fun e w' =>
      ∃ sv', e = .returned (.agg #[.string ⟨tag.toArray⟩, .string ⟨ind.toArray⟩, sv', .int .i64 auth]) ∧ Below w.heap.size w w' ∧ RowH w.heap.size w' (l.filter fun s => s.1 != c) sv' := by
  have H : Aside (Holds0 S w l sv ∧ GT w) := ⟨h, hg⟩
  clear h hg
  go_enter Tryz.func20, Tryz.ntmps20
  go_wp2_with (first
    | (go_at_call 36; refine (callClone w _ (start_below w _ _ _) H.out.1 hl).mono ?_; rintro e w1 ⟨v', rfl, hown, hb⟩; rw [start_size] at hown hb; obtain ⟨a', cap', rfl⟩ := own_shape hown; have HA : Aside (SetAt w.heap.size (.string ⟨tag.toArray⟩) (.string ⟨ind.toArray⟩) sv (.int .i64 auth) (.int .u8 (c.toNat : Int)) w1 ∧ w1.ownsRow (w.heap.size + 3) 46 2 (.slice a' l.length cap') l.length (l.flatMap encS) ∧ Below w.heap.size w w1) := ⟨(start_at w _ _ _ _ _).kept fun k hk => hb.block k hk, hown, (start_below w _ _ _).trans ⟨hb.os, hb.tape, hb.output, hb.size, fun k hk => hb.block k (by omega)⟩⟩; have HC := HA.out.1.c; have z3 := HC.a2; have f3 := HC.f2; clear hown hb HC)
    | (go_at_call 37; refine (callDel c (w.heap.size + 1) (w.heap.size + 3) l _ _ (fun w' hb => keepsGT w w' H.out.2 (below_x (below_set HA.out.2.2 (Nat.le_refl _)) hb)) (HA.out.1.set.c.c0) (by omega) (own_set HA.out.2.1 (by omega)) hl).mono ?_; rintro e w2 ⟨v2, rfl, hb, hr⟩; obtain ⟨a2, cap2, rfl⟩ := rowH_shape hr; have HA2 : Aside (SetAt w.heap.size (.string ⟨tag.toArray⟩) (.string ⟨ind.toArray⟩) (.slice a' l.length cap') (.int .i64 auth) (.int .u8 (c.toNat : Int)) w2 ∧ Below w.heap.size w w2 ∧ RowH (w.heap.size + 3) w2 (l.filter fun s => s.1 != c) (.slice a2 (l.filter fun s => s.1 != c).length cap2)) := ⟨HA.out.1.set.kept fun k hk => hb.block k (Nat.lt_of_lt_of_le (by have := HA.out.1.e6; have := (Array.getElem?_eq_some_iff.1 this).1; simp [World.setCell]; omega) (Nat.le_refl _)) (by omega), below_x (below_set HA.out.2.2 (Nat.le_refl _)) hb, hr⟩; obtain ⟨x0, x1, x2, x3, x4, x5, y0, y1, y2, y3, y4, y5, y6, y7⟩ := HA2.out.1.c; clear hb hr z3 f3))
  (try simp only [Exit.inBlock, Exit.then])
  exact bodyPost_ret (res20 rfl HA2.out.1) rfl ⟨_, rfl, below_end HA2.out.2.1, rowH_end HA2.out.2.2⟩
end Go.Proofs.YtggdnnjabdcgjaaGreatDoor.S
