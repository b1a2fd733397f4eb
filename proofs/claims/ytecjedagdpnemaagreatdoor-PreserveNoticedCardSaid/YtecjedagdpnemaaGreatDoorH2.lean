/-
  slices.Clone, the archive's functions, walked: what they return, in whatever world. No condition beyond what each line says.
-/
import Derived.Test.YtecjedagdpnemaaGreatDoorH1
import Derived.Shelf.SlicesE.Clone
import Derived.StillTailTactics
namespace Go.Proofs.YtecjedagdpnemaaGreatDoor
open Go Go.Nu Go.RowKit Go.Sort
set_option linter.unusedVariables false
theorem info70 : ∃ i0 z, Tryz.prog.info? 70 = some i0 ∧ i0.zero = some z ∧ i0.size = 2 ∧ i0.bytes = 32 ∧ z.cells.size = 2 := by
  have h : ((Tryz.prog.info? 70).bind fun i => i.zero.map fun z => (i.size, i.bytes, z.cells.size)) = some (2, 32, 2) := by kernel_rfl
  cases hi : Tryz.prog.info? 70 with
  | none => rw [hi] at h; cases h
  | some i0 =>
    rw [hi] at h
    replace h : (i0.zero.map fun z => (i0.size, i0.bytes, z.cells.size)) = some (2, 32, 2) := h
    cases hz : i0.zero with
    | none => rw [hz] at h; cases h
    | some z =>
      rw [hz] at h
      replace h : some (i0.size, i0.bytes, z.cells.size) = some (2, 32, 2) := h
      injection h with h
      injection h with h1 h2
      injection h2 with h2 h3
      exact ⟨i0, z, rfl, hz, h1, h2, h3⟩
theorem info63 : ∃ i0 z, Tryz.prog.info? 63 = some i0 ∧ i0.zero = some z ∧ i0.size = 5 ∧ i0.bytes = 64 ∧ z.cells.size = 5 := by
  have h : ((Tryz.prog.info? 63).bind fun i => i.zero.map fun z => (i.size, i.bytes, z.cells.size)) = some (5, 64, 5) := by kernel_rfl
  cases hi : Tryz.prog.info? 63 with
  | none => rw [hi] at h; cases h
  | some i0 =>
    rw [hi] at h
    replace h : (i0.zero.map fun z => (i0.size, i0.bytes, z.cells.size)) = some (5, 64, 5) := h
    cases hz : i0.zero with
    | none => rw [hz] at h; cases h
    | some z =>
      rw [hz] at h
      replace h : some (i0.size, i0.bytes, z.cells.size) = some (5, 64, 5) := h
      injection h with h
      injection h with h1 h2
      injection h2 with h2 h3
      exact ⟨i0, z, rfl, hz, h1, h2, h3⟩
set_option maxHeartbeats 2000000 in
set_option maxRecDepth 100000 in
theorem walkClone41 (ad : Addr) (n c : Nat) (news : List Value) (w : World) (hl : news.length = n * 2) (hn : n ≤ 100000) (hc : ∀ j u, news[j]? = some u → w.cell? (ad.add j) = some u) (h1 : ∀ u ∈ news, u.oneCell' = true) :
    Calls Tryz.prog 41 #[.slice (some ad) n c] w fun e w' => ∃ v', e = .returned v' ∧ w'.ownsRow w.heap.size 70 2 v' n news ∧ Below w.heap.size w w' := by
  obtain ⟨i0, z, q1, q2, q3, q4, q5⟩ := info70
  have q22 : ∀ (w : World) (a : Option Addr) (n c n' c' : Nat), (binOp .eql 22 (.slice a n c) (.slice none n' c')).run Tryz.prog w = .ok (.bool a.isNone) w := fun w a n c n' c' => Lib.run_eql_slice_nil w _ _ a n c n' c' Tryz.underlying22
  have A : Aside (∀ j u, news[j]? = some u → w.cell? (ad.add j) = some u) := hc
  clear hc
  go_enter Tryz.func41, Tryz.ntmps41
  go_wp2_with (at_builtin; refine wpList_append_own _ rfl _ _ 22 rfl w.heap.size 70 i0 z 2 32 Tryz.underlying22 q1 q2 q3 q4 q5 (by omega) _ _ _ rfl (World.ownsRow_made w #[] 0 (Nat.le_refl _) (Nat.zero_le _) (by simp)) ad n c news rfl ?qc1 ?qc2 ?qc3 ?qc4 ?qc5 ?qc6 ?_)
  case qc1 => exact hl
  case qc2 =>
    intro j u hj
    exact Lib.cell?_alloc_some _ (A.out j u hj)
  case qc3 => exact h1
  case qc4 => unfold maxLen; omega
  case qc5 => omega
  case qc6 => simp
  intro v' w1 hown hgrow hnil
  go_wp2
  go_ret
  refine ⟨v', rfl, by simpa using hown, ?_⟩
  exact ((Below.refl _ w).alloc (Nat.le_refl _) _).grown hgrow (by simp) (by intro k hk; simp [Value.ownBlock] at hk; omega)
set_option maxHeartbeats 1000000 in
theorem walkClone41_nil (n c : Nat) (w : World) : Calls Tryz.prog 41 #[.slice none n c] w fun e w' => e = .returned (.slice none 0 0) ∧ w' = w := by
  have q22 : ∀ (w : World) (a : Option Addr) (n c n' c' : Nat), (binOp .eql 22 (.slice a n c) (.slice none n' c')).run Tryz.prog w = .ok (.bool a.isNone) w := fun w a n c n' c' => Lib.run_eql_slice_nil w _ _ a n c n' c' Tryz.underlying22
  go_enter Tryz.func41, Tryz.ntmps41
  go_wp2
  go_ret
  exact ⟨rfl, rfl⟩
theorem callClone41 {n : Nat} {v : Value} {cs : List Value} (w : World) (h : SlAt w 2 v n cs) (hn : n ≤ 100000) : Calls Tryz.prog 41 #[v] w fun e w' => ∃ v', e = .returned v' ∧ w'.ownsRow w.heap.size 70 2 v' n cs ∧ Below w.heap.size w w' := by
  obtain ⟨hl, h1, a, cap, rfl, ha, hc⟩ := h
  cases a with
  | none =>
    obtain ⟨rfl, rfl⟩ := ha rfl
    have hcs : cs = [] := List.eq_nil_of_length_eq_zero (by simpa using hl)
    subst hcs
    refine (walkClone41_nil 0 0 w).mono ?_
    rintro e w' ⟨rfl, rfl⟩
    exact ⟨_, rfl, World.ownsRow_nil _ _ _ _, Below.refl _ _⟩
  | some ad => exact walkClone41 ad n cap cs w hl hn (hc ad rfl) h1
set_option maxHeartbeats 2000000 in
set_option maxRecDepth 100000 in
theorem walkClone63 (ad : Addr) (n c : Nat) (news : List Value) (w : World) (hl : news.length = n * 5) (hn : n ≤ 100000) (hc : ∀ j u, news[j]? = some u → w.cell? (ad.add j) = some u) (h1 : ∀ u ∈ news, u.oneCell' = true) :
    Calls Tryz.prog 63 #[.slice (some ad) n c] w fun e w' => ∃ v', e = .returned v' ∧ w'.ownsRow w.heap.size 63 5 v' n news ∧ Below w.heap.size w w' := by
  obtain ⟨i0, z, q1, q2, q3, q4, q5⟩ := info63
  have q22 : ∀ (w : World) (a : Option Addr) (n c n' c' : Nat), (binOp .eql 29 (.slice a n c) (.slice none n' c')).run Tryz.prog w = .ok (.bool a.isNone) w := fun w a n c n' c' => Lib.run_eql_slice_nil w _ _ a n c n' c' Tryz.underlying29
  have A : Aside (∀ j u, news[j]? = some u → w.cell? (ad.add j) = some u) := hc
  clear hc
  go_enter Tryz.func63, Tryz.ntmps63
  go_wp2_with (at_builtin; refine wpList_append_own _ rfl _ _ 29 rfl w.heap.size 63 i0 z 5 64 Tryz.underlying29 q1 q2 q3 q4 q5 (by omega) _ _ _ rfl (World.ownsRow_made w #[] 0 (Nat.le_refl _) (Nat.zero_le _) (by simp)) ad n c news rfl ?qc1 ?qc2 ?qc3 ?qc4 ?qc5 ?qc6 ?_)
  case qc1 => exact hl
  case qc2 =>
    intro j u hj
    exact Lib.cell?_alloc_some _ (A.out j u hj)
  case qc3 => exact h1
  case qc4 => unfold maxLen; omega
  case qc5 => omega
  case qc6 => simp
  intro v' w1 hown hgrow hnil
  go_wp2
  go_ret
  refine ⟨v', rfl, by simpa using hown, ?_⟩
  exact ((Below.refl _ w).alloc (Nat.le_refl _) _).grown hgrow (by simp) (by intro k hk; simp [Value.ownBlock] at hk; omega)
set_option maxHeartbeats 1000000 in
theorem walkClone63_nil (n c : Nat) (w : World) : Calls Tryz.prog 63 #[.slice none n c] w fun e w' => e = .returned (.slice none 0 0) ∧ w' = w := by
  have q22 : ∀ (w : World) (a : Option Addr) (n c n' c' : Nat), (binOp .eql 29 (.slice a n c) (.slice none n' c')).run Tryz.prog w = .ok (.bool a.isNone) w := fun w a n c n' c' => Lib.run_eql_slice_nil w _ _ a n c n' c' Tryz.underlying29
  go_enter Tryz.func63, Tryz.ntmps63
  go_wp2
  go_ret
  exact ⟨rfl, rfl⟩
theorem callClone63 {n : Nat} {v : Value} {cs : List Value} (w : World) (h : SlAt w 5 v n cs) (hn : n ≤ 100000) : Calls Tryz.prog 63 #[v] w fun e w' => ∃ v', e = .returned v' ∧ w'.ownsRow w.heap.size 63 5 v' n cs ∧ Below w.heap.size w w' := by
  obtain ⟨hl, h1, a, cap, rfl, ha, hc⟩ := h
  cases a with
  | none =>
    obtain ⟨rfl, rfl⟩ := ha rfl
    have hcs : cs = [] := List.eq_nil_of_length_eq_zero (by simpa using hl)
    subst hcs
    refine (walkClone63_nil 0 0 w).mono ?_
    rintro e w' ⟨rfl, rfl⟩
    exact ⟨_, rfl, World.ownsRow_nil _ _ _ _, Below.refl _ _⟩
  | some ad => exact walkClone63 ad n cap cs w hl hn (hc ad rfl) h1
def aCells (n r : Int) (ev hv : Value) (t : Rts) (av : Value) : Array Value := #[.int .i64 n, .int .i64 r, ev, hv, .int .i64 t.1, .int .i64 t.2.1, .int .i64 t.2.2.1, .int .i64 t.2.2.2, av]
structure ArchAt (W : World) (b : Nat) (n r : Int) (ev hv : Value) (t : Rts) (h : List Fix) (av : Value) (l : List Fix) : Prop where
  blk : W.heap[b]? = some (.cells (aCells n r ev hv t av) 78 (0, 0))
  his : SlAt W 6 hv h.length (h.flatMap encX)
  hlt : h ≠ [] → ∀ k, hv.ownBlock = some k → k < b
  own : W.ownsRow (b + 1) 65 6 av l.length (l.flatMap encX)
structure ArchC (W : World) (b : Nat) (n r : Int) (ev hv : Value) (t : Rts) (av : Value) : Prop where
  c0 : W.cell? ⟨b, 0, none⟩ = some (.int .i64 n)
  c1 : W.cell? ⟨b, 1, none⟩ = some (.int .i64 r)
  c2 : W.cell? ⟨b, 2, none⟩ = some ev
  c3 : W.cell? ⟨b, 3, none⟩ = some hv
  c4 : W.cell? ⟨b, 4, none⟩ = some (.int .i64 t.1)
  c5 : W.cell? ⟨b, 5, none⟩ = some (.int .i64 t.2.1)
  c6 : W.cell? ⟨b, 6, none⟩ = some (.int .i64 t.2.2.1)
  c7 : W.cell? ⟨b, 7, none⟩ = some (.int .i64 t.2.2.2)
  c8 : W.cell? ⟨b, 8, none⟩ = some av
theorem ArchAt.c {W : World} {b : Nat} {n r : Int} {ev hv : Value} {t : Rts} {h : List Fix} {av : Value} {l : List Fix} (a : ArchAt W b n r ev hv t h av l) : ArchC W b n r ev hv t av := by
  have h1 := fun o => cell_of_row _ _ o _ _ _ a.blk
  exact ⟨h1 0, h1 1, h1 2, h1 3, h1 4, h1 5, h1 6, h1 7, h1 8⟩
set_option maxHeartbeats 2000000 in
set_option maxRecDepth 100000 in
theorem walkAll {b : Nat} {n r : Int} {ev hv : Value} {t : Rts} {h : List Fix} {av : Value} {l : List Fix} (w : World) (a : ArchAt w b n r ev hv t h av l) (hh : h.length ≤ 5000) (hl : l.length ≤ 5000) :
    Calls Tryz.prog 79 #[.pointer (some ⟨b, 0, none⟩)] w fun e w' => ∃ v', e = .returned v' ∧ w'.ownsRow w.heap.size 65 6 v' (h.length + l.length) (h.flatMap encX ++ l.flatMap encX) ∧ Below w.heap.size w w' := by
  have c3 := a.c.c3
  have c8 := a.c.c8
  have A : Aside (SlAt w 6 hv h.length (h.flatMap encX) ∧ SlAt w 6 av l.length (l.flatMap encX)) := ⟨a.his, SlAt.of_own a.own (encXs_one l)⟩
  have HC : Aside (∀ w1 : World, ∀ b cap, Below w.heap.size w w1 → w1.cell? ⟨b, 0, none⟩ = some hv → w1.cell? ⟨b, 1, none⟩ = some av → Calls Tryz.prog 98 #[.slice (some ⟨b, 0, none⟩) 2 cap] w1 fun e w' => ∃ v', e = .returned v' ∧ w'.ownsRow w1.heap.size 65 6 v' (h.length + l.length) (h.flatMap encX ++ l.flatMap encX) ∧ Below w1.heap.size w1 w') :=
    fun w1 b cap hb k0 k1 => walkConcat b cap h.length l.length hv av _ _ w1 hh hl (A.out.1.below hb) (A.out.2.below hb) k0 k1
  clear a
  obtain ⟨⟨-, -, x1, y1, e1, -, -⟩, ⟨-, -, x2, y2, e2, -, -⟩⟩ := A.out
  clear A
  subst e1
  subst e2
  go_enter Tryz.func79, Tryz.ntmps79
  go_wp2
  go_still_tail 9, (by kernel_rfl)
  have B1 : Below w.heap.size w w.drew := ⟨rfl, rfl, rfl, Nat.le_refl _, fun _ _ => rfl⟩
  change wpList _ _ _ _ _ w.drew
  generalize w.drew = w2 at *
  go_wp2_with (go_at_call 98; refine (HC.out _ _ _ (B1.alloc B1.size _) ?_ ?_).mono ?_; (exact cell_of_row _ _ 0 _ _ _ (heap_alloc_new w2 _)); (exact cell_of_row _ _ 1 _ _ _ (heap_alloc_new w2 _)); rintro e w1 ⟨v1, rfl, ho, hb⟩)
  go_ret
  refine ⟨_, rfl, ⟨ho.1, ?_⟩, below_tr (B1.alloc B1.size _) (Nat.le_trans B1.size (by simp)) hb⟩
  rcases ho.2 with h | ⟨g, cap, cur, h1, h2, h3⟩
  · exact .inl h
  · exact .inr ⟨g, cap, cur, h1, Nat.le_trans (Nat.le_trans B1.size (by simp)) h2, h3⟩
end Go.Proofs.YtecjedagdpnemaaGreatDoor
