/-
  slices.Grow, slices.Concat, slices.Clone, walked: what they return, in whatever world. No condition beyond what each line says.
-/
import Derived.Test.YtecjedagdpnemaaGreatDoorG
import Derived.WalkKit
import Derived.Deep.LoopGhost
import Derived.Laws.AppendOwnNone
import Derived.Lib.AppendZeros
namespace Go.Proofs.YtecjedagdpnemaaGreatDoor
open Go Go.Nu Go.RowKit Go.Sort
set_option linter.unusedVariables false
theorem below_tr {n : Nat} {w w1 w2 : World} (h : Below n w w1) (hn : n ≤ w1.heap.size) (hb : Below w1.heap.size w1 w2) : Below n w w2 :=
  ⟨hb.os.trans h.os, hb.tape.trans h.tape, hb.output.trans h.output, Nat.le_trans h.size hb.size, fun j hj => (hb.block j (Nat.lt_of_lt_of_le hj hn)).trans (h.block j hj)⟩
theorem grown_of_below {w w' : World} (h : Below w.heap.size w w') (row : Option Nat) : w.grownBy w' row := ⟨h.os, h.tape, h.output, h.size, fun k hk _ => h.block k hk⟩
def encX (x : Fix) : List Value := [.int .i64 x.1, .int .i64 x.2.1, .int .i64 x.2.2.1, .string ⟨x.2.2.2.1.toArray⟩, .string ⟨x.2.2.2.2.1.toArray⟩, .bool x.2.2.2.2.2]
theorem encX_len (x : Fix) : (encX x).length = 6 := rfl
theorem encX_one (x : Fix) : ∀ v ∈ encX x, v.oneCell' = true := by
  intro v hv
  simp only [encX, List.mem_cons, List.not_mem_nil, or_false] at hv
  rcases hv with rfl | rfl | rfl | rfl | rfl | rfl <;> rfl
theorem encXs_len (l : List Fix) : (l.flatMap encX).length = l.length * 6 := by
  induction l with
  | nil => rfl
  | cons x l ih => rw [List.flatMap_cons, List.length_append, ih, encX_len, List.length_cons]; omega
theorem encXs_one (l : List Fix) : ∀ u ∈ l.flatMap encX, u.oneCell' = true := by
  intro u hu
  obtain ⟨s, _, hs⟩ := List.mem_flatMap.1 hu
  exact encX_one s u hs
structure SlAt (w : World) (k : Nat) (v : Value) (n : Nat) (cs : List Value) : Prop where
  len : cs.length = n * k
  one : ∀ u ∈ cs, u.oneCell' = true
  val : ∃ a cap, v = .slice a n cap ∧ (a = none → n = 0 ∧ cap = 0) ∧ (∀ ad, a = some ad → ∀ j u, cs[j]? = some u → w.cell? (ad.add j) = some u)
theorem SlAt.nil (w : World) (k : Nat) : SlAt w k (.slice none 0 0) 0 [] := ⟨by simp, (fun u hu => by cases hu), ⟨none, 0, rfl, fun _ => ⟨rfl, rfl⟩, (fun ad h => by cases h)⟩⟩
theorem SlAt.of_own {w : World} {B e k n : Nat} {v : Value} {cs : List Value} (h : w.ownsRow B e k v n cs) (h1 : ∀ u ∈ cs, u.oneCell' = true) : SlAt w k v n cs := by
  refine ⟨h.1, h1, ?_⟩
  rcases h.2 with ⟨rfl, rfl⟩ | ⟨g, cap, cur, rfl, hg, hh, hc, hm, hs, ht⟩
  · exact ⟨none, 0, rfl, fun _ => ⟨rfl, rfl⟩, (fun ad h => by cases h)⟩
  · refine ⟨some ⟨g, 0, none⟩, cap, rfl, (fun h => by cases h), fun ad ha j u hu => ?_⟩
    cases ha
    have h' : w.ownsRow B e k (.slice (some ⟨g, 0, none⟩) n cap) n cs := ⟨h.1, .inr ⟨g, cap, cur, rfl, hg, hh, hc, hm, hs, ht⟩⟩
    exact h'.cells (g := g) rfl j u hu
theorem info65 : ∃ i0 z, Tryz.prog.info? 65 = some i0 ∧ i0.zero = some z ∧ i0.size = 6 ∧ i0.bytes = 64 ∧ z.cells.size = 6 := by
  have h : ((Tryz.prog.info? 65).bind fun i => i.zero.map fun z => (i.size, i.bytes, z.cells.size)) = some (6, 64, 6) := by kernel_rfl
  cases hi : Tryz.prog.info? 65 with
  | none => rw [hi] at h; cases h
  | some i0 =>
    rw [hi] at h
    replace h : (i0.zero.map fun z => (i0.size, i0.bytes, z.cells.size)) = some (6, 64, 6) := h
    cases hz : i0.zero with
    | none => rw [hz] at h; cases h
    | some z =>
      rw [hz] at h
      replace h : some (i0.size, i0.bytes, z.cells.size) = some (6, 64, 6) := h
      injection h with h
      injection h with h1 h2
      injection h2 with h2 h3
      exact ⟨i0, z, rfl, hz, h1, h2, h3⟩
theorem walkGrow0 (w : World) : Calls Tryz.prog 119 #[.slice none 0 0, .int .i64 0] w fun e w' => ∃ v', e = .returned v' ∧ w'.ownsRow w.heap.size 65 6 v' 0 [] ∧ Below w.heap.size w w' := by
  go_enter Tryz.func119, Tryz.ntmps119
  go_wp2
  go_ret
  exact ⟨_, rfl, World.ownsRow_nil _ _ _ _, Below.refl _ _⟩
set_option maxHeartbeats 1000000 in
set_option maxRecDepth 100000 in
theorem walkGrow1 (n : Nat) (h0 : 0 < n) (hn : n ≤ 10000) (w : World) : Calls Tryz.prog 119 #[.slice none 0 0, .int .i64 n] w fun e w' => ∃ v', e = .returned v' ∧ w'.ownsRow w.heap.size 65 6 v' 0 [] ∧ Below w.heap.size w w' := by
  obtain ⟨i0, z, q1, q2, q3, q4, q5⟩ := info65
  have hr := Lib.run_append_nil_zeros (P := Tryz.prog) w 30 3 30 65 i0 z .i64 .i64 Tryz.underlying30 Tryz.underlying3 q1 q2 n h0 (by omega) (by omega) (by rw [q4]; omega)
  have hge := grownCap_ge w n 0 65
  have hcm : grownCap w n 0 65 ≤ maxLen := grownCap_le_maxLen w n 0 65 (by unfold maxLen; omega)
  have hz1 : ¬ ((n : Int) < 0) := by omega
  have hz2 : (0 : Int) < (n : Int) := by omega
  have hsz : (Builtin.zeroCells z.cells n ++ Builtin.zeroCells z.cells (grownCap w n 0 65 - n)).size = grownCap w n 0 65 * 6 := by
    rw [Array.size_append, size_zeroCells, size_zeroCells, q5, ← Nat.add_mul]; congr 1; omega
  generalize Builtin.zeroCells z.cells n ++ Builtin.zeroCells z.cells (grownCap w n 0 65 - n) = cur at hr hsz
  generalize grownCap w n 0 65 = cap at hr hge hcm hsz
  go_enter Tryz.func119, Tryz.ntmps119
  go_wp2_with (at_builtin; refine Lib.wpList_append_run _ rfl _ _ _ _ rfl _ _ rfl rfl _ _ hr ?_)
  go_ret
  refine ⟨_, rfl, ⟨by simp, .inr ⟨w.heap.size, cap, cur, rfl, Nat.le_refl _, heap_alloc_new w.drew _, Nat.zero_le _, hcm, hsz, by simp⟩⟩, ?_⟩
  exact ⟨rfl, rfl, rfl, by simp, fun k hk => heap_alloc_old w.drew _ (show k < w.drew.heap.size from hk)⟩
theorem callGrow (n : Nat) (hn : n ≤ 10000) (w : World) : Calls Tryz.prog 119 #[.slice none 0 0, .int .i64 n] w fun e w' => ∃ v', e = .returned v' ∧ w'.ownsRow w.heap.size 65 6 v' 0 [] ∧ Below w.heap.size w w' := by
  rcases Nat.eq_zero_or_pos n with rfl | h
  · exact walkGrow0 w
  · exact walkGrow1 n h hn w
theorem app_sl (v : Value) (n : Nat) (xs : List Value) (w : World) (B : Nat) (hB : B ≤ w.heap.size) (hown : w.ownsRow B 65 6 v n xs) (x : Value) (m : Nat) (cs : List Value) (hx : SlAt w 6 x m cs) (hn : n + m ≤ 20000) :
    ∃ v' w', (Builtin.append_ #[30, 30] 30 #[v, x]).run Tryz.prog w = .ok v' w' ∧ w'.ownsRow B 65 6 v' (n + m) (xs ++ cs) ∧ w.grownBy w' v.ownBlock := by
  obtain ⟨i0, z, q1, q2, q3, q4, q5⟩ := info65
  obtain ⟨hl, h1, a, cap, rfl, ha, hc⟩ := hx
  cases a with
  | none =>
    obtain ⟨rfl, rfl⟩ := ha rfl
    have hcs : cs = [] := List.eq_nil_of_length_eq_zero (by simpa using hl)
    subst hcs
    refine ⟨v, w, run_append_owned_none (P := Tryz.prog) (w := w) B 30 30 65 i0 6 Tryz.underlying30 q1 v n xs hown, by simpa using hown, ⟨rfl, rfl, rfl, Nat.le_refl _, fun _ _ _ => rfl⟩⟩
  | some ad =>
    obtain ⟨v', w', hr, h2, h3, _⟩ := run_append_own (P := Tryz.prog) w B 30 30 65 i0 z 6 64 Tryz.underlying30 q1 q2 q3 q4 q5 (by omega) v n xs hown ad m cap cs hl (hc ad rfl) h1 (by unfold maxLen; omega) (by omega) hB
    exact ⟨v', w', hr, h2, h3⟩
theorem SlAt.kept {w w' : World} {k n : Nat} {v : Value} {cs : List Value} (h : SlAt w k v n cs) (hb : ∀ p u, w.cell? p = some u → (∀ b, v.ownBlock = some b → p.block = b) → w'.cell? p = some u) : SlAt w' k v n cs := by
  obtain ⟨hl, h1, a, cap, rfl, ha, hc⟩ := h
  refine ⟨hl, h1, a, cap, rfl, ha, fun ad e j u hu => ?_⟩
  cases e
  refine hb _ _ (hc ad rfl j u hu) fun b hb => ?_
  cases hb
  unfold Addr.add
  split <;> rfl
theorem SlAt.below {w w' : World} {k n : Nat} {v : Value} {cs : List Value} (h : SlAt w k v n cs) (hb : Below w.heap.size w w') : SlAt w' k v n cs :=
  h.kept fun p u hp _ => (hb.cell (World.block_lt_of_cell? w p hp)).trans hp
set_option maxHeartbeats 2000000 in
set_option maxRecDepth 100000 in
theorem walkConcat (b cap n m : Nat) (h a : Value) (hs us : List Value) (w : World) (hn : n ≤ 5000) (hm : m ≤ 5000) (hh : SlAt w 6 h n hs) (ha : SlAt w 6 a m us)
    (c0 : w.cell? ⟨b, 0, none⟩ = some h) (c1 : w.cell? ⟨b, 1, none⟩ = some a) :
    Calls Tryz.prog 98 #[.slice (some ⟨b, 0, none⟩) 2 cap] w fun e w' => ∃ v', e = .returned v' ∧ w'.ownsRow w.heap.size 65 6 v' (n + m) (hs ++ us) ∧ Below w.heap.size w w' := by
  have HG : Aside (∀ w, Calls Tryz.prog 119 #[.slice none 0 0, .int .i64 ((n : Int) + m)] w fun e w' => ∃ v', e = .returned v' ∧ w'.ownsRow w.heap.size 65 6 v' 0 [] ∧ Below w.heap.size w w') := fun w => by
    have := callGrow (n + m) (by omega) w
    rwa [Int.natCast_add] at this
  have HS : Aside (SlAt w 6 h n hs ∧ SlAt w 6 a m us) := ⟨hh, ha⟩
  obtain ⟨-, -, x1, y1, e1, -, -⟩ := hh
  obtain ⟨-, -, x2, y2, e2, -, -⟩ := ha
  have hz1 : ¬ ((n : Int) < 0) := by omega
  have hz2 : ¬ ((n : Int) + m < 0) := by omega
  subst e1
  subst e2
  go_enter Tryz.func98, Tryz.ntmps98
  go_wp2
  go_loopg [3, 11] 2 (fun gg s3 s11 wr => w = wr ∧ ((s3 = .int .i64 0 ∧ s11 = .int .i64 0 ∧ 2 ≤ gg) ∨ (s3 = .int .i64 n ∧ s11 = .int .i64 1 ∧ 1 ≤ gg) ∨ (s3 = .int .i64 ((n : Int) + m) ∧ s11 = .int .i64 2)))
  case atStart => exact ⟨rfl, .inl ⟨rfl, rfl, by omega⟩⟩
  case round =>
    obtain ⟨rfl, ⟨rfl, rfl, hg2⟩ | ⟨rfl, rfl, hg2⟩ | ⟨rfl, rfl⟩⟩ := hrel
    · go_wp2
      go_roundg 1
      case measure => omega
      case rel => exact ⟨rfl, .inr (.inl ⟨by go_num, rfl, by omega⟩)⟩
    · go_wp2
      go_roundg 0
      case measure => omega
      case rel => exact ⟨rfl, .inr (.inr ⟨by go_num, rfl⟩)⟩
    · go_wp2_with (go_at_call 119; refine (HG.out w).mono ?_; rintro e w1 ⟨v1, rfl, ho, hb⟩; have H1 : Aside (w1.ownsRow w.heap.size 65 6 v1 0 [] ∧ Below w.heap.size w w1) := ⟨ho, hb⟩; clear ho hb)
      go_loopg [6, 27] 2 (fun gg s6 s27 wz => ∃ (v : Value) (k : Nat) (cs : List Value), s6 = v ∧ Aside (Below w.heap.size w wz ∧ wz.ownsRow w.heap.size 65 6 v k cs) ∧ ((s27 = .int .i64 0 ∧ k = 0 ∧ cs = [] ∧ 2 ≤ gg) ∨ (s27 = .int .i64 1 ∧ k = n ∧ cs = hs ∧ 1 ≤ gg) ∨ (s27 = .int .i64 2 ∧ k = n + m ∧ cs = hs ++ us)))
      case atStart => exact ⟨_, 0, [], rfl, (show Aside _ from ⟨H1.out.2, H1.out.1⟩), .inl ⟨rfl, rfl, rfl, by omega⟩⟩
      case round =>
        obtain ⟨v, k, cs, rfl, I, ⟨rfl, rfl, rfl, hg2⟩ | ⟨rfl, rfl, rfl, hg2⟩ | ⟨rfl, rfl, rfl⟩⟩ := hrel
        · replace c0 : wr.cell? ⟨b, 0, none⟩ = some (.slice x1 n y1) := (I.out.1.cell (World.block_lt_of_cell? w _ c0)).trans c0
          obtain ⟨v2, w2, hr, ho, hg⟩ := app_sl u6 0 [] wr w.heap.size I.out.1.size I.out.2 (.slice x1 n y1) n hs (HS.out.1.below I.out.1) (by omega)
          have H2 : Aside (w2.ownsRow w.heap.size 65 6 v2 (0 + n) ([] ++ hs) ∧ Below w.heap.size w w2) := ⟨ho, I.out.1.grown hg I.out.1.size fun k hk => (I.out.2.lt k hk).1⟩
          clear ho hg
          go_wp2_with (at_builtin; refine Lib.wpList_append_run _ rfl _ _ _ _ rfl _ _ rfl rfl _ _ hr ?_)
          go_roundg 1
          case measure => omega
          case rel => exact ⟨v2, n, hs, rfl, (show Aside _ from ⟨H2.out.2, by simpa using H2.out.1⟩), .inr (.inl ⟨rfl, rfl, rfl, by omega⟩)⟩
        · replace c1 : wr.cell? ⟨b, 1, none⟩ = some (.slice x2 m y2) := (I.out.1.cell (World.block_lt_of_cell? w _ c1)).trans c1
          obtain ⟨v2, w2, hr, ho, hg⟩ := app_sl u6 k cs wr w.heap.size I.out.1.size I.out.2 (.slice x2 m y2) m us (HS.out.2.below I.out.1) (by omega)
          have H2 : Aside (w2.ownsRow w.heap.size 65 6 v2 (k + m) (cs ++ us) ∧ Below w.heap.size w w2) := ⟨ho, I.out.1.grown hg I.out.1.size fun k hk => (I.out.2.lt k hk).1⟩
          clear ho hg
          go_wp2_with (at_builtin; refine Lib.wpList_append_run _ rfl _ _ _ _ rfl _ _ rfl rfl _ _ hr ?_)
          go_roundg 0
          case measure => omega
          case rel => exact ⟨v2, k + m, cs ++ us, rfl, (show Aside _ from ⟨H2.out.2, H2.out.1⟩), .inr (.inr ⟨rfl, rfl, rfl⟩)⟩
        · go_wp2
          go_ret
          exact ⟨_, rfl, I.out.2, I.out.1⟩
end Go.Proofs.YtecjedagdpnemaaGreatDoor
