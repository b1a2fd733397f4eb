/-
  field.Set, walked: where a subfield is turned, and where one is appended. No condition beyond what each line says.
-/
import Derived.Test.YtggdnnjabdcgjaaGreatDoorH5
namespace Go.Proofs.YtggdnnjabdcgjaaGreatDoor.S
open Go Go.Nu Go.RowKit Go.Sort Go.Lib
set_option linter.unusedVariables false

theorem below_end4 {w w2 : World} {a1 a2 a3 a4 : Value} (h : Below w.heap.size w w2) :
    Below w.heap.size w ((((w2.setCell ⟨w.heap.size + 2, 0, none⟩ a1).setCell ⟨w.heap.size + 2, 1, none⟩ a2).setCell ⟨w.heap.size + 2, 2, none⟩ a3).setCell ⟨w.heap.size + 2, 3, none⟩ a4) :=
  below_set (below_set (below_set (below_set h (by omega)) (by omega)) (by omega)) (by omega)
theorem rowH_end4 {w w2 : World} {l : List Sub} {v a1 a2 a3 a4 : Value} (h : RowH (w.heap.size + 3) w2 l v) :
    RowH w.heap.size ((((w2.setCell ⟨w.heap.size + 2, 0, none⟩ a1).setCell ⟨w.heap.size + 2, 1, none⟩ a2).setCell ⟨w.heap.size + 2, 2, none⟩ a3).setCell ⟨w.heap.size + 2, 3, none⟩ a4) l v :=
  rowH_le (rowH_set (rowH_set (rowH_set (rowH_set h (by omega)) (by omega)) (by omega)) (by omega)) (by omega)
theorem end_heap4 {n : Nat} {a b s d c a1 a2 a3 a4 : Value} {w2 : World} (h : SetAt n a b s d c w2) :
    ((((w2.setCell ⟨n + 2, 0, none⟩ a1).setCell ⟨n + 2, 1, none⟩ a2).setCell ⟨n + 2, 2, none⟩ a3).setCell ⟨n + 2, 3, none⟩ a4).heap[n + 2]? = some (.cells #[a1, a2, a3, a4] 24 (0, 0)) := by
  simp [World.setCell, Array.getElem?_modify, h.e6]
theorem res4 {tmps : Array Value} {n : Nat} {a b s d c a1 a2 a3 a4 : Value} {w2 : World} (hp : tmps.getD 6 undef = .pointer (some ⟨n + 2, 0, none⟩)) (h : SetAt n a b s d c w2) :
    (results Tryz.f20 tmps).run Tryz.prog ((((w2.setCell ⟨n + 2, 0, none⟩ a1).setCell ⟨n + 2, 1, none⟩ a2).setCell ⟨n + 2, 2, none⟩ a3).setCell ⟨n + 2, 3, none⟩ a4) =
      .ok (.agg #[a1, a2, a3, a4]) ((((w2.setCell ⟨n + 2, 0, none⟩ a1).setCell ⟨n + 2, 1, none⟩ a2).setCell ⟨n + 2, 2, none⟩ a3).setCell ⟨n + 2, 3, none⟩ a4) :=
  results_cell_row (fn := Tryz.f20) (p := 6) (ty := 24) rfl tmps _ (n + 2) 24 #[a1, a2, a3, a4] (0, 0) _ hp (end_heap4 h) Tryz.underlying24 rfl (by kernel_rfl)

theorem own_pos {w : World} {B e n : Nat} {v : Value} {xs : List Value} (h : w.ownsRow B e 2 v n xs) (hn : 0 < n) : ∃ g cap cur, v = .slice (some ⟨g, 0, none⟩) n cap ∧ B ≤ g ∧ w.heap[g]? = some (.cells cur e (0, 0)) ∧ n ≤ cap ∧ cap ≤ maxLen ∧ cur.size = cap * 2 ∧ cur.toList.take (n * 2) = xs := by
  rcases h.2 with ⟨_, h0⟩ | h
  · omega
  · exact h
theorem setS_at (c : UInt8) (v : List UInt8) : ∀ (l : List Sub) (i k : Nat), idxS c l i = ((i + k : Nat) : Int) → k < l.length ∧ setS c v l = l.set k ((l.getD k (0, [])).1, v)
  | [], i, k, h => by simp only [idxS] at h; omega
  | s :: l, i, k, h => by
    unfold idxS at h
    unfold setS
    by_cases hs : s.1 = c
    · rw [if_pos hs] at h ⊢
      obtain rfl : k = 0 := by omega
      exact ⟨by simp, rfl⟩
    · rw [if_neg hs] at h ⊢
      have hk : k ≠ 0 := by
        rintro rfl
        rcases idxS_spec c l (i + 1) with ⟨e, _⟩ | ⟨q, _, e, _⟩
        · have e' : idxS c l ((i : Int) + 1) = -1 := by rw [← e]; norm_cast
          omega
        · have e' : idxS c l ((i : Int) + 1) = ((i + 1 + q : Nat) : Int) := by rw [← e]; norm_cast
          omega
      obtain ⟨m, rfl⟩ : ∃ m, k = m + 1 := ⟨k - 1, by omega⟩
      obtain ⟨h1, h2⟩ := setS_at c v l (i + 1) m (by rw [show ((i + 1 : Nat) : Int) = (i : Int) + 1 by norm_cast, h]; congr 1; omega)
      exact ⟨by simpa using h1, by rw [h2]; rfl⟩
theorem setS_none (c : UInt8) (v : List UInt8) : ∀ (l : List Sub) (i : Nat), idxS c l i = -1 → setS c v l = l ++ [(c, v)]
  | [], i, h => rfl
  | s :: l, i, h => by
    unfold idxS at h
    unfold setS
    by_cases hs : s.1 = c
    · rw [if_pos hs] at h; omega
    · rw [if_neg hs] at h ⊢
      rw [setS_none c v l (i + 1) (by rw [← h]; norm_cast)]
      rfl
theorem flat_set (l : List Sub) (k : Nat) (s : Sub) (j : Nat) (u : Value) (hk : k < l.length) (hs : s.1 = (l.getD k (0, [])).1) (h : ((l.set k s).flatMap encS)[j]? = some u) :
    (j = k * 2 + 1 ∧ u = .string ⟨s.2.toArray⟩) ∨ (j ≠ k * 2 + 1 ∧ (l.flatMap encS)[j]? = some u) := by
  rw [flat_get] at h
  by_cases hj : j / 2 = k
  · rw [hj, List.getElem?_set_self hk, Option.bind_some] at h
    have : j % 2 = 0 ∨ j % 2 = 1 := by omega
    rcases this with e | e
    · rw [e] at h
      refine .inr ⟨by omega, ?_⟩
      rw [flat_get, hj, e, List.getElem?_eq_getElem hk, Option.bind_some, ← h]
      rw [List.getD_eq_getElem?_getD, List.getElem?_eq_getElem hk] at hs
      simp only [encS, List.getElem?_cons_zero, hs, Option.getD_some]
    · rw [e] at h
      refine .inl ⟨by omega, ?_⟩
      simpa [encS] using h.symm
  · rw [List.getElem?_set_ne (Ne.symm hj)] at h
    exact .inr ⟨by omega, by rw [flat_get]; exact h⟩

structure GAt (g k : Nat) (l : List Sub) (cap : Nat) (W : World) : Prop where
  o : ∃ v, W.cell? ⟨g, k * 2 + 1, none⟩ = some v
  f : W.frozen? ⟨g, k * 2 + 1, none⟩ = false
theorem gAt {w : World} {g k n cap : Nat} {cur : Array Value} {l : List Sub} (h : w.heap[g]? = some (.cells cur 46 (0, 0))) (hn : k < n) (hc : n ≤ cap) (hs : cur.size = cap * 2) : GAt g k l cap w := by
  refine ⟨⟨cur[k * 2 + 1]'(by omega), ?_⟩, by simp [World.frozen?, h]⟩
  rw [cell_of_row _ _ _ _ _ _ h, Array.getElem?_eq_getElem]
theorem rowSet {w : World} {B g k cap : Nat} {l : List Sub} {s : Sub} (h : RowH B w l (.slice (some ⟨g, 0, none⟩) l.length cap)) (hk : k < l.length) (hs : s.1 = (l.getD k (0, [])).1) :
    RowH B (w.setCell ⟨g, k * 2 + 1, none⟩ (.string ⟨s.2.toArray⟩)) (l.set k s) (.slice (some ⟨g, 0, none⟩) l.length cap) := by
  rcases h with ⟨rfl, _⟩ | ⟨g', cap', h1, h2, h3, h4, h5, h6⟩
  · simp at hk
  · cases h1
    refine .inr ⟨g, cap, by rw [List.length_set], h2, by simpa [World.setCell] using h3, by rw [List.length_set]; exact h4, h5, fun j u hu => ?_⟩
    rcases flat_set l k s j u hk hs hu with ⟨rfl, rfl⟩ | ⟨hj, hu⟩
    · rw [Nat.zero_add]
      have hl : k * 2 + 1 < (l.flatMap encS).length := by rw [flat_len]; omega
      have := h6 (k * 2 + 1) _ (List.getElem?_eq_getElem hl)
      rw [Nat.zero_add] at this
      exact World.cell?_setCell_same _ _ _ this
    · rw [World.cell?_setCell_other _ _ _ _ (by simp only [ne_eq, Addr.mk.injEq, true_and, and_true]; omega)]
      exact h6 j u hu
theorem midAt {w w1 w2 : World} {a b s d c : Value} {g k cap : Nat} {l : List Sub} (h1 : SetAt w.heap.size a b s d c w1) (h2 : w1.ownsRow (w.heap.size + 3) 46 2 (.slice (some ⟨g, 0, none⟩) l.length cap) l.length (l.flatMap encS)) (h3 : Below w.heap.size w w1)
    (h4 : GAt g k l cap w1) (h5 : w.heap.size + 3 ≤ g) (h6 : g < w1.heap.size) {s' : Value} (hb : Below (w1.setCell ⟨w.heap.size, 2, none⟩ s').heap.size (w1.setCell ⟨w.heap.size, 2, none⟩ s') w2) :
    SetAt w.heap.size a b s' d c w2 ∧ Below w.heap.size w w2 ∧ RowH (w.heap.size + 3) w2 l (.slice (some ⟨g, 0, none⟩) l.length cap) ∧ GAt g k l cap w2 := by
  have hs : (w1.setCell ⟨w.heap.size, 2, none⟩ s').heap.size = w1.heap.size := by simp [World.setCell]
  have hge := (Array.getElem?_eq_some_iff.1 h1.e6).1
  rw [hs] at hb
  have hbl : ∀ j, j < w1.heap.size → j ≠ w.heap.size → w2.heap[j]? = w1.heap[j]? := fun j hj hn => (hb.block j hj).trans (Below.heap_setCell _ _ _ _ (by simp; omega))
  refine ⟨h1.set.kept fun j hj => hb.block j (by omega), ?_, ?_, ?_⟩
  · have := below_set (s := s') (o := 2) h3 (Nat.le_refl w.heap.size)
    exact this.trans ⟨hb.os, hb.tape, hb.output, hb.size, fun j hj => hb.block j (by have := h3.size; omega)⟩
  · exact (rowH_of h2).kept (Nat.le_trans (by rw [← hs]; exact Nat.le_refl _) hb.size) fun j h7 h8 => hbl j h8 (by omega)
  · obtain ⟨⟨v, hv⟩, hf⟩ := h4
    have e := hbl g h6 (by omega)
    exact ⟨⟨v, by rw [← hv]; simp [World.cell?, e]⟩, by rw [← hf]; simp [World.frozen?, e]⟩
theorem own_kept {w w' : World} {B n : Nat} {v : Value} {xs : List Value} (h : w.ownsRow B 46 2 v n xs) (hb : ∀ k, B ≤ k → k < w.heap.size → w'.heap[k]? = w.heap[k]?) : w'.ownsRow B 46 2 v n xs := by
  refine ⟨h.1, ?_⟩
  rcases h.2 with h | ⟨g, cap, cur, rfl, h1, h2, h3⟩
  · exact .inl h
  · exact .inr ⟨g, cap, cur, rfl, h1, by rw [hb g h1 (Array.getElem?_eq_some_iff.1 h2).1]; exact h2, h3⟩
theorem midOwn {w w1 w2 : World} {a b s d c v : Value} {n : Nat} {xs : List Value} (h1 : SetAt w.heap.size a b s d c w1) (h2 : w1.ownsRow (w.heap.size + 3) 46 2 v n xs) (h3 : Below w.heap.size w w1)
    {s' : Value} (hb : Below (w1.setCell ⟨w.heap.size, 2, none⟩ s').heap.size (w1.setCell ⟨w.heap.size, 2, none⟩ s') w2) :
    SetAt w.heap.size a b s' d c w2 ∧ Below w.heap.size w w2 ∧ w2.ownsRow (w.heap.size + 3) 46 2 v n xs := by
  have hs : (w1.setCell ⟨w.heap.size, 2, none⟩ s').heap.size = w1.heap.size := by simp [World.setCell]
  have hge := (Array.getElem?_eq_some_iff.1 h1.e6).1
  rw [hs] at hb
  have hbl : ∀ j, j < w1.heap.size → j ≠ w.heap.size → w2.heap[j]? = w1.heap[j]? := fun j hj hn => (hb.block j hj).trans (Below.heap_setCell _ _ _ _ (by simp; omega))
  refine ⟨h1.set.kept fun j hj => hb.block j (by omega), ?_, own_kept h2 fun j h7 h8 => hbl j h8 (by omega)⟩
  have := below_set (s := s') (o := 2) h3 (Nat.le_refl w.heap.size)
  exact this.trans ⟨hb.os, hb.tape, hb.output, hb.size, fun j hj => hb.block j (by have := h3.size; omega)⟩
theorem own_alloc {w : World} {B n : Nat} {v : Value} {xs : List Value} (o : Obj) (h : w.ownsRow B 46 2 v n xs) : (w.alloc o).ownsRow B 46 2 v n xs :=
  own_kept h fun k _ hk => ((Below.refl _ w).alloc (Nat.le_refl _) o).block k hk
theorem newCells (w : World) (a b : Value) : ∀ j u, [a, b][j]? = some u → (w.alloc (.cells #[a, b] 46)).cell? ((⟨w.heap.size, 0, none⟩ : Addr).add j) = some u := by
  intro j u hu
  rw [Nu.addr_add, cell_of_row _ _ _ _ _ _ (heap_alloc_new w _), Nat.zero_add]
  match j, hu with
  | 0, hu => exact hu
  | 1, hu => exact hu
theorem endOwn {w w2 w3 : World} {a b s d c : Value} {l : List Sub} {sv v3 : Value} {o : Obj} {u : Sub} (h1 : SetAt w.heap.size a b s d c w2) (h2 : Below w.heap.size w w2) (h3 : w2.ownsRow (w.heap.size + 3) 46 2 sv l.length (l.flatMap encS))
    (hg : (w2.alloc o).grownBy w3 sv.ownBlock) (h4 : w3.ownsRow (w.heap.size + 3) 46 2 v3 (l.length + 1) (l.flatMap encS ++ encS u)) :
    SetAt w.heap.size a b s d c w3 ∧ Below w.heap.size w w3 ∧ RowH (w.heap.size + 3) w3 (l ++ [u]) v3 := by
  have hge := (Array.getElem?_eq_some_iff.1 h1.e6).1
  have hbl : ∀ j, j < w.heap.size + 3 → w3.heap[j]? = w2.heap[j]? := fun j hj =>
    (hg.block j (by simp; omega) (fun e => by have := (h3.lt j e.symm).1; omega)).trans (((Below.refl _ w2).alloc (Nat.le_refl _) o).block j (by omega))
  have hsz := hg.size
  refine ⟨h1.kept hbl, ⟨hg.os.trans h2.os, hg.tape.trans h2.tape, hg.output.trans h2.output, ?_, fun j hj => (hbl j (by omega)).trans (h2.block j hj)⟩, ?_⟩
  · have := h2.size
    simp at hsz
    omega
  · refine rowH_of ?_
    rw [List.length_append, List.length_singleton, List.flatMap_append]
    simpa using h4
end Go.Proofs.YtggdnnjabdcgjaaGreatDoor.S
