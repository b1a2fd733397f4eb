/-
  slices.DeleteFunc at the subfields of a field, walked: what is kept stands ahead, in its order. No condition beyond what each line says.
-/
import Derived.Test.YtggdnnjabdcgjaaGreatDoorH
namespace Go.Proofs.YtggdnnjabdcgjaaGreatDoor.S
open Go Go.Nu Go.RowKit Go.Sort Go.Lib
set_option linter.unusedVariables false

theorem setCells_heap (b : Nat) : ∀ (vs : List Value) (o : Nat) (w : World), (∀ k, k ≠ b → (w.setCells b o vs).heap[k]? = w.heap[k]?) ∧ (w.setCells b o vs).heap.size = w.heap.size ∧ (w.setCells b o vs).os = w.os ∧ (w.setCells b o vs).tape = w.tape ∧ (w.setCells b o vs).output = w.output
  | [], _, _ => ⟨fun _ _ => rfl, rfl, rfl, rfl, rfl⟩
  | v :: r, o, w => by
    obtain ⟨h1, h2, h3, h4, h5⟩ := setCells_heap b r (o + 1) (w.setCell ⟨b, o, none⟩ v)
    refine ⟨fun k hk => (h1 k hk).trans (Below.heap_setCell _ _ _ _ (fun e => hk (by simp [e]))), h2.trans (by simp [World.setCell]), h3, h4, h5⟩
theorem belowX_setCells {g o : Nat} {vs : List Value} {w w' : World} (h : BelowX (· = g) w w') : BelowX (· = g) w (w'.setCells g o vs) := by
  obtain ⟨h1, h2, h3, h4, h5⟩ := setCells_heap g vs o w'
  exact ⟨h3.trans h.os, h4.trans h.tape, h5.trans h.output, by rw [h2]; exact h.size, fun k hk hx => (h1 k hx).trans (h.block k hk hx)⟩
theorem holds_setCells {w : World} {g s : Nat} {F : Array Value} {vs : List Value} (h : Holds id w g 0 F) (hs : s + vs.length ≤ F.size) : Holds id (w.setCells g (0 + s) vs) g 0 (setMany F s vs) := by
  intro j hj
  rw [size_setMany] at hj
  have hsome : ∀ c, c < vs.length → (w.cell? ⟨g, 0 + s + c, none⟩).isSome = true := fun c hc => by rw [Nat.add_assoc, (h (s + c) (by omega)).1]; rfl
  refine ⟨?_, by rw [World.frozen?_setCells]; exact (h j hj).2⟩
  rw [get_setMany _ _ _ _ hj]
  by_cases c : s ≤ j ∧ j < s + vs.length
  · rw [if_pos c]
    obtain ⟨u, rfl⟩ : ∃ u, j = s + u := ⟨j - s, by omega⟩
    have := World.cell?_setCells_in g vs (0 + s) w hsome u (by omega)
    rw [← Nat.add_assoc, this]
    rw [show s + u - s = u by omega, getElem!_pos vs u (by omega)]
    rfl
  · rw [if_neg c, World.cell?_setCells_out g vs (0 + s) w _ (fun _ _ => by show 0 + j < _ ∨ _ ≤ 0 + j; omega)]
    exact (h j hj).1
theorem setMany_one (d : Array Sub) (i : Nat) (s : Sub) (hi : i < d.size) : setMany (flatK encS 2 d) (i * 2) (encS s) = flatK encS 2 (d.setIfInBounds i s) := by
  refine ext_get! (by simp) fun t ht => ?_
  have ht' : t < d.size * 2 := by simpa using ht
  rw [get_setMany _ _ _ t (by simpa using ht'), get_flatK _ _ _ t ht', get_flatK _ _ _ t (by simpa using ht'), encS_len]
  have m : ∀ q, t / 2 = q → t - q * 2 = t % 2 := fun q h => by subst h; rw [Nat.mod_eq_sub_div_mul]
  by_cases a : t / 2 = i
  · rw [if_pos ((blk_iff 2 i t (by omega)).2 a), m i a, a, getElem!_set_same _ _ _ hi]
  · rw [if_neg (fun h => a ((blk_iff 2 i t (by omega)).1 h)), getElem!_set_other _ _ _ _ a]

theorem cell_below {g cb : Nat} {w w' : World} {v : Value} (h : w.cell? ⟨cb, 0, none⟩ = some v) (hb : BelowX (· = g) w w') (hne : cb ≠ g) : w'.cell? ⟨cb, 0, none⟩ = some v := by
  have hlt : cb < w.heap.size := by
    rcases Nat.lt_or_ge cb w.heap.size with h' | h'
    · exact h'
    · unfold World.cell? at h
      rw [Array.getElem?_eq_none h'] at h
      cases h
  rw [← h]
  simp [World.cell?, hb.block cb hlt hne]

theorem zero46 : ∀ w, (zeroValue 46).run Tryz.prog w = .ok (.agg #[.int .u8 0, .string ⟨#[]⟩]) w := Tryz.zeroValue46
theorem run_clear46 (w : World) (ty : TypeId) (g o n c : Nat) (hc : ∀ j, j < n * 2 → (w.cell? ⟨g, o + j, none⟩).isSome = true) (hf : ∀ j, j < n * 2 → w.frozen? ⟨g, o + j, none⟩ = false) :
    ∃ vs : List Value, vs.length = n * 2 ∧ (Builtin.clear_ #[22] ty #[.slice (some ⟨g, o, none⟩) n c]).run Tryz.prog w = .ok (.tuple #[]) (w.setCells g o vs) := by
  by_cases h0 : n = 0
  · subst h0
    exact ⟨[], rfl, by simp [Builtin.clear_, run_underlying Tryz.underlying22, World.setCells]⟩
  · obtain ⟨m, rfl⟩ : ∃ m, n = m + 1 := ⟨n - 1, by omega⟩
    have hl : (Builtin.zeroCells #[.int .u8 0, .string ⟨#[]⟩] (m + 1)).toList.length = (m + 1) * 2 := by simp [Builtin.zeroCells]
    have hst := run_storeCells_cells (P := Tryz.prog) g o (Builtin.zeroCells #[.int .u8 0, .string ⟨#[]⟩] (m + 1)).toList 0 w (by rw [hl]; simpa using hc) (by rw [hl]; simpa using hf) (by
      intro v hv
      simp only [Builtin.zeroCells, Array.toList_map, List.mem_map] at hv
      obtain ⟨i, _, rfl⟩ := hv
      have : i % 2 = 0 ∨ i % 2 = 1 := by omega
      rcases this with e | e <;> simp [e, Value.oneCell'])
    simp only [Nat.add_zero] at hst
    refine ⟨_, hl, ?_⟩
    simp [Builtin.clear_, run_underlying Tryz.underlying22, zero46, Value.cells, hst]
end Go.Proofs.YtggdnnjabdcgjaaGreatDoor.S
