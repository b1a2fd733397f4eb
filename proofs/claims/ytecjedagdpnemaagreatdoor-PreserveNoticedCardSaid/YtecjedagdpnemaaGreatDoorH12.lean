/-
  preserve.Damage walked where it damages a byte. No condition beyond what each line says.
-/
import Derived.Test.YtecjedagdpnemaaGreatDoorH11
import Derived.Laws.IdiomStrings
namespace Go.Proofs.YtecjedagdpnemaaGreatDoor
open Go Go.Nu Go.RowKit Go.Sort
set_option linter.unusedVariables false
theorem encFs_get : ∀ (l : List File) (i k : Nat), i < l.length → k < 2 → (l.flatMap encF)[i * 2 + k]? = (encF (l.getD i ([], [])))[k]?
  | [], i, k, h, _ => by simp at h
  | x :: l, 0, k, h, hk => by
    rw [List.flatMap_cons, Nat.zero_mul, Nat.zero_add, List.getElem?_append_left (show k < (encF x).length from hk)]; rfl
  | x :: l, i + 1, k, h, hk => by
    rw [List.flatMap_cons, List.getElem?_append_right (show (encF x).length ≤ (i + 1) * 2 + k by show 2 ≤ _; omega), show (i + 1) * 2 + k - (encF x).length = i * 2 + k by show _ - 2 = _; omega, encFs_get l i k (by simpa using h) hk]
    rfl
theorem encFs_set : ∀ (l : List File) (i : Nat) (s : List UInt8), i < l.length → (l.flatMap encF).set (i * 2 + 1) (.string ⟨s.toArray⟩) = (l.set i ((l.getD i ([], [])).1, s)).flatMap encF
  | [], i, s, h => by simp at h
  | x :: l, 0, s, h => rfl
  | x :: l, i + 1, s, h => by
    rw [List.flatMap_cons, List.set_append_right _ _ (show (encF x).length ≤ (i + 1) * 2 + 1 by show 2 ≤ _; omega), show (i + 1) * 2 + 1 - (encF x).length = i * 2 + 1 by show _ - 2 = _; omega, encFs_set l i s (by simpa using h)]
    rfl
theorem file_at {S : Nat → Nat → Prop} {w : World} {l : List File} {fv : Value} (h : RepC Tryz.prog S w noOw (.sl none 70 (l.map (toV shFile))) [fv]) {i : Nat} (hi : i < l.length) :
    ∃ b o cap, fv = .slice (some ⟨b, o, none⟩) l.length cap ∧ w.cell? ⟨b, o + i * 2 + 1, none⟩ = some (.string ⟨(l.getD i ([], [])).2.toArray⟩) := by
  generalize hv : V.sl none 70 (l.map (toV shFile)) = v at h
  generalize hc : [fv] = cc at h
  cases h with
  | nilsl => cases hc; simp only [V.sl.injEq] at hv; have := List.map_eq_nil_iff.1 hv.2.2; subst this; exact absurd hi (Nat.not_lt_zero _)
  | emp => cases hc; simp only [V.sl.injEq] at hv; have := List.map_eq_nil_iff.1 hv.2.2; subst this; exact absurd hi (Nat.not_lt_zero _)
  | sl _ h1 h2 h3 h4 h5 h6 =>
    cases hc
    simp only [V.sl.injEq] at hv
    obtain ⟨-, -, rfl⟩ := hv
    have e := files_inv h1
    subst e
    rename_i b o cap
    refine ⟨b, o, cap, by rw [lenF], ?_⟩
    have := (h3 (i * 2 + 1) (.string ⟨(l.getD i ([], [])).2.toArray⟩) (by rw [encFs_get l i 1 hi (by omega)]; rfl)).2
    rwa [← Nat.add_assoc] at this
  | _ => cases hv
theorem files_step {l : List File} {i : Nat} (hi : i < l.length) : (l.flatMap encF)[i * 2 + 1]? = some (.string ⟨(l.getD i ([], [])).2.toArray⟩) := by
  rw [encFs_get l i 1 hi (by omega)]; rfl
theorem conv_bytes (w : World) (s : List UInt8) : ∃ cap C, (convert 9 96 (.string ⟨s.toArray⟩)).run Tryz.prog w = .ok (.slice (some ⟨w.heap.size, 0, none⟩) s.length cap) (w.drew.alloc (Go.Obj.cells C 5 (C.size, C.size + 1))) ∧ s.length ≤ C.size ∧
    ∀ (j : Nat) (u : UInt8), s[j]? = some u → C[j]? = some (Value.int .u8 (u.toNat : Int)) := by
  have h := run_bytes_of_string (P := Tryz.prog) w 9 96 5 ⟨s.toArray⟩ Tryz.underlying9 Tryz.underlying96 Tryz.underlying5
  have hs : (⟨s.toArray⟩ : ByteArray).size = s.length := by show s.toArray.size = _; simp
  rw [hs] at h
  refine ⟨_, _, h, ?_, fun j u hj => ?_⟩
  · unfold bytesRow; simp
  · have hlt : j < s.length := (List.getElem?_eq_some_iff.1 hj).1
    unfold bytesRow
    rw [Array.getElem?_append_left (by simpa using hlt)]
    simp only [List.map_toArray, List.getElem?_toArray, List.getElem?_map, hj, Option.map_some]
theorem conv_back (w : World) (g cap : Nat) (l : List UInt8) (h : ∀ (j : Nat) (u : UInt8), l[j]? = some u → w.cell? ⟨g, j, none⟩ = some (.int .u8 (u.toNat : Int))) :
    (convert 96 9 (.slice (some ⟨g, 0, none⟩) l.length cap)).run Tryz.prog w = .ok (.string ⟨l.toArray⟩) w :=
  run_convert_bytes_back (P := Tryz.prog) w 96 9 5 ⟨g, 0, none⟩ cap l Tryz.underlying96 Tryz.underlying5 Tryz.underlying9 fun j hj => by
    rw [Nu.addr_add, Nat.zero_add]
    exact h j _ (List.getElem?_eq_getElem hj)
theorem xor_one : ∀ u : UInt8, bits BinOp.xor IntKind.u8 (u.toNat : Int) 1 = ((u ^^^ 1).toNat : Int) := by
  have h : ∀ n : Fin 256, bits BinOp.xor IntKind.u8 ((UInt8.ofNat n.val).toNat : Int) 1 = ((UInt8.ofNat n.val ^^^ 1).toNat : Int) := by decide +kernel
  intro u
  have := h ⟨u.toNat, u.toNat_lt⟩
  simpa using this
theorem ObjW.set {w W : World} {o : Obj} {ev hv : Value} (h : ObjW w W o ev hv) {p : Addr} (hp : w.heap.size + 1 < p.block) (v : Value) : ObjW w (W.setCell p v) o ev hv :=
  ⟨h.b0.setCell (by omega) _, (Below.heap_setCell _ _ _ _ (by omega)).trans h.ob, (Below.heap_setCell _ _ _ _ (by omega)).trans h.zb⟩
def dmg (s : List UInt8) (a : Nat) : List UInt8 := s.set a (s.getD a 0 ^^^ 1)
def dmgF (l : List File) (f a : Nat) : List File := l.set f ((l.getD f ([], [])).1, dmg (l.getD f ([], [])).2 a)
theorem dmg_len (s : List UInt8) (a : Nat) : (dmg s a).length = s.length := List.length_set
theorem dmg_at {s : List UInt8} {a : Nat} {u : UInt8} (h : s[a]? = some u) : dmg s a = s.set a (u ^^^ 1) := by
  unfold dmg
  rw [List.getD_eq_getElem?_getD, h]; rfl
theorem dmg_world {w w2 : World} {o : Obj} {ev hv : Value} (H : ObjW w w2 o ev hv) {B0 n g cap2 j a cap : Nat} {fs : List Value} {C : Array Value} {D : List UInt8} {u : UInt8} {s1 : Value} (ho : w2.ownsRow B0 70 2 (.slice (some ⟨g, 0, none⟩) n cap2) n fs) (hB : B0 ≤ g) (hB0 : w.heap.size + 1 < B0) (hj : fs[j]? = some s1)
    (hu : D[a]? = some u) (hC1 : D.length ≤ C.size) (hC2 : ∀ (j : Nat) (u : UInt8), D[j]? = some u → C[j]? = some (Value.int .u8 (u.toNat : Int))) (s2 : Value) :
    (convert 96 9 (.slice (some ⟨w2.heap.size, 0, none⟩) D.length cap)).run Tryz.prog ((w2.alloc (Go.Obj.cells C 5 (C.size, C.size + 1))).setCell ⟨w2.heap.size, a, none⟩ (.int .u8 (bits BinOp.xor IntKind.u8 (u.toNat : Int) 1))).drew =
        .ok (.string ⟨(dmg D a).toArray⟩) ((w2.alloc (Go.Obj.cells C 5 (C.size, C.size + 1))).setCell ⟨w2.heap.size, a, none⟩ (.int .u8 (bits BinOp.xor IntKind.u8 (u.toNat : Int) 1))).drew ∧
      ((w2.alloc (Go.Obj.cells C 5 (C.size, C.size + 1))).setCell ⟨w2.heap.size, a, none⟩ (.int .u8 (bits BinOp.xor IntKind.u8 (u.toNat : Int) 1))).cell? ⟨g, j, none⟩ = some s1 ∧
      ((w2.alloc (Go.Obj.cells C 5 (C.size, C.size + 1))).setCell ⟨w2.heap.size, a, none⟩ (.int .u8 (bits BinOp.xor IntKind.u8 (u.toNat : Int) 1))).frozen? ⟨g, j, none⟩ = false ∧
      ObjW w (((w2.alloc (Go.Obj.cells C 5 (C.size, C.size + 1))).setCell ⟨w2.heap.size, a, none⟩ (.int .u8 (bits BinOp.xor IntKind.u8 (u.toNat : Int) 1))).setCell ⟨g, j, none⟩ s2) o ev hv ∧
      (((w2.alloc (Go.Obj.cells C 5 (C.size, C.size + 1))).setCell ⟨w2.heap.size, a, none⟩ (.int .u8 (bits BinOp.xor IntKind.u8 (u.toNat : Int) 1))).setCell ⟨g, j, none⟩ s2).ownsRow B0 70 2 (.slice (some ⟨g, 0, none⟩) n cap2) n (fs.set j s2) := by
  have hlt : a < D.length := (List.getElem?_eq_some_iff.1 hu).1
  have hg : g < w2.heap.size := (ho.lt g rfl).2
  have hA := (Below.refl _ w2).alloc (Nat.le_refl _) (Go.Obj.cells C 5 (C.size, C.size + 1))
  have hA2 := hA.setCell (p := ⟨w2.heap.size, a, none⟩) (Nat.le_refl _) (.int .u8 (bits BinOp.xor IntKind.u8 (u.toNat : Int) 1))
  have H2 := H.step hA2
  have ho2 : ((w2.alloc (Go.Obj.cells C 5 (C.size, C.size + 1))).setCell ⟨w2.heap.size, a, none⟩ (.int .u8 (bits BinOp.xor IntKind.u8 (u.toNat : Int) 1))).ownsRow B0 70 2 (.slice (some ⟨g, 0, none⟩) n cap2) n fs := ho.kept (grown_of_below hA2 none) (by simp [Value.ownBlock])
  obtain ⟨k1, k2⟩ := own_cell ho2 hj
  refine ⟨?_, k1, k2, H2.set (by show _ < g; omega) _, own_setAt ho2 (List.getElem?_eq_some_iff.1 hj).1⟩
  rw [← dmg_len D a]
  refine conv_back _ _ _ _ fun k v hk => ?_
  have hr3 := heap_alloc_new w2 (Go.Obj.cells C 5 (C.size, C.size + 1))
  rw [dmg_at hu] at hk
  have hk' : k < D.length := by have := (List.getElem?_eq_some_iff.1 hk).1; rwa [List.length_set] at this
  have hrow : ((w2.alloc (Go.Obj.cells C 5 (C.size, C.size + 1))).setCell ⟨w2.heap.size, a, none⟩ (.int .u8 (bits BinOp.xor IntKind.u8 (u.toNat : Int) 1))).heap[w2.heap.size]? = some (.cells (C.set! a (.int .u8 (bits BinOp.xor IntKind.u8 (u.toNat : Int) 1))) 5 (C.size, C.size + 1)) := by
    unfold World.setCell
    simp only [Array.getElem?_modify, hr3, if_true, Option.map_some]
    rfl
  refine Eq.trans (show _ = ((w2.alloc (Go.Obj.cells C 5 (C.size, C.size + 1))).setCell ⟨w2.heap.size, a, none⟩ (.int .u8 (bits BinOp.xor IntKind.u8 (u.toNat : Int) 1))).cell? ⟨w2.heap.size, k, none⟩ from rfl) ((cell_of_row _ _ k _ _ _ hrow).trans ?_)
  rw [Array.set!_eq_setIfInBounds, Array.getElem?_setIfInBounds]
  rw [List.getElem?_set] at hk
  by_cases hak : a = k
  · rw [if_pos hak] at hk ⊢
    rw [if_pos (by omega)] at hk ⊢
    injection hk with hk
    rw [← hk, xor_one]
  · rw [if_neg hak] at hk ⊢
    exact hC2 k v hk
theorem below_drew (W : World) : Below W.heap.size W W.drew := ⟨rfl, rfl, rfl, Nat.le_refl _, fun _ _ => rfl⟩
theorem dmg_end {S : Nat → Nat → Prop} {o : Obj} {ev hv : Value} {w W5 w8 : World} {i B0 : Nat} {l : List File} {cv nv : Value} {cs : List Value} (hi : i < o.2.2.1.length) (hS : ∀ b o, S b o → b < w.heap.size)
    (hcs : RepCs Tryz.prog S w noOw (o.2.2.1.map (toV shEdn)) cs) (H : ObjW w W5 o ev hv) (hB : w.heap.size + 1 < B0) (ho5 : W5.ownsRow B0 70 2 cv l.length (l.flatMap encF)) (h8 : Below W5.heap.size W5 w8) (ho8 : w8.ownsRow W5.heap.size 63 5 nv o.2.2.1.length (cs.set (i * 5 + 4) cv)) (a0 a1 a2 a3 a4 a5 a6 a7 : Value) :
    w8.heap[w.heap.size + 1]? = some (.cells zero8 32 (0, 0)) ∧ Below w.heap.size w (put8 w8 (w.heap.size + 1) a0 a1 a2 a3 a4 a5 a6 a7) ∧
      RepC Tryz.prog (grow S w (put8 w8 (w.heap.size + 1) a0 a1 a2 a3 a4 a5 a6 a7)) (put8 w8 (w.heap.size + 1) a0 a1 a2 a3 a4 a5 a6 a7) noOw (.sl none 63 ((withP o i l).2.2.1.map (toV shEdn))) [nv] := by
  have H8 := H.step h8
  have k8 := h8.size
  have hz := (Array.getElem?_eq_some_iff.1 H.zb).1
  have s8 : (put8 w8 (w.heap.size + 1) a0 a1 a2 a3 a4 a5 a6 a7).heap.size = w8.heap.size := by simp [World.setCell]
  have hp : ∀ k, k ≠ w.heap.size + 1 → (put8 w8 (w.heap.size + 1) a0 a1 a2 a3 a4 a5 a6 a7).heap[k]? = w8.heap[k]? := fun k hk => by
    simp only [put8]
    rw [Below.heap_setCell _ _ _ _ hk, Below.heap_setCell _ _ _ _ hk, Below.heap_setCell _ _ _ _ hk, Below.heap_setCell _ _ _ _ hk, Below.heap_setCell _ _ _ _ hk, Below.heap_setCell _ _ _ _ hk, Below.heap_setCell _ _ _ _ hk, Below.heap_setCell _ _ _ _ hk]
  refine ⟨H8.zb, put8_below H8.b0 (by omega) _ _ _ _ _ _ _ _, ?_⟩
  have q : RepC Tryz.prog (fun k o => S k o ∨ (w.heap.size + 1 < k ∧ k < w8.heap.size)) w8 noOw (.sl none 63 ((withP o i l).2.2.1.map (toV shEdn))) [nv] := by
    refine edns_rep (B := W5.heap.size) (l := (withP o i l).2.2.1) (by rw [with_len]; exact ho8) (fun k o h1 h2 => .inr ⟨by omega, h2⟩) ?_
    refine with_reps (reps_mono hcs ⟨fun k o h => .inl h, fun k o h => ?_, fun _ _ _ _ h => by cases h⟩) hi ?_
    · exact H8.b0.cell (p := ⟨k, o, none⟩) (hS k o h)
    · exact files_rep (B := B0) (ho5.kept (grown_of_below h8 none) (by cases hv : cv.ownBlock <;> simp)) fun k o h1 h2 => .inr ⟨by omega, h2⟩
  refine q.mono ⟨fun k o h => ?_, fun k o h => ?_, fun _ _ _ _ h => by cases h⟩
  · rcases h with h | ⟨h1, h2⟩
    · exact .inl h
    · exact .inr ⟨by omega, by rw [s8]; omega⟩
  · have hk : k ≠ w.heap.size + 1 := by
      rcases h with h | ⟨h1, h2⟩
      · have := hS k o h; omega
      · omega
    exact World.cell?_of_block (a := ⟨k, o, none⟩) (hp k hk)
theorem dmgF_flat {L : List File} {f a : Nat} (h : f < L.length) : (L.flatMap encF).set (f * 2 + 1) (.string ⟨(dmg (L.getD f ([], [])).2 a).toArray⟩) = (dmgF L f a).flatMap encF := encFs_set L f _ h
theorem dmgF_len (L : List File) (f a : Nat) : (dmgF L f a).length = L.length := List.length_set
end Go.Proofs.YtecjedagdpnemaaGreatDoor
