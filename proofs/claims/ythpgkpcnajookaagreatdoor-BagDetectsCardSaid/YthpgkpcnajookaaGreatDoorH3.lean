/-
  bag.Verify: its worlds; walked where the text is no manifest. No condition beyond what each line says.
-/
import Derived.Test.YthpgkpcnajookaaGreatDoorH2
namespace Go.Proofs.YthpgkpcnajookaaGreatDoor
open Go Go.Nu Go.RowKit Go.Sort Go.Maps
set_option linter.unusedVariables false

abbrev ints (o : List Int) : List Value := o.map (Value.int .i64)
theorem own_kept {w w' : World} {B n : Nat} {v : Value} {xs : List Value} (h : w.ownsRow B 3 1 v n xs) (hb : ∀ k, B ≤ k → k < w.heap.size → w'.heap[k]? = w.heap[k]?) : w'.ownsRow B 3 1 v n xs := by
  refine ⟨h.1, ?_⟩
  rcases h.2 with h | ⟨g, cap, cur, rfl, h1, h2, h3⟩
  · exact .inl h
  · exact .inr ⟨g, cap, cur, rfl, h1, by rw [hb g h1 (Array.getElem?_eq_some_iff.1 h2).1]; exact h2, h3⟩
/-- What lies in the call's own blocks: the map of what was met (M), the result so far (behind M). -/
structure VN (w W : World) (M n : Nat) (D : DataW Unit) (v : Value) (o : List Int) : Prop where
  b0 : Below w.heap.size w W
  lo : w.heap.size ≤ M
  met : W.ownsMap Tryz.prog 9 (plainElem Tryz.prog 3) M n D
  out : W.ownsRow (M + 1) 3 1 v o.length (ints o)
theorem VN.lt {w W : World} {M n : Nat} {D : DataW Unit} {v : Value} {o : List Int} (h : VN w W M n D v o) : M < W.heap.size := h.met.lt
theorem VN.step {w W W1 : World} {M n : Nat} {D : DataW Unit} {v : Value} {o : List Int} (h : VN w W M n D v o) (hb : Below W.heap.size W W1) : VN w W1 M n D v o :=
  ⟨below_tr h.b0 h.b0.size hb, h.lo, h.met.kept (grown_of_below hb none) (by simp), own_kept h.out fun k _ hk => hb.block k hk⟩
theorem VN.alloc {w W : World} {M n : Nat} {D : DataW Unit} {v : Value} {o : List Int} (h : VN w W M n D v o) (ob : Obj) : VN w (W.alloc ob) M n D v o := h.step ((Below.refl _ W).alloc (Nat.le_refl _) ob)
theorem VN.app {w W W1 : World} {M n : Nat} {D : DataW Unit} {v v' : Value} {o : List Int} {x : Int} (h : VN w W M n D v o) (hg : W.grownBy W1 v.ownBlock) (ho : W1.ownsRow (M + 1) 3 1 v' (o.length + 1) (ints o ++ [.int .i64 x])) : VN w W1 M n D v' (o ++ [x]) := by
  have hb : ∀ k, v.ownBlock = some k → M + 1 ≤ k := fun k hk => (h.out.lt k hk).1
  refine ⟨h.b0.grown hg h.b0.size (fun k hk => by have := hb k hk; have := h.lo; omega), h.lo, h.met.kept hg (fun e => by have := hb M e.symm; omega), ?_⟩
  rw [List.length_append, List.length_singleton]
  unfold ints
  rw [List.map_append]
  exact ho
theorem VN.put {w W W1 : World} {M n : Nat} {D D' : DataW Unit} {v : Value} {o : List Int} (h : VN w W M n D v o) (hg : W.grownBy W1 (some M)) (ho : W1.ownsMap Tryz.prog 9 (plainElem Tryz.prog 3) M (n + 1) D') : VN w W1 M (n + 1) D' v o :=
  ⟨h.b0.grown hg h.b0.size (fun k hk => by cases hk; exact h.lo), h.lo, ho, own_kept h.out fun k hk hlt => hg.block k hlt (by simp only [ne_eq, Option.some.injEq]; omega)⟩
theorem VN.start {w W : World} (h : Below w.heap.size w W) : VN w (W.alloc (.map #[] 0)) W.heap.size 0 (.map []) (.slice none 0 0) [] :=
  ⟨h.alloc h.size _, h.size, World.ownsMap_made _ _ _ _, World.ownsRow_nil _ _ _ _⟩

/-- The files lie at the slice's address. -/
def FilesAt (w : World) (l : List File) (a : Option Addr) : Prop := ∀ i, i < l.length → ∃ b o, a = some ⟨b, o, none⟩ ∧ b < w.heap.size ∧
  w.cell? ⟨b, o + i * 2, none⟩ = some (.string ⟨(l.getD i ([], [])).1.toArray⟩) ∧ w.cell? ⟨b, o + i * 2 + 1, none⟩ = some (.string ⟨(l.getD i ([], [])).2.toArray⟩)

theorem info3 : ∃ i0, Tryz.prog.info? 3 = some i0 ∧ i0.zero = some (.int .i64 0) ∧ i0.size = 1 ∧ i0.bytes = 8 := by
  have h : ((Tryz.prog.info? 3).map fun i => (i.zero, i.size, i.bytes)) = some (some (.int .i64 0), 1, 8) := by kernel_rfl
  cases hi : Tryz.prog.info? 3 with
  | none => rw [hi] at h; cases h
  | some i0 =>
    rw [hi] at h
    replace h : some (i0.zero, i0.size, i0.bytes) = some (some (.int .i64 0), 1, 8) := h
    injection h with h
    injection h with h1 h2
    injection h2 with h2 h3
    exact ⟨i0, rfl, h1, h2, h3⟩
theorem look56 (W : World) (s : ByteArray) (hs : s.size ≤ maxLen) : (Instr.lookup 56 (.map none) (.string s) true).run Tryz.prog W = .ok (.tuple #[.string ⟨#[]⟩, .bool false]) W :=
  Maps.look_nil (w := W) true keyed9 Tryz.underlying56 (z := .string ⟨#[]⟩) (by kernel_rfl) (Go.WideMaps.keyOf_string_mk Tryz.underlying9 hs)
theorem one_cell (W : World) (x : Int) : ∀ j u, [Value.int .i64 x][j]? = some u → (W.alloc (.cells #[.int .i64 x] 3)).cell? ((⟨W.heap.size, 0, none⟩ : Addr).add j) = some u := by
  intro j u hu
  rw [Nu.addr_add, cell_of_row _ _ _ _ _ _ (heap_alloc_new W _), Nat.zero_add]
  match j, hu with
  | 0, hu => exact hu

/-- What Verify leaves. -/
def VerPost (o : List Int) (w : World) (e : Ending) (w' : World) : Prop := ∃ v B, e = .returned v ∧ w.heap.size ≤ B ∧ Below w.heap.size w w' ∧ w'.ownsRow B 3 1 v o.length (ints o)

set_option maxHeartbeats 1000000 in
set_option maxRecDepth 1000000 in
theorem walkVerN (l : List File) (a : Option Addr) (cap : Nat) (s : ByteArray) (w : World) (hg : GT w) (hs : s.data.toList.length ≤ 1000000) (hl : Fit l) (hf : FilesAt w l a) (hn : entsP s.data.toList = none) :
    Calls Tryz.prog 20 #[.slice a l.length cap, .string s] w (VerPost (missL (fun _ => false) 0 l ++ [(l.length : Int)]) w) := by
  have HE : Aside (Calls Tryz.prog 36 #[.string s] w (EntPost none w)) := by
    have := walkEnts s w hg hs
    rw [hn] at this
    exact this
  have HG : Aside (GT w ∧ s.data.toList.length ≤ 1000000 ∧ Fit l ∧ FilesAt w l a) := ⟨hg, hs, hl, hf⟩
  have hl1 := hl.1
  clear hg hs hn hl hf
  obtain ⟨i0, hi, hz0, hz1, hz2⟩ := info3
  have HI : Aside (Tryz.prog.info? 3 = some i0 ∧ i0.zero = some (.int .i64 0) ∧ i0.size = 1 ∧ i0.bytes = 8) := ⟨hi, hz0, hz1, hz2⟩
  clear hi hz0 hz1 hz2
  have hmm := @run_makeMap Tryz.prog
  go_enter Tryz.func20, Tryz.ntmps20
  go_wp2_with (go_at_call 36; refine HE.out.mono ?_; rintro e w1 ⟨rfl, hb⟩; have HB : Aside (Below w.heap.size w w1) := hb; clear hb)
  go_loopg [5, 21] l.length (fun gg s5 s21 wr => ∃ (i : Nat) (v : Value) (o : List Int), s5 = v ∧ s21 = .int .i64 i ∧ l.length - i ≤ gg ∧ i ≤ l.length ∧ Aside (o.length ≤ i ∧ missL (fun _ => false) 0 l = o ++ missL (fun _ => false) i (l.drop i) ∧ VN w wr w1.heap.size 0 (.map []) v o))
  case atStart => exact ⟨0, _, [], rfl, rfl, by omega, by omega, (show Aside _ from ⟨Nat.le_refl _, by simp, VN.start HB.out⟩)⟩
  case round =>
    obtain ⟨i, v, o, rfl, rfl, hgg, hil, I⟩ := hrel
    by_cases hlt : i < l.length
    · have hltz : (i : Int) < (l.length : Int) := by omega
      obtain ⟨b, of, rfl, hbl, z0, z1⟩ := HG.out.2.2.2 i hlt
      have hbl' := Nat.lt_of_lt_of_le hbl (Nat.le_refl _)
      replace z0 := (I.out.2.2.b0.cell (p := ⟨b, of + i * 2, none⟩) hbl).trans z0
      replace z1 := (I.out.2.2.b0.cell (p := ⟨b, of + i * 2 + 1, none⟩) hbl).trans z1
      have hfit := fit_at HG.out.2.2.1 i
      generalize l.getD i ([], []) = f at z0 z1 hfit
      obtain ⟨p, hp⟩ : ∃ p : ByteArray, p = ⟨f.1.toArray⟩ := ⟨_, rfl⟩
      obtain ⟨q, hq⟩ : ∃ q : ByteArray, q = ⟨f.2.toArray⟩ := ⟨_, rfl⟩
      rw [← hp] at z0
      rw [← hq] at z1
      have hlk := fun W => look56 W p (by rw [hp, byte_size, byte_data]; unfold maxLen; omega)
      clear hp hq hfit hbl hbl'
      go_wp2_with (at_builtin; refine wpList_append_own _ rfl _ _ 31 rfl (w1.heap.size + 1) 3 i0 (.int .i64 0) 1 8 Tryz.underlying31 HI.out.1 HI.out.2.1 HI.out.2.2.1 HI.out.2.2.2 rfl (by decide) _ _ _ rfl ((I.out.2.2.alloc _).alloc _).out ⟨wr.heap.size + 1, 0, none⟩ 1 1 [.int .i64 (i : Int)] rfl rfl ?c1 ?c2 ?c3 ?c4 ?c5 ?_)
      case c2 => rfl
      case c3 => unfold maxLen; have := I.out.1; omega
      case c4 => have := I.out.1; omega
      case c5 => have := I.out.2.2.lt; omega
      intro v' w3 hown hgrow hnil
      have IN : Aside (VN w w3 w1.heap.size 0 (.map []) v' (o ++ [(i : Int)])) := ((I.out.2.2.alloc _).alloc _).app hgrow hown
      clear hown hgrow hnil
      go_wp2
      go_roundg (l.length - (i + 1))
      case measure => omega
      case rel =>
        obtain ⟨i1, i2, i3⟩ := I.out
        refine ⟨i + 1, v', o ++ [(i : Int)], rfl, by go_num, Nat.le_refl _, by omega, (show Aside _ from ⟨by rw [List.length_append, List.length_singleton]; omega, ?_, IN.out⟩)⟩
        rw [i2, missL_step _ l hlt, if_neg (by simp), List.append_assoc]; rfl
    · obtain rfl : i = l.length := by omega
      have hltz : ¬ (l.length : Int) < (l.length : Int) := by omega
      go_wp2_with (at_builtin; refine wpList_append_own _ rfl _ _ 31 rfl (w1.heap.size + 1) 3 i0 (.int .i64 0) 1 8 Tryz.underlying31 HI.out.1 HI.out.2.1 HI.out.2.2.1 HI.out.2.2.2 rfl (by decide) _ _ _ rfl (I.out.2.2.alloc _).out ⟨wr.heap.size, 0, none⟩ 1 1 [.int .i64 (l.length : Int)] rfl rfl ?d1 ?d2 ?d3 ?d4 ?d5 ?_)
      case d2 => rfl
      case d3 => unfold maxLen; have := I.out.1; omega
      case d4 => have := I.out.1; omega
      case d5 => have := I.out.2.2.lt; omega
      intro v' w3 hown hgrow hnil
      have IN : Aside (VN w w3 w1.heap.size 0 (.map []) v' (o ++ [(l.length : Int)])) := (I.out.2.2.alloc _).app hgrow hown
      clear hown hgrow hnil
      go_wp2
      go_ret
      have e : missL (fun _ => false) 0 l = o := by
        have := I.out.2.1
        rw [List.drop_length] at this
        rw [this]; exact List.append_nil o
      rw [e]
      exact ⟨v', _, rfl, Nat.le_succ_of_le IN.out.lo, IN.out.b0, IN.out.out⟩
end Go.Proofs.YthpgkpcnajookaaGreatDoor
