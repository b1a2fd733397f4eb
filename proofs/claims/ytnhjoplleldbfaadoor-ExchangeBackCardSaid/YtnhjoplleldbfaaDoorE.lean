/-
  The library's functions that the chapter's code calls: contracts in the runs' own words. No condition.
-/
import Derived.Test.YtnhjoplleldbfaaDoorK5
import Derived.Test.YtnhjoplleldbfaaDoorShelf
import Derived.KernelRfl
import Derived.Lib.LaidU8T
import Derived.Shelf.Unicode.ValidAny
namespace Go.Proofs.YtnhjoplleldbfaaDoor
open Go Go.Nu Go.RowKit
set_option maxRecDepth 100000

/-- What is known of the library's variables. -/
def GT (w : World) : Prop := w.var? Tryd.prog "internal/strconv.uint64pow10" = some (Lib.pow10Tab.map fun z => Value.int .u64 z).toArray ∧ (∃ v, w.cell? ⟨1, 0, none⟩ = some v ∧ ∃ m, v = .int .i64 m) ∧
  Lib.Utf8Tabs 2 3 w
theorem keeps_tabs {a b : Nat} : Keeps (Lib.Utf8Tabs a b) := by
  intro w w' h hb
  refine ⟨fun c hc => ?_, fun i hi => ⟨?_, ?_⟩⟩
  · obtain ⟨v, h1, h2⟩ := keeps_cell (p := fun v => v = _) w w' ⟨_, h.1 c hc, rfl⟩ hb
    rw [h1, h2]
  · obtain ⟨v, h1, h2⟩ := keeps_cell (p := fun v => v = _) w w' ⟨_, (h.2 i hi).1, rfl⟩ hb
    rw [h1, h2]
  · obtain ⟨v, h1, h2⟩ := keeps_cell (p := fun v => v = _) w w' ⟨_, (h.2 i hi).2, rfl⟩ hb
    rw [h1, h2]
theorem keepsGT : Keeps GT := keeps_and keeps_var (keeps_and keeps_cell keeps_tabs)
theorem arr_size (l : List UInt8) : (⟨l.toArray⟩ : ByteArray).size = l.length := by show l.toArray.size = _; simp


noncomputable def fItoa (n : Int) : Option (List UInt8) := if -9223372036854775808 ≤ n ∧ n ≤ 9223372036854775807 then some (Lib.itoa n) else none
noncomputable def entItoa : TEnt := ⟨24, [.int .i64], .str, fun x => fItoa x, .plain⟩
theorem simItoa (x : Int) (y : List UInt8) (h : fItoa x = some y) : SimCalls Tryd.prog GT 24 [.int .i64 x] (.str y) := by
  unfold fItoa at h
  split at h
  · rename_i hc
    cases h
    refine sim_flat (args := [.int .i64 x]) (cargs := [.int .i64 x]) (c := .string ⟨(Lib.itoa x).toArray⟩) rfl rfl fun w hg => ?_
    refine (Tryd.strconv_Itoa x hc.1 hc.2 w hg.1).mono ?_
    rintro e w' ⟨rfl, k, os, rfl⟩
    exact ⟨rfl, below_grow (Go.Nu.below_drewN (Below.refl _ _) k) (Nat.le_refl _) os⟩
  · cases h
theorem okItoa : TEnt.Ok Tryd.prog GT entItoa :=
  .plain rfl (callable_of (fn := Tryd.f24) Tryd.func24 (by kernel_rfl)) fun x y h => simItoa x y h

noncomputable def fTrim (s c : List UInt8) : Option (List UInt8) := if s.length ≤ 9223372036854775807 ∧ c.length < 4294967281 ∧ c.all (fun b => decide (b.toNat < 128)) = true then some (Lib.trimS s c) else none
noncomputable def entTrim : TEnt := ⟨34, [.str, .str], .str, fun x => fTrim x.1 x.2, .plain⟩
theorem simTrim (s c y : List UInt8) (h : fTrim s c = some y) : SimCalls Tryd.prog GT 34 [.str s, .str c] (.str y) := by
  unfold fTrim at h
  split at h
  · rename_i hc
    cases h
    refine sim_flat (args := [.str s, .str c]) (cargs := [.string ⟨s.toArray⟩, .string ⟨c.toArray⟩]) (c := .string ⟨(Lib.trimS s c).toArray⟩) rfl rfl fun w _ => ?_
    have := Tryd.strings_TrimX ⟨s.toArray⟩ ⟨c.toArray⟩ w (by rw [arr_size]; exact hc.1) (by rw [arr_size]; exact hc.2.1) (by
      intro j b hb
      have h3 := hc.2.2
      rw [List.all_eq_true] at h3
      exact of_decide_eq_true (h3 b (List.mem_of_getElem? (by simpa using hb))))
    simpa using this
  · cases h
theorem okTrim : TEnt.Ok Tryd.prog GT entTrim :=
  .plain rfl (callable_of (fn := Tryd.f34) Tryd.func34 (by kernel_rfl)) fun x y h => simTrim x.1 x.2 y h

noncomputable def fRepl (s c d : List UInt8) : Option (List UInt8) := if s.length < 4294967281 ∧ 1 ≤ c.length ∧ d.length ≤ 2 then some (Lib.replaceAll s c d) else none
noncomputable def entRepl : TEnt := ⟨51, [.str, .str, .str], .str, fun x => fRepl x.1 x.2.1 x.2.2, .plain⟩
theorem simRepl (s c d y : List UInt8) (h : fRepl s c d = some y) : SimCalls Tryd.prog GT 51 [.str s, .str c, .str d] (.str y) := by
  unfold fRepl at h
  split at h
  · rename_i hc
    cases h
    refine sim_flat (args := [.str s, .str c, .str d]) (cargs := [.string ⟨s.toArray⟩, .string ⟨c.toArray⟩, .string ⟨d.toArray⟩]) (c := .string ⟨(Lib.replaceAll s c d).toArray⟩) rfl rfl fun w hg => ?_
    obtain ⟨_, h1, m, rfl⟩ := hg.2.1
    have hle := Lib.countB_le (⟨c.toArray⟩ : ByteArray) (by rw [arr_size]; exact hc.2.1) _ (⟨s.toArray⟩ : ByteArray) (Nat.le_refl _)
    rw [arr_size] at hle
    have hm : Lib.countB ⟨s.toArray⟩ ⟨c.toArray⟩ * d.length ≤ s.length * 2 := Nat.mul_le_mul hle hc.2.2
    have := Tryd.strings_ReplaceAll ⟨s.toArray⟩ ⟨c.toArray⟩ ⟨d.toArray⟩ m w (by rw [arr_size]; exact hc.1) h1 (by rw [arr_size]; exact hc.2.1) (by rw [arr_size, arr_size]; omega)
    simpa using this
  · cases h
theorem okRepl : TEnt.Ok Tryd.prog GT entRepl :=
  .plain rfl (callable_of (fn := Tryd.f51) Tryd.func51 (by kernel_rfl)) fun x y h => simRepl x.1 x.2.1 x.2.2 y h

noncomputable def fHas (s c : List UInt8) : Option Bool := some (c.isPrefixOf s)
noncomputable def entHas : TEnt := ⟨55, [.str, .str], .bool, fun x => fHas x.1 x.2, .plain⟩
theorem simHas (s c : List UInt8) (y : Bool) (h : fHas s c = some y) : SimCalls Tryd.prog GT 55 [.str s, .str c] (.bool y) := by
  cases h
  refine sim_flat (args := [.str s, .str c]) (cargs := [.string ⟨s.toArray⟩, .string ⟨c.toArray⟩]) (c := .bool (c.isPrefixOf s)) rfl rfl fun w hg => ?_
  refine (Tryd.strings_HasPrefix ⟨s.toArray⟩ ⟨c.toArray⟩ w).mono ?_
  rintro e w' ⟨rfl, rfl⟩
  exact ⟨by simp [Lib.hasPrefix], Below.refl _ _⟩
theorem okHas : TEnt.Ok Tryd.prog GT entHas :=
  .plain rfl (callable_of (fn := Tryd.f55) Tryd.func55 (by kernel_rfl)) fun x y h => simHas x.1 x.2 y h

noncomputable def fVal (s : List UInt8) : Option Bool := if s.length ≤ 9223372036854775807 then some (Lib.validD s) else none
noncomputable def entVal : TEnt := ⟨89, [.str], .bool, fun x => fVal x, .plain⟩
theorem simVal (s : List UInt8) (y : Bool) (h : fVal s = some y) : SimCalls Tryd.prog GT 89 [.str s] (.bool y) := by
  unfold fVal at h
  split at h
  · rename_i hc
    cases h
    refine sim_flat (args := [.str s]) (cargs := [.string ⟨s.toArray⟩]) (c := .bool (Lib.validD s)) rfl rfl fun w hg => ?_
    have := Tryd.utf8_ValidStringX ⟨s.toArray⟩ w (by rw [arr_size]; exact hc) hg.2.2
    simpa using this
  · cases h
theorem okVal : TEnt.Ok Tryd.prog GT entVal :=
  .plain rfl (callable_of (fn := Tryd.f89) Tryd.func89 (by kernel_rfl)) fun x y h => simVal x y h

/-- A function of flat values that returns a new slice of strings, with room behind. -/
theorem sim_strsC {P : Program} {G : World → Prop} {f : FuncId} {args : List V} {cargs : List Value} {e : TypeId} {l : List (List UInt8)} {N : Nat} (he : P.cellsOf e = 1) (hl : l.length ≤ N) (hN : N ≤ maxLen) (ha : flatCs args = some cargs)
    (h : ∀ w, G w → Calls P f cargs.toArray w fun en w' => en = .returned (.slice (some ⟨w.heap.size, 0, none⟩) l.length N) ∧ ∃ T z, w' = w.alloc (.cells (l.map strV ++ List.replicate (N - l.length) z).toArray T (0, 0))) : SimCalls P G f args (.sl none e (l.map .str)) := by
  intro w S cargs' hg hS har
  rw [flats_rep ha har]
  refine (h w hg).mono ?_
  rintro en w' ⟨rfl, T, z, rfl⟩
  generalize hcs : (l.map strV ++ List.replicate (N - l.length) z).toArray = cs
  have hh : (w.alloc (.cells cs T (0, 0))).heap[w.heap.size]? = some (.cells cs T (0, 0)) := by
    show (w.heap.push _)[w.heap.size]? = _
    rw [Array.getElem?_push_size]
  have hsz : (w.alloc (.cells cs T (0, 0))).heap.size = w.heap.size + 1 := by simp
  refine ⟨_, rfl, (Below.refl _ w).alloc (Nat.le_refl _) _, fun b o => S b o ∨ (b = w.heap.size ∧ o < cs.size), fun b o hs => ?_, fun b o hb => ?_, ?_⟩
  · rw [hsz]
    rcases hs with hs | ⟨rfl, _⟩
    · have := hS b o hs; omega
    · omega
  · constructor
    · rintro (hs | ⟨rfl, _⟩)
      · exact hs
      · omega
    · exact .inl
  · refine Rep1.toS ?_
    show RepC _ _ _ _ (.sl none e (l.map .str)) [_]
    have hm := mem_row (S := S) (pre := []) (c := l.map strV) (post := List.replicate (N - l.length) z) hh (by rw [← hcs]; simp)
    have := RepC.sl (P := P) (S := fun b o => S b o ∨ (b = w.heap.size ∧ o < cs.size)) (w := w.alloc (.cells cs T (0, 0))) noOw (tag := none) (e := e) (es := l.map V.str) (cs := l.map strV) (b := w.heap.size) (o := 0) (cap := N)
      (repCs_strs l) (fun x hx => by obtain ⟨s, _, rfl⟩ := List.mem_map.1 hx; rw [he]; rfl) hm (by simpa using hl) hN (TagOk.none_ _ _ _ _)
    simpa using this
theorem strs_of {l : List ByteArray} {k : List (List UInt8)} (h : l.map (·.data.toList) = k) : k.map strV = l.map Value.string := by
  subst h
  rw [List.map_map]
  refine List.map_congr_left fun b _ => ?_
  show Value.string ⟨b.data.toList.toArray⟩ = _
  simp

noncomputable def fSplit (s c : List UInt8) : Option (List (List UInt8)) := if s.length < 4294967281 ∧ 1 ≤ c.length then some (Lib.splitK c 0 (Lib.count s c) s) else none
noncomputable def entSplit : TEnt := ⟨63, [.str, .str], .sl 9 .str, fun x => fSplit x.1 x.2, .plain⟩
theorem simSplit (s c : List UInt8) (y : List (List UInt8)) (h : fSplit s c = some y) : SimCalls Tryd.prog GT 63 [.str s, .str c] (.sl none 9 (y.map .str)) := by
  unfold fSplit at h
  split at h
  · rename_i hc
    cases h
    have hd : (Lib.splitB ⟨c.toArray⟩ 0 (Lib.countB ⟨s.toArray⟩ ⟨c.toArray⟩) ⟨s.toArray⟩).map (·.data.toList) = Lib.splitK c 0 (Lib.count s c) s := by
      rw [Lib.splitB_data]
    have hlen : (Lib.splitK c 0 (Lib.count s c) s).length = Lib.countB ⟨s.toArray⟩ ⟨c.toArray⟩ + 1 := by
      rw [← hd, List.length_map]
      exact Lib.splitB_all _ (by rw [arr_size]; exact hc.2) 0 _ _ rfl
    refine sim_strs (P := Tryd.prog) (G := GT) (f := 63) (args := [.str s, .str c]) (cargs := [.string ⟨s.toArray⟩, .string ⟨c.toArray⟩]) (e := 9) (l := Lib.splitK c 0 (Lib.count s c) s) (by kernel_rfl) ?_ rfl fun w hg => ?_
    · have h1 := Lib.countB_le (⟨c.toArray⟩ : ByteArray) (by rw [arr_size]; exact hc.2) _ (⟨s.toArray⟩ : ByteArray) (Nat.le_refl _)
      rw [arr_size] at h1
      rw [hlen]
      unfold maxLen
      omega
    · obtain ⟨_, h1, m, rfl⟩ := hg.2.1
      refine (Tryd.strings_Split ⟨s.toArray⟩ ⟨c.toArray⟩ m w (by rw [arr_size]; exact hc.1) h1 (by rw [arr_size]; exact hc.2)).mono ?_
      rintro e w' ⟨rfl, rfl⟩
      rw [hlen, strs_of hd]
      exact ⟨rfl, _, rfl⟩
  · cases h
theorem okSplit : TEnt.Ok Tryd.prog GT entSplit :=
  .plain rfl (callable_of (fn := Tryd.f63) Tryd.func63 (by kernel_rfl)) fun x y h => simSplit x.1 x.2 y h

noncomputable def fIdxB (s : List UInt8) (c : UInt8) : Option Int := some (Lib.indexByte s c)
noncomputable def entIdxB : TEnt := ⟨40, [.str, .byte], .int .i64, fun x => fIdxB x.1 x.2, .plain⟩
theorem simIdxB (s : List UInt8) (c : UInt8) (y : Int) (h : fIdxB s c = some y) : SimCalls Tryd.prog GT 40 [.str s, byteV c] (.int .i64 y) := by
  cases h
  refine sim_flat (args := [.str s, byteV c]) (cargs := [.string ⟨s.toArray⟩, .int .u8 c.toNat]) (c := .int .i64 (Lib.indexByte s c)) rfl rfl fun w hg => ?_
  refine (Tryd.strings_IndexByte ⟨s.toArray⟩ c.toNat w).mono ?_
  rintro e w' ⟨rfl, rfl⟩
  exact ⟨by simp, Below.refl _ _⟩
theorem okIdxB : TEnt.Ok Tryd.prog GT entIdxB :=
  .plain rfl (callable_of (fn := Tryd.f40) Tryd.func40 (by kernel_rfl)) fun x y h => simIdxB x.1 x.2 y h

noncomputable def fRepeat (s : List UInt8) (n : Int) : Option (List UInt8) := if 0 ≤ n ∧ n ≤ 9223372036854775807 ∧ s.length * n.toNat ≤ 140737488355328 then some (Lib.repeatL s n.toNat) else none
noncomputable def entRepeat : TEnt := ⟨37, [.str, .int .i64], .str, fun x => fRepeat x.1 x.2, .plain⟩
theorem sim_repeat (s : List UInt8) (c : Nat) (h1 : c ≤ 9223372036854775807) (h2 : s.length * c ≤ 140737488355328) : SimCalls Tryd.prog GT 37 [.str s, .int .i64 (c : Int)] (.str (Lib.repeatL s c)) := by
  refine sim_flat (cargs := [.string ⟨s.toArray⟩, .int .i64 c]) (c := .string ⟨(Lib.repeatL s c).toArray⟩) rfl rfl fun w _ => ?_
  have := Tryd.strings_Repeat ⟨s.toArray⟩ c w h1 (by rw [arr_size]; exact h2)
  simpa using this
theorem okRepeat : TEnt.Ok Tryd.prog GT entRepeat := by
  refine .plain rfl (callable_of (fn := Tryd.f37) Tryd.func37 (by kernel_rfl)) fun x y h => ?_
  obtain ⟨s, n⟩ := x
  replace h : fRepeat s n = some y := h
  unfold fRepeat at h
  split at h
  · rename_i hc
    cases h
    have := sim_repeat s (Int.toNat n) (by have := hc.2.1; omega) hc.2.2
    rw [show ((Int.toNat n : Nat) : Int) = n from Int.toNat_of_nonneg hc.1] at this
    exact this
  · cases h

noncomputable def fTrimS (s p : List UInt8) : Option (List UInt8) := if s.length ≤ 9223372036854775807 then some (Lib.trimSuffix s p) else none
noncomputable def entTrimS : TEnt := ⟨64, [.str, .str], .str, fun x => fTrimS x.1 x.2, .plain⟩
theorem simTrimS (s p y : List UInt8) (h : fTrimS s p = some y) : SimCalls Tryd.prog GT 64 [.str s, .str p] (.str y) := by
  unfold fTrimS at h
  split at h
  · rename_i hc
    cases h
    refine sim_flat (args := [.str s, .str p]) (cargs := [.string ⟨s.toArray⟩, .string ⟨p.toArray⟩]) (c := .string ⟨(Lib.trimSuffix s p).toArray⟩) rfl rfl fun w hg => ?_
    refine (Tryd.strings_TrimSuffix ⟨s.toArray⟩ ⟨p.toArray⟩ w (by rw [arr_size]; exact hc)).mono ?_
    rintro e w' ⟨rfl, rfl⟩
    exact ⟨by simp, Below.refl _ _⟩
  · cases h
theorem okTrimS : TEnt.Ok Tryd.prog GT entTrimS :=
  .plain rfl (callable_of (fn := Tryd.f64) Tryd.func64 (by kernel_rfl)) fun x y h => simTrimS x.1 x.2 y h

noncomputable def entWriteString : TEnt := ⟨22, [], .unit, fun _ => none, .bld 54 5⟩
theorem okWriteString : TEnt.Ok Tryd.prog GT entWriteString :=
  .bld .wstr (callable_of (fn := Tryd.f22) Tryd.func22 (by kernel_rfl)) (by kernel_rfl) (bx_wstr Tryd.lays166 Tryd.Builder_Extra_166)

noncomputable def entLen : TEnt := ⟨21, [], .unit, fun _ => none, .bld 54 5⟩
theorem okLen : TEnt.Ok Tryd.prog GT entLen :=
  .bld .len (callable_of (fn := Tryd.f21) Tryd.func21 (by kernel_rfl)) (by kernel_rfl) (bx_len Tryd.lays170)

noncomputable def entString : TEnt := ⟨25, [], .unit, fun _ => none, .bld 54 5⟩
theorem okString : TEnt.Ok Tryd.prog GT entString :=
  .bld .str (callable_of (fn := Tryd.f25) Tryd.func25 (by kernel_rfl)) (by kernel_rfl) (bx_str Tryd.lays169 Tryd.Builder_Extra_169)
end Go.Proofs.YtnhjoplleldbfaaDoor
