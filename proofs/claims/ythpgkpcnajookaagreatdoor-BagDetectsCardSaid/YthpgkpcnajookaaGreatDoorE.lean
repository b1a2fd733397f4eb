/-
  The library's functions that the chapter's code calls: contracts in the runs' own words. No condition.
-/
import Derived.Test.YthpgkpcnajookaaGreatDoorK5
import Derived.Test.YthpgkpcnajookaaGreatDoorShelf
import Derived.KernelRfl
import Derived.Lib.LaidU8T
namespace Go.Proofs.YthpgkpcnajookaaGreatDoor
open Go Go.Nu Go.RowKit
set_option maxRecDepth 100000

/-- What is known of the library's variables. -/
def GT (w : World) : Prop := w.var? Tryz.prog "internal/strconv.uint64pow10" = some (Lib.pow10Tab.map fun z => Value.int .u64 z).toArray ∧ (∃ v, w.cell? ⟨0, 0, none⟩ = some v ∧ ∃ m, v = .int .i64 m) ∧
  (∃ v, w.cell? ⟨2, 0, none⟩ = some v ∧ ∃ te pe, v = .iface te pe) ∧ (∃ v, w.cell? ⟨3, 0, none⟩ = some v ∧ ∃ te pe, v = .iface te pe) ∧ TabAt (Tryz.lays7n27_ren.g 1) Lib.deBruijn64tab w
theorem keeps_tz {b : Nat} {xs : List Nat} : Keeps (TabAt b xs) := by
  intro w w' h hb j hj
  have h1 := h j hj
  have hlt : b < w.heap.size := by
    rcases Nat.lt_or_ge b w.heap.size with h | h
    · exact h
    · exfalso
      unfold World.cell? at h1
      simp [Array.getElem?_eq_none h] at h1
  rw [hb.cell (p := ⟨b, j, none⟩) hlt]
  exact h1
theorem keeps_tabs {a b : Nat} : Keeps (Lib.Utf8Tabs a b) := by
  intro w w' h hb
  refine ⟨fun c hc => ?_, fun i hi => ⟨?_, ?_⟩⟩
  · obtain ⟨v, h1, h2⟩ := keeps_cell (p := fun v => v = _) w w' ⟨_, h.1 c hc, rfl⟩ hb
    rw [h1, h2]
  · obtain ⟨v, h1, h2⟩ := keeps_cell (p := fun v => v = _) w w' ⟨_, (h.2 i hi).1, rfl⟩ hb
    rw [h1, h2]
  · obtain ⟨v, h1, h2⟩ := keeps_cell (p := fun v => v = _) w w' ⟨_, (h.2 i hi).2, rfl⟩ hb
    rw [h1, h2]
theorem keepsGT : Keeps GT := keeps_and keeps_var (keeps_and keeps_cell (keeps_and keeps_cell (keeps_and keeps_cell keeps_tz)))
theorem arr_size (l : List UInt8) : (⟨l.toArray⟩ : ByteArray).size = l.length := by show l.toArray.size = _; simp

def atoiN (s : List UInt8) : Int × Option (List UInt8) := match Lib.atoiAll s with
  | .ok v => (v, none)
  | .range => (Lib.atoiSat s, some [65, 116, 111, 105])
  | _ => (0, some [65, 116, 111, 105])

noncomputable def fItoa (n : Int) : Option (List UInt8) := if -9223372036854775808 ≤ n ∧ n ≤ 9223372036854775807 then some (Lib.itoa n) else none
noncomputable def entItoa : TEnt := ⟨40, [.int .i64], .str, fun x => fItoa x, .plain⟩
theorem simItoa (x : Int) (y : List UInt8) (h : fItoa x = some y) : SimCalls Tryz.prog GT 40 [.int .i64 x] (.str y) := by
  unfold fItoa at h
  split at h
  · rename_i hc
    cases h
    refine sim_flat (args := [.int .i64 x]) (cargs := [.int .i64 x]) (c := .string ⟨(Lib.itoa x).toArray⟩) rfl rfl fun w hg => ?_
    refine (Tryz.strconv_Itoa x hc.1 hc.2 w hg.1).mono ?_
    rintro e w' ⟨rfl, k, os, rfl⟩
    exact ⟨rfl, below_grow (Go.Nu.below_drewN (Below.refl _ _) k) (Nat.le_refl _) os⟩
  · cases h
theorem okItoa : TEnt.Ok Tryz.prog GT entItoa :=
  .plain rfl (callable_of (fn := Tryz.f40) Tryz.func40 (by kernel_rfl)) fun x y h => simItoa x y h

noncomputable def fTrim (s c : List UInt8) : Option (List UInt8) := if s.length ≤ 9223372036854775807 ∧ c.length < 4294967281 ∧ c.all (fun b => decide (b.toNat < 128)) = true then some (Lib.trimS s c) else none
noncomputable def entTrim : TEnt := ⟨49, [.str, .str], .str, fun x => fTrim x.1 x.2, .plain⟩
theorem simTrim (s c y : List UInt8) (h : fTrim s c = some y) : SimCalls Tryz.prog GT 49 [.str s, .str c] (.str y) := by
  unfold fTrim at h
  split at h
  · rename_i hc
    cases h
    refine sim_flat (args := [.str s, .str c]) (cargs := [.string ⟨s.toArray⟩, .string ⟨c.toArray⟩]) (c := .string ⟨(Lib.trimS s c).toArray⟩) rfl rfl fun w _ => ?_
    have := Tryz.strings_TrimX ⟨s.toArray⟩ ⟨c.toArray⟩ w (by rw [arr_size]; exact hc.1) (by rw [arr_size]; exact hc.2.1) (by
      intro j b hb
      have h3 := hc.2.2
      rw [List.all_eq_true] at h3
      exact of_decide_eq_true (h3 b (List.mem_of_getElem? (by simpa using hb))))
    simpa using this
  · cases h
theorem okTrim : TEnt.Ok Tryz.prog GT entTrim :=
  .plain rfl (callable_of (fn := Tryz.f49) Tryz.func49 (by kernel_rfl)) fun x y h => simTrim x.1 x.2 y h

noncomputable def fCut (s c : List UInt8) : Option (List UInt8 × List UInt8 × Bool) := if s.length < 4294967281 then some (Lib.cut s c) else none
noncomputable def entCut : TEnt := ⟨43, [.str, .str], .tup (.pair .str (.pair .str .bool)), fun x => fCut x.1 x.2, .plain⟩
theorem simCut (s c : List UInt8) (y : List UInt8 × List UInt8 × Bool) (h : fCut s c = some y) : SimCalls Tryz.prog GT 43 [.str s, .str c] (.tup [.str y.1, .str y.2.1, .bool y.2.2]) := by
  unfold fCut at h
  split at h
  · rename_i hc
    cases h
    refine sim_flats (args := [.str s, .str c]) (cargs := [.string ⟨s.toArray⟩, .string ⟨c.toArray⟩]) (res := [.str (Lib.cut s c).1, .str (Lib.cut s c).2.1, .bool (Lib.cut s c).2.2])
      (cs := [.string ⟨(Lib.cut s c).1.toArray⟩, .string ⟨(Lib.cut s c).2.1.toArray⟩, .bool (Lib.cut s c).2.2]) rfl rfl fun w hg => ?_
    obtain ⟨_, h1, m, rfl⟩ := hg.2.1
    refine (Tryz.strings_Cut ⟨s.toArray⟩ ⟨c.toArray⟩ m w (by rw [arr_size]; exact hc) h1).mono ?_
    rintro e w' ⟨rfl, n, rfl⟩
    exact ⟨rfl, Go.Nu.below_drewN (Below.refl _ _) n⟩
  · cases h
theorem okCut : TEnt.Ok Tryz.prog GT entCut :=
  .plain rfl (callable_of (fn := Tryz.f43) Tryz.func43 (by kernel_rfl)) fun x y h => simCut x.1 x.2 y h

/-- A function of flat values that returns a new slice of strings, with room behind. -/
theorem sim_strsC {P : Program} {G : World → Prop} {f : FuncId} {args : List V} {cargs : List Value} {e : TypeId} {l : List (List UInt8)} {N : Nat} (he : P.cellsOf e = 1) (hl : l.length ≤ N) (hN : N ≤ maxLen) (ha : flatCs args = some cargs)
    (h : ∀ w, G w → Calls P f cargs.toArray w fun en w' => en = .returned (.slice (some ⟨w.heap.size, 0, none⟩) l.length N) ∧ ∃ T z, w' = w.alloc (.cells (l.map strV ++ List.replicate (N - l.length) z).toArray T (0, 0))) : SimCalls P G f args (.sl none e (l.map .str)) := by
  intro w S cargs' hg hS har
  rw [flats_rep ha har]
  refine (h w hg).mono ?_
  rintro en w' ⟨rfl, T, z, rfl⟩
  generalize hcs : (l.map strV ++ List.replicate (N - l.length) z).toArray = cs
  have hh : (w.alloc (.cells cs T (0, 0))).heap[w.heap.size]? = some (.cells cs T (0, 0)) := by
    show (w.heap.push _)[w.heap.size]? = _
    rw [Array.getElem?_push_size]
  have hsz : (w.alloc (.cells cs T (0, 0))).heap.size = w.heap.size + 1 := by simp
  refine ⟨_, rfl, (Below.refl _ w).alloc (Nat.le_refl _) _, fun b o => S b o ∨ (b = w.heap.size ∧ o < cs.size), fun b o hs => ?_, fun b o hb => ?_, ?_⟩
  · rw [hsz]
    rcases hs with hs | ⟨rfl, _⟩
    · have := hS b o hs; omega
    · omega
  · constructor
    · rintro (hs | ⟨rfl, _⟩)
      · exact hs
      · omega
    · exact .inl
  · refine Rep1.toS ?_
    show RepC _ _ _ _ (.sl none e (l.map .str)) [_]
    have hm := mem_row (S := S) (pre := []) (c := l.map strV) (post := List.replicate (N - l.length) z) hh (by rw [← hcs]; simp)
    have := RepC.sl (P := P) (S := fun b o => S b o ∨ (b = w.heap.size ∧ o < cs.size)) (w := w.alloc (.cells cs T (0, 0))) noOw (tag := none) (e := e) (es := l.map V.str) (cs := l.map strV) (b := w.heap.size) (o := 0) (cap := N)
      (repCs_strs l) (fun x hx => by obtain ⟨s, _, rfl⟩ := List.mem_map.1 hx; rw [he]; rfl) hm (by simpa using hl) hN (TagOk.none_ _ _ _ _)
    simpa using this
theorem strs_of {l : List ByteArray} {k : List (List UInt8)} (h : l.map (·.data.toList) = k) : k.map strV = l.map Value.string := by
  subst h
  rw [List.map_map]
  refine List.map_congr_left fun b _ => ?_
  show Value.string ⟨b.data.toList.toArray⟩ = _
  simp

noncomputable def fSplit (s c : List UInt8) : Option (List (List UInt8)) := if s.length < 4294967281 ∧ 1 ≤ c.length then some (Lib.splitK c 0 (Lib.count s c) s) else none
noncomputable def entSplit : TEnt := ⟨50, [.str, .str], .sl 9 .str, fun x => fSplit x.1 x.2, .plain⟩
theorem simSplit (s c : List UInt8) (y : List (List UInt8)) (h : fSplit s c = some y) : SimCalls Tryz.prog GT 50 [.str s, .str c] (.sl none 9 (y.map .str)) := by
  unfold fSplit at h
  split at h
  · rename_i hc
    cases h
    have hd : (Lib.splitB ⟨c.toArray⟩ 0 (Lib.countB ⟨s.toArray⟩ ⟨c.toArray⟩) ⟨s.toArray⟩).map (·.data.toList) = Lib.splitK c 0 (Lib.count s c) s := by
      rw [Lib.splitB_data]
    have hlen : (Lib.splitK c 0 (Lib.count s c) s).length = Lib.countB ⟨s.toArray⟩ ⟨c.toArray⟩ + 1 := by
      rw [← hd, List.length_map]
      exact Lib.splitB_all _ (by rw [arr_size]; exact hc.2) 0 _ _ rfl
    refine sim_strs (P := Tryz.prog) (G := GT) (f := 50) (args := [.str s, .str c]) (cargs := [.string ⟨s.toArray⟩, .string ⟨c.toArray⟩]) (e := 9) (l := Lib.splitK c 0 (Lib.count s c) s) (by kernel_rfl) ?_ rfl fun w hg => ?_
    · have h1 := Lib.countB_le (⟨c.toArray⟩ : ByteArray) (by rw [arr_size]; exact hc.2) _ (⟨s.toArray⟩ : ByteArray) (Nat.le_refl _)
      rw [arr_size] at h1
      rw [hlen]
      unfold maxLen
      omega
    · obtain ⟨_, h1, m, rfl⟩ := hg.2.1
      refine (Tryz.strings_Split ⟨s.toArray⟩ ⟨c.toArray⟩ m w (by rw [arr_size]; exact hc.1) h1 (by rw [arr_size]; exact hc.2)).mono ?_
      rintro e w' ⟨rfl, rfl⟩
      rw [hlen, strs_of hd]
      exact ⟨rfl, _, rfl⟩
  · cases h
theorem okSplit : TEnt.Ok Tryz.prog GT entSplit :=
  .plain rfl (callable_of (fn := Tryz.f50) Tryz.func50 (by kernel_rfl)) fun x y h => simSplit x.1 x.2 y h

noncomputable def fAtoi (s : List UInt8) : Option (Int × Option (List UInt8)) := if s.length ≤ 281474976710656 then some (atoiN s) else none
noncomputable def entAtoi : TEnt := ⟨62, [.str], .tup (.pair (.int .i64) (.opt 121 (.rp .str))), fun x => fAtoi x, .plain⟩
theorem atoi_none (s : ByteArray) (hlim : s.size ≤ 281474976710656) (h1 : ∀ v, Lib.atoiAll s.data.toList ≠ .ok v) (h2 : Lib.atoiAll s.data.toList ≠ .range) (ev : Value) (w : World) (hv : w.cell? ⟨2, 0, none⟩ = some ev) (hev : ev = .nilIface ∨ ∃ te pe, ev = .iface te pe) :
    Calls Tryz.prog 62 #[.string s] w fun e w' => ∃ N, e = .returned (.tuple #[.int .i64 (0), .iface 121 (.pointer (some ⟨N, 0, none⟩))]) ∧ w.heap.size ≤ N ∧ w'.heap[N]? = some (.cells #[.string ⟨#[65, 116, 111, 105]⟩, .string s, ev] 140 (0, 0)) ∧ Below w.heap.size w w' := by
  cases hx : Lib.atoiAll s.data.toList with
  | ok v => exact absurd hx (h1 v)
  | range => exact absurd hx h2
  | _ => exact Any.strconv_Atoi_syntax Tryz.laysC172 s hlim hx ev w hv hev
theorem simAtoi (x : List UInt8) (y : Int × Option (List UInt8)) (h : fAtoi x = some y) : SimCalls Tryz.prog GT 62 [.str x] (.tup [.int .i64 y.1, optV 121 (y.2.map fun s => .rp (.str s))]) := by
  unfold fAtoi at h
  split at h
  · rename_i hc
    cases h
    have hsz := arr_size x
    unfold atoiN
    cases hv : Lib.atoiAll x with
    | ok v =>
      refine sim_flats (args := [.str x]) (cargs := [.string ⟨x.toArray⟩]) (res := [.int .i64 v, .nili]) (cs := [.int .i64 v, .nilIface]) rfl rfl fun w hg => ?_
      refine (Tryz.strconv_Atoi_ok ⟨x.toArray⟩ (by rw [hsz]; omega) v (by simpa using hv) w).mono ?_
      rintro e w' ⟨rfl, h | ⟨t, h⟩⟩
      · subst h; exact ⟨rfl, Below.refl _ _⟩
      · subst h; exact ⟨rfl, Lib.bytesWorld_below _ _ _⟩
    | range =>
      refine sim_err (f := 62) (args := [.str x]) (cargs := [.string ⟨x.toArray⟩]) (k := .i64) (n := Lib.atoiSat x) (t := 121) (s := [65, 116, 111, 105]) rfl fun w hg => ?_
      obtain ⟨v, h1, te, pe, rfl⟩ := hg.2.2.2.1
      refine (Tryz.strconv_Atoi_range ⟨x.toArray⟩ (by rw [hsz]; omega) (by simpa using hv) _ w h1 (.inr ⟨te, pe, rfl⟩)).mono ?_
      rintro e w' ⟨N, h1, h2, h3, h4⟩
      exact ⟨N, _, _, by simpa using h1, h2, h3, rfl, h4⟩
    | _ =>
      refine sim_err (f := 62) (args := [.str x]) (cargs := [.string ⟨x.toArray⟩]) (k := .i64) (n := 0) (t := 121) (s := [65, 116, 111, 105]) rfl fun w hg => ?_
      obtain ⟨v, h1, te, pe, rfl⟩ := hg.2.2.1
      refine (atoi_none ⟨x.toArray⟩ (by rw [hsz]; omega) (by simp [hv]) (by simp [hv]) _ w h1 (.inr ⟨te, pe, rfl⟩)).mono ?_
      rintro e w' ⟨N, rfl, h2, h3, h4⟩
      exact ⟨N, _, _, rfl, h2, h3, rfl, h4⟩
  · cases h
theorem okAtoi : TEnt.Ok Tryz.prog GT entAtoi :=
  .plain rfl (callable_of (fn := Tryz.f62) Tryz.func62 (by kernel_rfl)) fun x y h => simAtoi x y h

noncomputable def fRepeat (s : List UInt8) (n : Int) : Option (List UInt8) := if 0 ≤ n ∧ n ≤ 9223372036854775807 ∧ s.length * n.toNat ≤ 140737488355328 then some (Lib.repeatL s n.toNat) else none
noncomputable def entRepeat : TEnt := ⟨64, [.str, .int .i64], .str, fun x => fRepeat x.1 x.2, .plain⟩
theorem sim_repeat (s : List UInt8) (c : Nat) (h1 : c ≤ 9223372036854775807) (h2 : s.length * c ≤ 140737488355328) : SimCalls Tryz.prog GT 64 [.str s, .int .i64 (c : Int)] (.str (Lib.repeatL s c)) := by
  refine sim_flat (cargs := [.string ⟨s.toArray⟩, .int .i64 c]) (c := .string ⟨(Lib.repeatL s c).toArray⟩) rfl rfl fun w _ => ?_
  have := Tryz.strings_Repeat ⟨s.toArray⟩ c w h1 (by rw [arr_size]; exact h2)
  simpa using this
theorem okRepeat : TEnt.Ok Tryz.prog GT entRepeat := by
  refine .plain rfl (callable_of (fn := Tryz.f64) Tryz.func64 (by kernel_rfl)) fun x y h => ?_
  obtain ⟨s, n⟩ := x
  replace h : fRepeat s n = some y := h
  unfold fRepeat at h
  split at h
  · rename_i hc
    cases h
    have := sim_repeat s (Int.toNat n) (by have := hc.2.1; omega) hc.2.2
    rw [show ((Int.toNat n : Nat) : Int) = n from Int.toNat_of_nonneg hc.1] at this
    exact this
  · cases h

noncomputable def fTZ (n : Int) : Option Int := if 0 ≤ n ∧ n < 18446744073709551616 then some (Lib.ctz 64 n.toNat : Nat) else none
noncomputable def entTZ : TEnt := ⟨118, [.int .u64], .int .i64, fun x => fTZ x, .plain⟩
theorem sim_tz (c : Nat) (h : c < 18446744073709551616) : SimCalls Tryz.prog GT 118 [.int .u64 (c : Int)] (.int .i64 ((Lib.ctz 64 c : Nat) : Int)) := by
  refine sim_flat (cargs := [.int .u64 (c : Int)]) (c := .int .i64 (Lib.ctz 64 c : Nat)) rfl rfl fun w hg => ?_
  refine (Tryz.bits_TrailingZerosX c h w (fun _ => hg.2.2.2.2)).mono ?_
  rintro e w' ⟨rfl, rfl⟩
  exact ⟨rfl, RowKit.Below.refl _ _⟩
theorem okTZ : TEnt.Ok Tryz.prog GT entTZ := by
  refine .plain rfl (callable_of (fn := Tryz.f118) Tryz.func118 (by kernel_rfl)) fun x y h => ?_
  replace h : fTZ x = some y := h
  unfold fTZ at h
  split at h
  · rename_i hc
    cases h
    have := sim_tz (Int.toNat x) (by have := hc.2; omega)
    rw [show ((Int.toNat x : Nat) : Int) = x from Int.toNat_of_nonneg hc.1] at this
    exact this
  · cases h

noncomputable def fCutP (s p : List UInt8) : Option (List UInt8 × Bool) := some (Lib.trimPrefix s p, Lib.hasPrefix s p)
noncomputable def entCutP : TEnt := ⟨42, [.str, .str], .tup (.pair .str .bool), fun x => fCutP x.1 x.2, .plain⟩
theorem simCutP (s p : List UInt8) (y : List UInt8 × Bool) (h : fCutP s p = some y) : SimCalls Tryz.prog GT 42 [.str s, .str p] (.tup [.str y.1, .bool y.2]) := by
  cases h
  refine sim_flats (args := [.str s, .str p]) (cargs := [.string ⟨s.toArray⟩, .string ⟨p.toArray⟩]) (res := [.str (Lib.trimPrefix s p), .bool (Lib.hasPrefix s p)])
    (cs := [.string ⟨(Lib.trimPrefix s p).toArray⟩, .bool (Lib.hasPrefix s p)]) rfl rfl fun w hg => ?_
  refine (Tryz.strings_CutPrefix ⟨s.toArray⟩ ⟨p.toArray⟩ w).mono ?_
  rintro e w' ⟨rfl, rfl⟩
  exact ⟨rfl, Below.refl _ _⟩
theorem okCutP : TEnt.Ok Tryz.prog GT entCutP :=
  .plain rfl (callable_of (fn := Tryz.f42) Tryz.func42 (by kernel_rfl)) fun x y h => simCutP x.1 x.2 y h

noncomputable def entWriteString : TEnt := ⟨34, [], .unit, fun _ => none, .bld 50 5⟩
theorem okWriteString : TEnt.Ok Tryz.prog GT entWriteString :=
  .bld .wstr (callable_of (fn := Tryz.f34) Tryz.func34 (by kernel_rfl)) (by kernel_rfl) (bx_wstr Tryz.lays166 Tryz.Builder_Extra_166)

noncomputable def entString : TEnt := ⟨35, [], .unit, fun _ => none, .bld 50 5⟩
theorem okString : TEnt.Ok Tryz.prog GT entString :=
  .bld .str (callable_of (fn := Tryz.f35) Tryz.func35 (by kernel_rfl)) (by kernel_rfl) (bx_str Tryz.lays169 Tryz.Builder_Extra_169)
end Go.Proofs.YthpgkpcnajookaaGreatDoor
