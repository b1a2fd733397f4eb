/-
  The library's functions that the chapter's code calls: contracts in the runs' own words. No condition.
-/
import Derived.Test.YtggdnnjabdcgjaaGreatDoorK5
import Derived.Test.YtggdnnjabdcgjaaGreatDoorShelf
import Derived.KernelRfl
import Derived.Lib.LaidU8T
import Derived.Shelf.Unicode.ValidAny
namespace Go.Proofs.YtggdnnjabdcgjaaGreatDoor
open Go Go.Nu Go.RowKit
set_option maxRecDepth 100000

/-- What is known of the library's variables. -/
def GT (w : World) : Prop := w.var? Tryz.prog "internal/strconv.uint64pow10" = some (Lib.pow10Tab.map fun z => Value.int .u64 z).toArray ∧ (∃ v, w.cell? ⟨0, 0, none⟩ = some v ∧ ∃ m, v = .int .i64 m) ∧
  (∃ v, w.cell? ⟨1, 0, none⟩ = some v ∧ ∃ te pe, v = .iface te pe) ∧ (∃ v, w.cell? ⟨2, 0, none⟩ = some v ∧ ∃ te pe, v = .iface te pe) ∧ Lib.Utf8Tabs 3 4 w
theorem keeps_tabs {a b : Nat} : Keeps (Lib.Utf8Tabs a b) := by
  intro w w' h hb
  refine ⟨fun c hc => ?_, fun i hi => ⟨?_, ?_⟩⟩
  · obtain ⟨v, h1, h2⟩ := keeps_cell (p := fun v => v = _) w w' ⟨_, h.1 c hc, rfl⟩ hb
    rw [h1, h2]
  · obtain ⟨v, h1, h2⟩ := keeps_cell (p := fun v => v = _) w w' ⟨_, (h.2 i hi).1, rfl⟩ hb
    rw [h1, h2]
  · obtain ⟨v, h1, h2⟩ := keeps_cell (p := fun v => v = _) w w' ⟨_, (h.2 i hi).2, rfl⟩ hb
    rw [h1, h2]
theorem keepsGT : Keeps GT := keeps_and keeps_var (keeps_and keeps_cell (keeps_and keeps_cell (keeps_and keeps_cell keeps_tabs)))
theorem arr_size (l : List UInt8) : (⟨l.toArray⟩ : ByteArray).size = l.length := by show l.toArray.size = _; simp

def atoiN (s : List UInt8) : Int × Option (List UInt8) := match Lib.atoiAll s with
  | .ok v => (v, none)
  | .range => (Lib.atoiSat s, some [65, 116, 111, 105])
  | _ => (0, some [65, 116, 111, 105])

noncomputable def fItoa (n : Int) : Option (List UInt8) := if -9223372036854775808 ≤ n ∧ n ≤ 9223372036854775807 then some (Lib.itoa n) else none
noncomputable def entItoa : TEnt := ⟨39, [.int .i64], .str, fun x => fItoa x, .plain⟩
theorem simItoa (x : Int) (y : List UInt8) (h : fItoa x = some y) : SimCalls Tryz.prog GT 39 [.int .i64 x] (.str y) := by
  unfold fItoa at h
  split at h
  · rename_i hc
    cases h
    refine sim_flat (args := [.int .i64 x]) (cargs := [.int .i64 x]) (c := .string ⟨(Lib.itoa x).toArray⟩) rfl rfl fun w hg => ?_
    refine (Tryz.strconv_Itoa x hc.1 hc.2 w hg.1).mono ?_
    rintro e w' ⟨rfl, k, os, rfl⟩
    exact ⟨rfl, below_grow (Go.Nu.below_drewN (Below.refl _ _) k) (Nat.le_refl _) os⟩
  · cases h
theorem okItoa : TEnt.Ok Tryz.prog GT entItoa :=
  .plain rfl (callable_of (fn := Tryz.f39) Tryz.func39 (by kernel_rfl)) fun x y h => simItoa x y h

noncomputable def fTrim (s c : List UInt8) : Option (List UInt8) := if s.length ≤ 9223372036854775807 ∧ c.length < 4294967281 ∧ c.all (fun b => decide (b.toNat < 128)) = true then some (Lib.trimS s c) else none
noncomputable def entTrim : TEnt := ⟨67, [.str, .str], .str, fun x => fTrim x.1 x.2, .plain⟩
theorem simTrim (s c y : List UInt8) (h : fTrim s c = some y) : SimCalls Tryz.prog GT 67 [.str s, .str c] (.str y) := by
  unfold fTrim at h
  split at h
  · rename_i hc
    cases h
    refine sim_flat (args := [.str s, .str c]) (cargs := [.string ⟨s.toArray⟩, .string ⟨c.toArray⟩]) (c := .string ⟨(Lib.trimS s c).toArray⟩) rfl rfl fun w _ => ?_
    have := Tryz.strings_TrimX ⟨s.toArray⟩ ⟨c.toArray⟩ w (by rw [arr_size]; exact hc.1) (by rw [arr_size]; exact hc.2.1) (by
      intro j b hb
      have h3 := hc.2.2
      rw [List.all_eq_true] at h3
      exact of_decide_eq_true (h3 b (List.mem_of_getElem? (by simpa using hb))))
    simpa using this
  · cases h
theorem okTrim : TEnt.Ok Tryz.prog GT entTrim :=
  .plain rfl (callable_of (fn := Tryz.f67) Tryz.func67 (by kernel_rfl)) fun x y h => simTrim x.1 x.2 y h

noncomputable def fCut (s c : List UInt8) : Option (List UInt8 × List UInt8 × Bool) := if s.length < 4294967281 then some (Lib.cut s c) else none
noncomputable def entCut : TEnt := ⟨46, [.str, .str], .tup (.pair .str (.pair .str .bool)), fun x => fCut x.1 x.2, .plain⟩
theorem simCut (s c : List UInt8) (y : List UInt8 × List UInt8 × Bool) (h : fCut s c = some y) : SimCalls Tryz.prog GT 46 [.str s, .str c] (.tup [.str y.1, .str y.2.1, .bool y.2.2]) := by
  unfold fCut at h
  split at h
  · rename_i hc
    cases h
    refine sim_flats (args := [.str s, .str c]) (cargs := [.string ⟨s.toArray⟩, .string ⟨c.toArray⟩]) (res := [.str (Lib.cut s c).1, .str (Lib.cut s c).2.1, .bool (Lib.cut s c).2.2])
      (cs := [.string ⟨(Lib.cut s c).1.toArray⟩, .string ⟨(Lib.cut s c).2.1.toArray⟩, .bool (Lib.cut s c).2.2]) rfl rfl fun w hg => ?_
    obtain ⟨_, h1, m, rfl⟩ := hg.2.1
    refine (Tryz.strings_Cut ⟨s.toArray⟩ ⟨c.toArray⟩ m w (by rw [arr_size]; exact hc) h1).mono ?_
    rintro e w' ⟨rfl, n, rfl⟩
    exact ⟨rfl, Go.Nu.below_drewN (Below.refl _ _) n⟩
  · cases h
theorem okCut : TEnt.Ok Tryz.prog GT entCut :=
  .plain rfl (callable_of (fn := Tryz.f46) Tryz.func46 (by kernel_rfl)) fun x y h => simCut x.1 x.2 y h

noncomputable def fRepl (s c d : List UInt8) : Option (List UInt8) := if s.length < 4294967281 ∧ 1 ≤ c.length ∧ d.length ≤ 2 then some (Lib.replaceAll s c d) else none
noncomputable def entRepl : TEnt := ⟨40, [.str, .str, .str], .str, fun x => fRepl x.1 x.2.1 x.2.2, .plain⟩
theorem simRepl (s c d y : List UInt8) (h : fRepl s c d = some y) : SimCalls Tryz.prog GT 40 [.str s, .str c, .str d] (.str y) := by
  unfold fRepl at h
  split at h
  · rename_i hc
    cases h
    refine sim_flat (args := [.str s, .str c, .str d]) (cargs := [.string ⟨s.toArray⟩, .string ⟨c.toArray⟩, .string ⟨d.toArray⟩]) (c := .string ⟨(Lib.replaceAll s c d).toArray⟩) rfl rfl fun w hg => ?_
    obtain ⟨_, h1, m, rfl⟩ := hg.2.1
    have hle := Lib.countB_le (⟨c.toArray⟩ : ByteArray) (by rw [arr_size]; exact hc.2.1) _ (⟨s.toArray⟩ : ByteArray) (Nat.le_refl _)
    rw [arr_size] at hle
    have hm : Lib.countB ⟨s.toArray⟩ ⟨c.toArray⟩ * d.length ≤ s.length * 2 := Nat.mul_le_mul hle hc.2.2
    have := Tryz.strings_ReplaceAll ⟨s.toArray⟩ ⟨c.toArray⟩ ⟨d.toArray⟩ m w (by rw [arr_size]; exact hc.1) h1 (by rw [arr_size]; exact hc.2.1) (by rw [arr_size, arr_size]; omega)
    simpa using this
  · cases h
theorem okRepl : TEnt.Ok Tryz.prog GT entRepl :=
  .plain rfl (callable_of (fn := Tryz.f40) Tryz.func40 (by kernel_rfl)) fun x y h => simRepl x.1 x.2.1 x.2.2 y h

noncomputable def fHas (s c : List UInt8) : Option Bool := some (c.isPrefixOf s)
noncomputable def entHas : TEnt := ⟨66, [.str, .str], .bool, fun x => fHas x.1 x.2, .plain⟩
theorem simHas (s c : List UInt8) (y : Bool) (h : fHas s c = some y) : SimCalls Tryz.prog GT 66 [.str s, .str c] (.bool y) := by
  cases h
  refine sim_flat (args := [.str s, .str c]) (cargs := [.string ⟨s.toArray⟩, .string ⟨c.toArray⟩]) (c := .bool (c.isPrefixOf s)) rfl rfl fun w hg => ?_
  refine (Tryz.strings_HasPrefix ⟨s.toArray⟩ ⟨c.toArray⟩ w).mono ?_
  rintro e w' ⟨rfl, rfl⟩
  exact ⟨by simp [Lib.hasPrefix], Below.refl _ _⟩
theorem okHas : TEnt.Ok Tryz.prog GT entHas :=
  .plain rfl (callable_of (fn := Tryz.f66) Tryz.func66 (by kernel_rfl)) fun x y h => simHas x.1 x.2 y h

noncomputable def fVal (s : List UInt8) : Option Bool := if s.length ≤ 9223372036854775807 then some (Lib.validD s) else none
noncomputable def entVal : TEnt := ⟨93, [.str], .bool, fun x => fVal x, .plain⟩
theorem simVal (s : List UInt8) (y : Bool) (h : fVal s = some y) : SimCalls Tryz.prog GT 93 [.str s] (.bool y) := by
  unfold fVal at h
  split at h
  · rename_i hc
    cases h
    refine sim_flat (args := [.str s]) (cargs := [.string ⟨s.toArray⟩]) (c := .bool (Lib.validD s)) rfl rfl fun w hg => ?_
    have := Tryz.utf8_ValidStringX ⟨s.toArray⟩ w (by rw [arr_size]; exact hc) hg.2.2.2.2
    simpa using this
  · cases h
theorem okVal : TEnt.Ok Tryz.prog GT entVal :=
  .plain rfl (callable_of (fn := Tryz.f93) Tryz.func93 (by kernel_rfl)) fun x y h => simVal x y h

/-- A function of flat values that returns a new slice of strings, with room behind. -/
theorem sim_strsC {P : Program} {G : World → Prop} {f : FuncId} {args : List V} {cargs : List Value} {e : TypeId} {l : List (List UInt8)} {N : Nat} (he : P.cellsOf e = 1) (hl : l.length ≤ N) (hN : N ≤ maxLen) (ha : flatCs args = some cargs)
    (h : ∀ w, G w → Calls P f cargs.toArray w fun en w' => en = .returned (.slice (some ⟨w.heap.size, 0, none⟩) l.length N) ∧ ∃ T z, w' = w.alloc (.cells (l.map strV ++ List.replicate (N - l.length) z).toArray T (0, 0))) : SimCalls P G f args (.sl none e (l.map .str)) := by
  intro w S cargs' hg hS har
  rw [flats_rep ha har]
  refine (h w hg).mono ?_
  rintro en w' ⟨rfl, T, z, rfl⟩
  generalize hcs : (l.map strV ++ List.replicate (N - l.length) z).toArray = cs
  have hh : (w.alloc (.cells cs T (0, 0))).heap[w.heap.size]? = some (.cells cs T (0, 0)) := by
    show (w.heap.push _)[w.heap.size]? = _
    rw [Array.getElem?_push_size]
  have hsz : (w.alloc (.cells cs T (0, 0))).heap.size = w.heap.size + 1 := by simp
  refine ⟨_, rfl, (Below.refl _ w).alloc (Nat.le_refl _) _, fun b o => S b o ∨ (b = w.heap.size ∧ o < cs.size), fun b o hs => ?_, fun b o hb => ?_, ?_⟩
  · rw [hsz]
    rcases hs with hs | ⟨rfl, _⟩
    · have := hS b o hs; omega
    · omega
  · constructor
    · rintro (hs | ⟨rfl, _⟩)
      · exact hs
      · omega
    · exact .inl
  · refine Rep1.toS ?_
    show RepC _ _ _ _ (.sl none e (l.map .str)) [_]
    have hm := mem_row (S := S) (pre := []) (c := l.map strV) (post := List.replicate (N - l.length) z) hh (by rw [← hcs]; simp)
    have := RepC.sl (P := P) (S := fun b o => S b o ∨ (b = w.heap.size ∧ o < cs.size)) (w := w.alloc (.cells cs T (0, 0))) noOw (tag := none) (e := e) (es := l.map V.str) (cs := l.map strV) (b := w.heap.size) (o := 0) (cap := N)
      (repCs_strs l) (fun x hx => by obtain ⟨s, _, rfl⟩ := List.mem_map.1 hx; rw [he]; rfl) hm (by simpa using hl) hN (TagOk.none_ _ _ _ _)
    simpa using this
theorem strs_of {l : List ByteArray} {k : List (List UInt8)} (h : l.map (·.data.toList) = k) : k.map strV = l.map Value.string := by
  subst h
  rw [List.map_map]
  refine List.map_congr_left fun b _ => ?_
  show Value.string ⟨b.data.toList.toArray⟩ = _
  simp

noncomputable def fSplitN (s c : List UInt8) (n : Int) : Option (List (List UInt8)) := if s.length < 4294967281 ∧ 1 ≤ c.length ∧ 1 ≤ n ∧ n ≤ 9223372036854775807 then some (Lib.splitK c 0 (min n.toNat (s.length + 1) - 1) s) else none
noncomputable def entSplitN : TEnt := ⟨45, [.str, .str, .int .i64], .sl 9 .str, fun x => fSplitN x.1 x.2.1 x.2.2, .plain⟩
theorem simSplitN (s c : List UInt8) (n : Int) (y : List (List UInt8)) (h : fSplitN s c n = some y) : SimCalls Tryz.prog GT 45 [.str s, .str c, .int .i64 n] (.sl none 9 (y.map .str)) := by
  unfold fSplitN at h
  split at h
  · rename_i hc
    cases h
    obtain ⟨k, rfl⟩ : ∃ k : Nat, n = k := ⟨n.toNat, by omega⟩
    rw [Int.toNat_natCast]
    have hd : (Lib.splitB ⟨c.toArray⟩ 0 (min k (s.length + 1) - 1) ⟨s.toArray⟩).map (·.data.toList) = Lib.splitK c 0 (min k (s.length + 1) - 1) s := by
      rw [Lib.splitB_data]
    have hlen : (Lib.splitK c 0 (min k (s.length + 1) - 1) s).length ≤ min k (s.length + 1) := by
      have := Lib.splitB_length_le ⟨c.toArray⟩ 0 (min k (s.length + 1) - 1) ⟨s.toArray⟩
      rw [← hd, List.length_map]
      omega
    refine sim_strsC (P := Tryz.prog) (G := GT) (f := 45) (args := [.str s, .str c, .int .i64 k]) (cargs := [.string ⟨s.toArray⟩, .string ⟨c.toArray⟩, .int .i64 k]) (e := 9) (l := Lib.splitK c 0 (min k (s.length + 1) - 1) s) (N := min k (s.length + 1)) (by kernel_rfl) hlen ?_ rfl fun w hg => ?_
    · unfold maxLen; omega
    · obtain ⟨_, h1, m, rfl⟩ := hg.2.1
      have hx := Tryz.strings_SplitN ⟨s.toArray⟩ ⟨c.toArray⟩ k m w (by rw [arr_size]; exact hc.1) h1 (by rw [arr_size]; exact hc.2.1) (by omega) (by omega)
      rw [arr_size] at hx
      refine hx.mono ?_
      rintro e w' ⟨rfl, rfl⟩
      rw [strs_of hd]
      have hl : (Lib.splitB ⟨c.toArray⟩ 0 (min k (s.length + 1) - 1) ⟨s.toArray⟩).length = (Lib.splitK c 0 (min k (s.length + 1) - 1) s).length := by rw [← hd, List.length_map]
      refine ⟨by rw [hl], 9, .string ByteArray.empty, ?_⟩
      unfold Lib.cellsOf
      rw [hl]
  · cases h
theorem okSplitN : TEnt.Ok Tryz.prog GT entSplitN :=
  .plain rfl (callable_of (fn := Tryz.f45) Tryz.func45 (by kernel_rfl)) fun x y h => simSplitN x.1 x.2.1 x.2.2 y h

noncomputable def fAtoi (s : List UInt8) : Option (Int × Option (List UInt8)) := if s.length ≤ 281474976710656 then some (atoiN s) else none
noncomputable def entAtoi : TEnt := ⟨47, [.str], .tup (.pair (.int .i64) (.opt 95 (.rp .str))), fun x => fAtoi x, .plain⟩
theorem atoi_none (s : ByteArray) (hlim : s.size ≤ 281474976710656) (h1 : ∀ v, Lib.atoiAll s.data.toList ≠ .ok v) (h2 : Lib.atoiAll s.data.toList ≠ .range) (ev : Value) (w : World) (hv : w.cell? ⟨1, 0, none⟩ = some ev) (hev : ev = .nilIface ∨ ∃ te pe, ev = .iface te pe) :
    Calls Tryz.prog 47 #[.string s] w fun e w' => ∃ N, e = .returned (.tuple #[.int .i64 (0), .iface 95 (.pointer (some ⟨N, 0, none⟩))]) ∧ w.heap.size ≤ N ∧ w'.heap[N]? = some (.cells #[.string ⟨#[65, 116, 111, 105]⟩, .string s, ev] 119 (0, 0)) ∧ Below w.heap.size w w' := by
  cases hx : Lib.atoiAll s.data.toList with
  | ok v => exact absurd hx (h1 v)
  | range => exact absurd hx h2
  | _ => exact Any.strconv_Atoi_syntax Tryz.laysC172 s hlim hx ev w hv hev
theorem simAtoi (x : List UInt8) (y : Int × Option (List UInt8)) (h : fAtoi x = some y) : SimCalls Tryz.prog GT 47 [.str x] (.tup [.int .i64 y.1, optV 95 (y.2.map fun s => .rp (.str s))]) := by
  unfold fAtoi at h
  split at h
  · rename_i hc
    cases h
    have hsz := arr_size x
    unfold atoiN
    cases hv : Lib.atoiAll x with
    | ok v =>
      refine sim_flats (args := [.str x]) (cargs := [.string ⟨x.toArray⟩]) (res := [.int .i64 v, .nili]) (cs := [.int .i64 v, .nilIface]) rfl rfl fun w hg => ?_
      refine (Tryz.strconv_Atoi_ok ⟨x.toArray⟩ (by rw [hsz]; omega) v (by simpa using hv) w).mono ?_
      rintro e w' ⟨rfl, h | ⟨t, h⟩⟩
      · subst h; exact ⟨rfl, Below.refl _ _⟩
      · subst h; exact ⟨rfl, Lib.bytesWorld_below _ _ _⟩
    | range =>
      refine sim_err (f := 47) (args := [.str x]) (cargs := [.string ⟨x.toArray⟩]) (k := .i64) (n := Lib.atoiSat x) (t := 95) (s := [65, 116, 111, 105]) rfl fun w hg => ?_
      obtain ⟨v, h1, te, pe, rfl⟩ := hg.2.2.2.1
      refine (Tryz.strconv_Atoi_range ⟨x.toArray⟩ (by rw [hsz]; omega) (by simpa using hv) _ w h1 (.inr ⟨te, pe, rfl⟩)).mono ?_
      rintro e w' ⟨N, h1, h2, h3, h4⟩
      exact ⟨N, _, _, by simpa using h1, h2, h3, rfl, h4⟩
    | _ =>
      refine sim_err (f := 47) (args := [.str x]) (cargs := [.string ⟨x.toArray⟩]) (k := .i64) (n := 0) (t := 95) (s := [65, 116, 111, 105]) rfl fun w hg => ?_
      obtain ⟨v, h1, te, pe, rfl⟩ := hg.2.2.1
      refine (atoi_none ⟨x.toArray⟩ (by rw [hsz]; omega) (by simp [hv]) (by simp [hv]) _ w h1 (.inr ⟨te, pe, rfl⟩)).mono ?_
      rintro e w' ⟨N, rfl, h2, h3, h4⟩
      exact ⟨N, _, _, rfl, h2, h3, rfl, h4⟩
  · cases h
theorem okAtoi : TEnt.Ok Tryz.prog GT entAtoi :=
  .plain rfl (callable_of (fn := Tryz.f47) Tryz.func47 (by kernel_rfl)) fun x y h => simAtoi x y h

noncomputable def fJoin (l : List (List UInt8)) (s : List UInt8) : Option (List UInt8) := if l.length ≤ 140737488355328 ∧ (Lib.join l s).length ≤ 140737488355328 then some (Lib.join l s) else none
noncomputable def entJoin : TEnt := ⟨33, [.sl 9 .str, .str], .str, fun x => fJoin x.1 x.2, .plain⟩
theorem simJoin (l : List (List UInt8)) (s y : List UInt8) (h : fJoin l s = some y) : SimCalls Tryz.prog GT 33 [.sl none 9 (l.map .str), .str s] (.str y) := by
  unfold fJoin at h
  split at h
  · rename_i hc
    cases h
    refine sim_join (P := Tryz.prog) (G := GT) (f := 33) (e := 9) (l := l) (s := s) (res := .str (Lib.join l s)) (c := .string ⟨(Lib.join l s).toArray⟩) rfl (fun hl w a cap hg => ?_) fun w b o cap hg h1 h2 h3 => ?_
    · subst hl
      refine (Tryz.strings_Join_none a cap ⟨s.toArray⟩ w).mono ?_
      rintro e w' ⟨rfl, rfl⟩
      exact ⟨rfl, Below.refl _ _⟩
    · by_cases hl : l = []
      · subst hl
        refine (Tryz.strings_Join_none _ cap ⟨s.toArray⟩ w).mono ?_
        rintro e w' ⟨rfl, rfl⟩
        exact ⟨rfl, Below.refl _ _⟩
      · have hm : (l.map fun x => (⟨x.toArray⟩ : ByteArray)).map (·.data.toList) = l := by rw [List.map_map]; simp [Function.comp_def]
        have := Tryz.strings_Join b o cap (l.map fun x => ⟨x.toArray⟩) ⟨s.toArray⟩ w (fun j x hx => by
          rw [List.getElem?_map, Option.map_eq_some_iff] at hx
          obtain ⟨y, hy, rfl⟩ := hx
          exact h1 j y hy) (h2 hl) (by simpa using hc.1) (by simpa using h3) (by rw [hm]; exact hc.2)
        rw [hm] at this
        simpa [strV] using this
  · cases h
theorem okJoin : TEnt.Ok Tryz.prog GT entJoin :=
  .plain rfl (callable_of (fn := Tryz.f33) Tryz.func33 (by kernel_rfl)) fun x y h => simJoin x.1 x.2 y h

noncomputable def fIdxB (s : List UInt8) (c : UInt8) : Option Int := some (Lib.indexByte s c)
noncomputable def entIdxB : TEnt := ⟨31, [.str, .byte], .int .i64, fun x => fIdxB x.1 x.2, .plain⟩
theorem simIdxB (s : List UInt8) (c : UInt8) (y : Int) (h : fIdxB s c = some y) : SimCalls Tryz.prog GT 31 [.str s, byteV c] (.int .i64 y) := by
  cases h
  refine sim_flat (args := [.str s, byteV c]) (cargs := [.string ⟨s.toArray⟩, .int .u8 c.toNat]) (c := .int .i64 (Lib.indexByte s c)) rfl rfl fun w hg => ?_
  refine (Tryz.strings_IndexByte ⟨s.toArray⟩ c.toNat w).mono ?_
  rintro e w' ⟨rfl, rfl⟩
  exact ⟨by simp, Below.refl _ _⟩
theorem okIdxB : TEnt.Ok Tryz.prog GT entIdxB :=
  .plain rfl (callable_of (fn := Tryz.f31) Tryz.func31 (by kernel_rfl)) fun x y h => simIdxB x.1 x.2 y h

noncomputable def entWriteString : TEnt := ⟨38, [], .unit, fun _ => none, .bld 56 5⟩
theorem okWriteString : TEnt.Ok Tryz.prog GT entWriteString :=
  .bld .wstr (callable_of (fn := Tryz.f38) Tryz.func38 (by kernel_rfl)) (by kernel_rfl) (bx_wstr Tryz.lays166 Tryz.Builder_Extra_166)

noncomputable def entWriteByte : TEnt := ⟨41, [], .unit, fun _ => none, .bld 56 5⟩
theorem okWriteByte : TEnt.Ok Tryz.prog GT entWriteByte :=
  .bld .wbyte (callable_of (fn := Tryz.f41) Tryz.func41 (by kernel_rfl)) (by kernel_rfl) (bx_wbyte Tryz.lays167 Tryz.Builder_Extra_167)

noncomputable def entString : TEnt := ⟨42, [], .unit, fun _ => none, .bld 56 5⟩
theorem okString : TEnt.Ok Tryz.prog GT entString :=
  .bld .str (callable_of (fn := Tryz.f42) Tryz.func42 (by kernel_rfl)) (by kernel_rfl) (bx_str Tryz.lays169 Tryz.Builder_Extra_169)
end Go.Proofs.YtggdnnjabdcgjaaGreatDoor
