/-
  Chapter 17: the library's functions that the chapter's code calls: contracts in the runs' own words.
-/
import Derived.Test.YtdffccmlfhdkpaaDoorK4
import Derived.Test.YtdffccmlfhdkpaaDoorShelf
import Derived.KernelRfl
namespace Go.Proofs.YtdffccmlfhdkpaaDoor
open Go Go.Nu Go.RowKit

/-- What is known of the library's variables. -/
def GT (w : World) : Prop := w.var? Tryd.prog "internal/strconv.uint64pow10" = some (Lib.pow10Tab.map fun z => Value.int .u64 z).toArray ∧ (∃ v, w.cell? ⟨0, 0, none⟩ = some v ∧ ∃ m, v = .int .i64 m) ∧
  (∃ v, w.cell? ⟨4, 0, none⟩ = some v ∧ ∃ te pe, v = .iface te pe) ∧ ∃ v, w.cell? ⟨5, 0, none⟩ = some v ∧ ∃ te pe, v = .iface te pe
theorem keepsGT : Keeps GT := keeps_and keeps_var (keeps_and keeps_cell (keeps_and keeps_cell keeps_cell))

def atoiN (s : List UInt8) : Int × Option (List UInt8) := match Lib.atoiAll s with
  | .ok v => (v, none)
  | .range => (Lib.atoiSat s, some [65, 116, 111, 105])
  | _ => (0, some [65, 116, 111, 105])
def splitL (s c : List UInt8) : List (List UInt8) := (Lib.splitB ⟨c.toArray⟩ 0 (Lib.countB ⟨s.toArray⟩ ⟨c.toArray⟩) ⟨s.toArray⟩).map (·.data.toList)
noncomputable def fItoa (n : Int) : Option (List UInt8) := if -9223372036854775808 ≤ n ∧ n ≤ 9223372036854775807 then some (Lib.itoa n) else none
noncomputable def fJoin (l : List (List UInt8)) (s : List UInt8) : Option (List UInt8) := if l.length ≤ 140737488355328 ∧ (Lib.join l s).length ≤ 140737488355328 then some (Lib.join l s) else none
noncomputable def fSplit (s c : List UInt8) : Option (List (List UInt8)) := if s.length < 4294967281 ∧ 1 ≤ c.length then some (splitL s c) else none
noncomputable def fCut (s c : List UInt8) : Option (List UInt8 × List UInt8 × Bool) := if s.length < 4294967281 then some (Lib.cut s c) else none
noncomputable def fTrim (s c : List UInt8) : Option (List UInt8) := if s.length ≤ 9223372036854775807 ∧ c.length < 4294967281 ∧ c.all (fun b => decide (b.toNat < 128)) = true then some (Lib.trimS s c) else none
noncomputable def fAtoi (s : List UInt8) : Option (Int × Option (List UInt8)) := if s.length ≤ 281474976710656 then some (atoiN s) else none
noncomputable def entItoa : TEnt := ⟨33, [.int .i64], .str, fun x => fItoa x, .plain⟩
noncomputable def entJoin : TEnt := ⟨34, [.sl 9 .str, .str], .str, fun x => fJoin x.1 x.2, .plain⟩
noncomputable def entSplit : TEnt := ⟨36, [.str, .str], .sl 9 .str, fun x => fSplit x.1 x.2, .plain⟩
noncomputable def entCut : TEnt := ⟨37, [.str, .str], .tup (.pair .str (.pair .str .bool)), fun x => fCut x.1 x.2, .plain⟩
noncomputable def entTrim : TEnt := ⟨38, [.str, .str], .str, fun x => fTrim x.1 x.2, .plain⟩
noncomputable def entAtoi : TEnt := ⟨62, [.str], .tup (.pair (.int .i64) (.opt 115 (.rp .str))), fun x => fAtoi x, .plain⟩

theorem arr_size (l : List UInt8) : (⟨l.toArray⟩ : ByteArray).size = l.length := by show l.toArray.size = _; simp

theorem simItoa (x : Int) (y : List UInt8) (h : fItoa x = some y) : SimCalls Tryd.prog GT 33 [.int .i64 x] (.str y) := by
  unfold fItoa at h
  split at h
  · rename_i hc
    cases h
    refine sim_flat (args := [.int .i64 x]) (cargs := [.int .i64 x]) (c := .string ⟨(Lib.itoa x).toArray⟩) rfl rfl fun w hg => ?_
    refine (Tryd.strconv_Itoa x hc.1 hc.2 w hg.1).mono ?_
    rintro e w' ⟨rfl, k, os, rfl⟩
    exact ⟨rfl, below_grow (below_drewN (Below.refl _ _) k) (Nat.le_refl _) os⟩
  · cases h
theorem okItoa : TEnt.Ok Tryd.prog GT entItoa :=
  .plain rfl (callable_of (fn := Tryd.f33) Tryd.func33 (by kernel_rfl)) fun x y h => simItoa x y h

theorem simTrim (s c y : List UInt8) (h : fTrim s c = some y) : SimCalls Tryd.prog GT 38 [.str s, .str c] (.str y) := by
  unfold fTrim at h
  split at h
  · rename_i hc
    cases h
    refine sim_flat (args := [.str s, .str c]) (cargs := [.string ⟨s.toArray⟩, .string ⟨c.toArray⟩]) (c := .string ⟨(Lib.trimS s c).toArray⟩) rfl rfl fun w _ => ?_
    have := Tryd.strings_TrimX ⟨s.toArray⟩ ⟨c.toArray⟩ w (by rw [arr_size]; exact hc.1) (by rw [arr_size]; exact hc.2.1) (by
      intro j b hb
      have h3 := hc.2.2
      rw [List.all_eq_true] at h3
      exact of_decide_eq_true (h3 b (List.mem_of_getElem? (by simpa using hb))))
    simpa using this
  · cases h
theorem okTrim : TEnt.Ok Tryd.prog GT entTrim :=
  .plain rfl (callable_of (fn := Tryd.f38) Tryd.func38 (by kernel_rfl)) fun x y h => simTrim x.1 x.2 y h

theorem simCut (s c : List UInt8) (y : List UInt8 × List UInt8 × Bool) (h : fCut s c = some y) : SimCalls Tryd.prog GT 37 [.str s, .str c] (.tup [.str y.1, .str y.2.1, .bool y.2.2]) := by
  unfold fCut at h
  split at h
  · rename_i hc
    cases h
    refine sim_flats (args := [.str s, .str c]) (cargs := [.string ⟨s.toArray⟩, .string ⟨c.toArray⟩]) (res := [.str (Lib.cut s c).1, .str (Lib.cut s c).2.1, .bool (Lib.cut s c).2.2])
      (cs := [.string ⟨(Lib.cut s c).1.toArray⟩, .string ⟨(Lib.cut s c).2.1.toArray⟩, .bool (Lib.cut s c).2.2]) rfl rfl fun w hg => ?_
    obtain ⟨_, h1, m, rfl⟩ := hg.2.1
    refine (Tryd.strings_Cut ⟨s.toArray⟩ ⟨c.toArray⟩ m w (by rw [arr_size]; exact hc) h1).mono ?_
    rintro e w' ⟨rfl, n, rfl⟩
    exact ⟨rfl, below_drewN (Below.refl _ _) n⟩
  · cases h
theorem okCut : TEnt.Ok Tryd.prog GT entCut :=
  .plain rfl (callable_of (fn := Tryd.f37) Tryd.func37 (by kernel_rfl)) fun x y h => simCut x.1 x.2 y h

theorem simSplit (s c : List UInt8) (y : List (List UInt8)) (h : fSplit s c = some y) : SimCalls Tryd.prog GT 36 [.str s, .str c] (.sl none 9 (y.map .str)) := by
  unfold fSplit at h
  split at h
  · rename_i hc
    cases h
    have hlen : (splitL s c).length = Lib.countB ⟨s.toArray⟩ ⟨c.toArray⟩ + 1 := by
      unfold splitL
      rw [List.length_map]
      exact Lib.splitB_all _ (by rw [arr_size]; exact hc.2) 0 _ _ rfl
    have hmap : (splitL s c).map strV = (Lib.splitB ⟨c.toArray⟩ 0 (Lib.countB ⟨s.toArray⟩ ⟨c.toArray⟩) ⟨s.toArray⟩).map Value.string := by
      unfold splitL
      rw [List.map_map]
      refine List.map_congr_left fun b _ => ?_
      show Value.string ⟨b.data.toList.toArray⟩ = _
      simp
    refine sim_strs (P := Tryd.prog) (G := GT) (f := 36) (args := [.str s, .str c]) (cargs := [.string ⟨s.toArray⟩, .string ⟨c.toArray⟩]) (e := 9) (l := splitL s c) (by kernel_rfl) ?_ rfl fun w hg => ?_
    · have h1 := Lib.countB_le (⟨c.toArray⟩ : ByteArray) (by rw [arr_size]; exact hc.2) _ (⟨s.toArray⟩ : ByteArray) (Nat.le_refl _)
      rw [arr_size] at h1
      rw [hlen]
      unfold maxLen
      omega
    · obtain ⟨_, h1, m, rfl⟩ := hg.2.1
      refine (Tryd.strings_Split ⟨s.toArray⟩ ⟨c.toArray⟩ m w (by rw [arr_size]; exact hc.1) h1 (by rw [arr_size]; exact hc.2)).mono ?_
      rintro e w' ⟨rfl, rfl⟩
      rw [hlen, hmap]
      exact ⟨rfl, _, rfl⟩
  · cases h
theorem okSplit : TEnt.Ok Tryd.prog GT entSplit :=
  .plain rfl (callable_of (fn := Tryd.f36) Tryd.func36 (by kernel_rfl)) fun x y h => simSplit x.1 x.2 y h

theorem simJoin (l : List (List UInt8)) (s y : List UInt8) (h : fJoin l s = some y) : SimCalls Tryd.prog GT 34 [.sl none 9 (l.map .str), .str s] (.str y) := by
  unfold fJoin at h
  split at h
  · rename_i hc
    cases h
    refine sim_join (P := Tryd.prog) (G := GT) (f := 34) (e := 9) (l := l) (s := s) (res := .str (Lib.join l s)) (c := .string ⟨(Lib.join l s).toArray⟩) rfl (fun hl w a cap hg => ?_) fun w b o cap hg h1 h2 h3 => ?_
    · subst hl
      refine (Tryd.strings_Join_none a cap ⟨s.toArray⟩ w).mono ?_
      rintro e w' ⟨rfl, rfl⟩
      exact ⟨rfl, Below.refl _ _⟩
    · by_cases hl : l = []
      · subst hl
        refine (Tryd.strings_Join_none _ cap ⟨s.toArray⟩ w).mono ?_
        rintro e w' ⟨rfl, rfl⟩
        exact ⟨rfl, Below.refl _ _⟩
      · have hm : (l.map fun x => (⟨x.toArray⟩ : ByteArray)).map (·.data.toList) = l := by rw [List.map_map]; simp [Function.comp_def]
        have := Tryd.strings_Join b o cap (l.map fun x => ⟨x.toArray⟩) ⟨s.toArray⟩ w (fun j x hx => by
          rw [List.getElem?_map, Option.map_eq_some_iff] at hx
          obtain ⟨y, hy, rfl⟩ := hx
          exact h1 j y hy) (h2 hl) (by simpa using hc.1) (by simpa using h3) (by rw [hm]; exact hc.2)
        rw [hm] at this
        simpa [strV] using this
  · cases h
theorem okJoin : TEnt.Ok Tryd.prog GT entJoin :=
  .plain rfl (callable_of (fn := Tryd.f34) Tryd.func34 (by kernel_rfl)) fun x y h => simJoin x.1 x.2 y h

theorem atoi_none (s : ByteArray) (hlim : s.size ≤ 281474976710656) (h1 : ∀ v, Lib.atoiAll s.data.toList ≠ .ok v) (h2 : Lib.atoiAll s.data.toList ≠ .range) (ev : Value) (w : World) (hv : w.cell? ⟨4, 0, none⟩ = some ev) (hev : ev = .nilIface ∨ ∃ te pe, ev = .iface te pe) :
    Calls Tryd.prog 62 #[.string s] w fun e w' => ∃ N, e = .returned (.tuple #[.int .i64 (0), .iface 115 (.pointer (some ⟨N, 0, none⟩))]) ∧ w.heap.size ≤ N ∧ w'.heap[N]? = some (.cells #[.string ⟨#[65, 116, 111, 105]⟩, .string s, ev] 133 (0, 0)) ∧ Below w.heap.size w w' := by
  cases hx : Lib.atoiAll s.data.toList with
  | ok v => exact absurd hx (h1 v)
  | range => exact absurd hx h2
  | _ => exact Any.strconv_Atoi_syntax Tryd.laysC172 s hlim hx ev w hv hev
theorem simAtoi (x : List UInt8) (y : Int × Option (List UInt8)) (h : fAtoi x = some y) : SimCalls Tryd.prog GT 62 [.str x] (.tup [.int .i64 y.1, optV 115 (y.2.map fun s => .rp (.str s))]) := by
  unfold fAtoi at h
  split at h
  · rename_i hc
    cases h
    have hsz := arr_size x
    unfold atoiN
    cases hv : Lib.atoiAll x with
    | ok v =>
      refine sim_flats (args := [.str x]) (cargs := [.string ⟨x.toArray⟩]) (res := [.int .i64 v, .nili]) (cs := [.int .i64 v, .nilIface]) rfl rfl fun w hg => ?_
      refine (Tryd.strconv_Atoi_ok ⟨x.toArray⟩ (by rw [hsz]; omega) v (by simpa using hv) w).mono ?_
      rintro e w' ⟨rfl, h | ⟨t, h⟩⟩
      · subst h; exact ⟨rfl, Below.refl _ _⟩
      · subst h; exact ⟨rfl, Lib.bytesWorld_below _ _ _⟩
    | range =>
      refine sim_err (f := 62) (args := [.str x]) (cargs := [.string ⟨x.toArray⟩]) (k := .i64) (n := Lib.atoiSat x) (t := 115) (s := [65, 116, 111, 105]) rfl fun w hg => ?_
      obtain ⟨v, h1, te, pe, rfl⟩ := hg.2.2.2
      refine (Tryd.strconv_Atoi_range ⟨x.toArray⟩ (by rw [hsz]; omega) (by simpa using hv) _ w h1 (.inr ⟨te, pe, rfl⟩)).mono ?_
      rintro e w' ⟨N, h1, h2, h3, h4⟩
      exact ⟨N, _, _, by simpa using h1, h2, h3, rfl, h4⟩
    | _ =>
      refine sim_err (f := 62) (args := [.str x]) (cargs := [.string ⟨x.toArray⟩]) (k := .i64) (n := 0) (t := 115) (s := [65, 116, 111, 105]) rfl fun w hg => ?_
      obtain ⟨v, h1, te, pe, rfl⟩ := hg.2.2.1
      refine (atoi_none ⟨x.toArray⟩ (by rw [hsz]; omega) (by simp [hv]) (by simp [hv]) _ w h1 (.inr ⟨te, pe, rfl⟩)).mono ?_
      rintro e w' ⟨N, rfl, h2, h3, h4⟩
      exact ⟨N, _, _, rfl, h2, h3, rfl, h4⟩
  · cases h
theorem okAtoi : TEnt.Ok Tryd.prog GT entAtoi :=
  .plain rfl (callable_of (fn := Tryd.f62) Tryd.func62 (by kernel_rfl)) fun x y h => simAtoi x y h
end Go.Proofs.YtdffccmlfhdkpaaDoor
