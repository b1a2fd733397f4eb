/-
  Chapter 4: the library's functions that the chapter's code calls: contracts in the runs' own words.
-/
import Derived.Test.YtekgjongmjnoaaaDoorK4
import Derived.Test.YtekgjongmjnoaaaDoorShelf
import Derived.KernelRfl
namespace Go.Proofs.YtekgjongmjnoaaaDoor
open Go Go.Nu Go.RowKit

/-- What is known of the library's variables. -/
def GT (w : World) : Prop := w.var? Tryd.prog "internal/strconv.uint64pow10" = some (Lib.pow10Tab.map fun z => Value.int .u64 z).toArray ∧ (∃ v, w.cell? ⟨0, 0, none⟩ = some v ∧ ∃ m, v = .int .i64 m) ∧
  (∃ v, w.cell? ⟨1, 0, none⟩ = some v ∧ ∃ te pe, v = .iface te pe) ∧ ∃ v, w.cell? ⟨2, 0, none⟩ = some v ∧ ∃ te pe, v = .iface te pe
theorem keepsGT : Keeps GT := keeps_and keeps_var (keeps_and keeps_cell (keeps_and keeps_cell keeps_cell))

def atoiN (s : List UInt8) : Int × Option (List UInt8) := match Lib.atoiAll s with
  | .ok v => (v, none)
  | .range => (Lib.atoiSat s, some [65, 116, 111, 105])
  | _ => (0, some [65, 116, 111, 105])
noncomputable def fItoa (n : Int) : Option (List UInt8) := if -9223372036854775808 ≤ n ∧ n ≤ 9223372036854775807 then some (Lib.itoa n) else none
noncomputable def fRepeat (s : List UInt8) (n : Int) : Option (List UInt8) := if 0 ≤ n ∧ n ≤ 9223372036854775807 ∧ s.length * n.toNat ≤ 140737488355328 then some (Lib.repeatL s n.toNat) else none
noncomputable def entRepeat : TEnt := ⟨28, [.str, .int .i64], .str, fun x => fRepeat x.1 x.2, .plain⟩
noncomputable def fCut (s c : List UInt8) : Option (List UInt8 × List UInt8 × Bool) := if s.length < 4294967281 then some (Lib.cut s c) else none
noncomputable def fTrim (s c : List UInt8) : Option (List UInt8) := if s.length ≤ 9223372036854775807 ∧ c.length < 4294967281 ∧ c.all (fun b => decide (b.toNat < 128)) = true then some (Lib.trimS s c) else none
noncomputable def fAtoi (s : List UInt8) : Option (Int × Option (List UInt8)) := if s.length ≤ 281474976710656 then some (atoiN s) else none
noncomputable def entItoa : TEnt := ⟨26, [.int .i64], .str, fun x => fItoa x, .plain⟩
noncomputable def entCut : TEnt := ⟨24, [.str, .str], .tup (.pair .str (.pair .str .bool)), fun x => fCut x.1 x.2, .plain⟩
noncomputable def entTrim : TEnt := ⟨25, [.str, .str], .str, fun x => fTrim x.1 x.2, .plain⟩
noncomputable def entAtoi : TEnt := ⟨27, [.str], .tup (.pair (.int .i64) (.opt 78 (.rp .str))), fun x => fAtoi x, .plain⟩

theorem arr_size (l : List UInt8) : (⟨l.toArray⟩ : ByteArray).size = l.length := by show l.toArray.size = _; simp

theorem simItoa (x : Int) (y : List UInt8) (h : fItoa x = some y) : SimCalls Tryd.prog GT 26 [.int .i64 x] (.str y) := by
  unfold fItoa at h
  split at h
  · rename_i hc
    cases h
    refine sim_flat (args := [.int .i64 x]) (cargs := [.int .i64 x]) (c := .string ⟨(Lib.itoa x).toArray⟩) rfl rfl fun w hg => ?_
    refine (Tryd.strconv_Itoa x hc.1 hc.2 w hg.1).mono ?_
    rintro e w' ⟨rfl, k, os, rfl⟩
    exact ⟨rfl, below_grow (below_drewN (Below.refl _ _) k) (Nat.le_refl _) os⟩
  · cases h
theorem okItoa : TEnt.Ok Tryd.prog GT entItoa :=
  .plain rfl (callable_of (fn := Tryd.f26) Tryd.func26 (by kernel_rfl)) fun x y h => simItoa x y h

theorem simTrim (s c y : List UInt8) (h : fTrim s c = some y) : SimCalls Tryd.prog GT 25 [.str s, .str c] (.str y) := by
  unfold fTrim at h
  split at h
  · rename_i hc
    cases h
    refine sim_flat (args := [.str s, .str c]) (cargs := [.string ⟨s.toArray⟩, .string ⟨c.toArray⟩]) (c := .string ⟨(Lib.trimS s c).toArray⟩) rfl rfl fun w _ => ?_
    have := Tryd.strings_TrimX ⟨s.toArray⟩ ⟨c.toArray⟩ w (by rw [arr_size]; exact hc.1) (by rw [arr_size]; exact hc.2.1) (by
      intro j b hb
      have h3 := hc.2.2
      rw [List.all_eq_true] at h3
      exact of_decide_eq_true (h3 b (List.mem_of_getElem? (by simpa using hb))))
    simpa using this
  · cases h
theorem okTrim : TEnt.Ok Tryd.prog GT entTrim :=
  .plain rfl (callable_of (fn := Tryd.f25) Tryd.func25 (by kernel_rfl)) fun x y h => simTrim x.1 x.2 y h

theorem simCut (s c : List UInt8) (y : List UInt8 × List UInt8 × Bool) (h : fCut s c = some y) : SimCalls Tryd.prog GT 24 [.str s, .str c] (.tup [.str y.1, .str y.2.1, .bool y.2.2]) := by
  unfold fCut at h
  split at h
  · rename_i hc
    cases h
    refine sim_flats (args := [.str s, .str c]) (cargs := [.string ⟨s.toArray⟩, .string ⟨c.toArray⟩]) (res := [.str (Lib.cut s c).1, .str (Lib.cut s c).2.1, .bool (Lib.cut s c).2.2])
      (cs := [.string ⟨(Lib.cut s c).1.toArray⟩, .string ⟨(Lib.cut s c).2.1.toArray⟩, .bool (Lib.cut s c).2.2]) rfl rfl fun w hg => ?_
    obtain ⟨_, h1, m, rfl⟩ := hg.2.1
    refine (Tryd.strings_Cut ⟨s.toArray⟩ ⟨c.toArray⟩ m w (by rw [arr_size]; exact hc) h1).mono ?_
    rintro e w' ⟨rfl, n, rfl⟩
    exact ⟨rfl, below_drewN (Below.refl _ _) n⟩
  · cases h
theorem okCut : TEnt.Ok Tryd.prog GT entCut :=
  .plain rfl (callable_of (fn := Tryd.f24) Tryd.func24 (by kernel_rfl)) fun x y h => simCut x.1 x.2 y h

theorem atoi_none (s : ByteArray) (hlim : s.size ≤ 281474976710656) (h1 : ∀ v, Lib.atoiAll s.data.toList ≠ .ok v) (h2 : Lib.atoiAll s.data.toList ≠ .range) (ev : Value) (w : World) (hv : w.cell? ⟨1, 0, none⟩ = some ev) (hev : ev = .nilIface ∨ ∃ te pe, ev = .iface te pe) :
    Calls Tryd.prog 27 #[.string s] w fun e w' => ∃ N, e = .returned (.tuple #[.int .i64 (0), .iface 78 (.pointer (some ⟨N, 0, none⟩))]) ∧ w.heap.size ≤ N ∧ w'.heap[N]? = some (.cells #[.string ⟨#[65, 116, 111, 105]⟩, .string s, ev] 100 (0, 0)) ∧ Below w.heap.size w w' := by
  cases hx : Lib.atoiAll s.data.toList with
  | ok v => exact absurd hx (h1 v)
  | range => exact absurd hx h2
  | _ => exact Any.strconv_Atoi_syntax Tryd.laysC172 s hlim hx ev w hv hev
theorem simAtoi (x : List UInt8) (y : Int × Option (List UInt8)) (h : fAtoi x = some y) : SimCalls Tryd.prog GT 27 [.str x] (.tup [.int .i64 y.1, optV 78 (y.2.map fun s => .rp (.str s))]) := by
  unfold fAtoi at h
  split at h
  · rename_i hc
    cases h
    have hsz := arr_size x
    unfold atoiN
    cases hv : Lib.atoiAll x with
    | ok v =>
      refine sim_flats (args := [.str x]) (cargs := [.string ⟨x.toArray⟩]) (res := [.int .i64 v, .nili]) (cs := [.int .i64 v, .nilIface]) rfl rfl fun w hg => ?_
      refine (Tryd.strconv_Atoi_ok ⟨x.toArray⟩ (by rw [hsz]; omega) v (by simpa using hv) w).mono ?_
      rintro e w' ⟨rfl, h | ⟨t, h⟩⟩
      · subst h; exact ⟨rfl, Below.refl _ _⟩
      · subst h; exact ⟨rfl, Lib.bytesWorld_below _ _ _⟩
    | range =>
      refine sim_err (f := 27) (args := [.str x]) (cargs := [.string ⟨x.toArray⟩]) (k := .i64) (n := Lib.atoiSat x) (t := 78) (s := [65, 116, 111, 105]) rfl fun w hg => ?_
      obtain ⟨v, h1, te, pe, rfl⟩ := hg.2.2.2
      refine (Tryd.strconv_Atoi_range ⟨x.toArray⟩ (by rw [hsz]; omega) (by simpa using hv) _ w h1 (.inr ⟨te, pe, rfl⟩)).mono ?_
      rintro e w' ⟨N, h1, h2, h3, h4⟩
      exact ⟨N, _, _, by simpa using h1, h2, h3, rfl, h4⟩
    | _ =>
      refine sim_err (f := 27) (args := [.str x]) (cargs := [.string ⟨x.toArray⟩]) (k := .i64) (n := 0) (t := 78) (s := [65, 116, 111, 105]) rfl fun w hg => ?_
      obtain ⟨v, h1, te, pe, rfl⟩ := hg.2.2.1
      refine (atoi_none ⟨x.toArray⟩ (by rw [hsz]; omega) (by simp [hv]) (by simp [hv]) _ w h1 (.inr ⟨te, pe, rfl⟩)).mono ?_
      rintro e w' ⟨N, rfl, h2, h3, h4⟩
      exact ⟨N, _, _, rfl, h2, h3, rfl, h4⟩
  · cases h
theorem okAtoi : TEnt.Ok Tryd.prog GT entAtoi :=
  .plain rfl (callable_of (fn := Tryd.f27) Tryd.func27 (by kernel_rfl)) fun x y h => simAtoi x y h
theorem simRepeat (s : List UInt8) (n : Int) (y : List UInt8) (h : fRepeat s n = some y) : SimCalls Tryd.prog GT 28 [.str s, .int .i64 n] (.str y) := by
  unfold fRepeat at h
  split at h
  · rename_i hc
    cases h
    refine sim_flat (args := [.str s, .int .i64 n]) (cargs := [.string ⟨s.toArray⟩, .int .i64 n]) (c := .string ⟨(Lib.repeatL s n.toNat).toArray⟩) rfl rfl fun w _ => ?_
    have := Tryd.strings_Repeat ⟨s.toArray⟩ n.toNat w (by have := hc.2.1; omega) (by rw [arr_size]; exact hc.2.2)
    rw [show ((Int.toNat n : Nat) : Int) = n from Int.toNat_of_nonneg hc.1] at this
    simpa using this
  · cases h
theorem okRepeat : TEnt.Ok Tryd.prog GT entRepeat :=
  .plain rfl (callable_of (fn := Tryd.f28) Tryd.func28 (by kernel_rfl)) fun x y h => simRepeat x.1 x.2 y h
end Go.Proofs.YtekgjongmjnoaaaDoor
