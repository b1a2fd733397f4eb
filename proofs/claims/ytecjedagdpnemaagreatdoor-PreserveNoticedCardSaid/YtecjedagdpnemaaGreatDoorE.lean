/-
  The library's functions that the chapter's code calls: contracts in the runs' own words. No condition.
-/
import Derived.Test.YtecjedagdpnemaaGreatDoorK5
import Derived.Test.YtecjedagdpnemaaGreatDoorShelf
import Derived.KernelRfl
import Derived.Lib.LaidU8T
namespace Go.Proofs.YtecjedagdpnemaaGreatDoor
open Go Go.Nu Go.RowKit
set_option maxRecDepth 100000
def GT (w : World) : Prop := w.var? Tryz.prog "internal/strconv.uint64pow10" = some (Lib.pow10Tab.map fun z => Value.int .u64 z).toArray ∧ (∃ v, w.cell? ⟨1, 0, none⟩ = some v ∧ ∃ m, v = .int .i64 m) ∧
  TabAt (Tryz.lays7n27_ren.g 1) Lib.deBruijn64tab w
theorem keeps_tz {b : Nat} {xs : List Nat} : Keeps (TabAt b xs) := by
  intro w w' h hb j hj
  have h1 := h j hj
  have hlt : b < w.heap.size := by
    rcases Nat.lt_or_ge b w.heap.size with h | h
    · exact h
    · exfalso
      unfold World.cell? at h1
      simp [Array.getElem?_eq_none h] at h1
  rw [hb.cell (p := ⟨b, j, none⟩) hlt]
  exact h1
theorem keepsGT : Keeps GT := keeps_and keeps_var (keeps_and keeps_cell keeps_tz)
theorem arr_size (l : List UInt8) : (⟨l.toArray⟩ : ByteArray).size = l.length := by show l.toArray.size = _; simp
noncomputable def fItoa (n : Int) : Option (List UInt8) := if -9223372036854775808 ≤ n ∧ n ≤ 9223372036854775807 then some (Lib.itoa n) else none
noncomputable def entItoa : TEnt := ⟨92, [.int .i64], .str, fun x => fItoa x, .plain⟩
theorem simItoa (x : Int) (y : List UInt8) (h : fItoa x = some y) : SimCalls Tryz.prog GT 92 [.int .i64 x] (.str y) := by
  unfold fItoa at h
  split at h
  · rename_i hc
    cases h
    refine sim_flat (args := [.int .i64 x]) (cargs := [.int .i64 x]) (c := .string ⟨(Lib.itoa x).toArray⟩) rfl rfl fun w hg => ?_
    refine (Tryz.strconv_Itoa x hc.1 hc.2 w hg.1).mono ?_
    rintro e w' ⟨rfl, k, os, rfl⟩
    exact ⟨rfl, below_grow (Go.Nu.below_drewN (Below.refl _ _) k) (Nat.le_refl _) os⟩
  · cases h
theorem okItoa : TEnt.Ok Tryz.prog GT entItoa :=
  .plain rfl (callable_of (fn := Tryz.f92) Tryz.func92 (by kernel_rfl)) fun x y h => simItoa x y h
noncomputable def fTrim (s c : List UInt8) : Option (List UInt8) := if s.length ≤ 9223372036854775807 ∧ c.length < 4294967281 ∧ c.all (fun b => decide (b.toNat < 128)) = true then some (Lib.trimS s c) else none
noncomputable def entTrim : TEnt := ⟨94, [.str, .str], .str, fun x => fTrim x.1 x.2, .plain⟩
theorem simTrim (s c y : List UInt8) (h : fTrim s c = some y) : SimCalls Tryz.prog GT 94 [.str s, .str c] (.str y) := by
  unfold fTrim at h
  split at h
  · rename_i hc
    cases h
    refine sim_flat (args := [.str s, .str c]) (cargs := [.string ⟨s.toArray⟩, .string ⟨c.toArray⟩]) (c := .string ⟨(Lib.trimS s c).toArray⟩) rfl rfl fun w _ => ?_
    have := Tryz.strings_TrimX ⟨s.toArray⟩ ⟨c.toArray⟩ w (by rw [arr_size]; exact hc.1) (by rw [arr_size]; exact hc.2.1) (by
      intro j b hb
      have h3 := hc.2.2
      rw [List.all_eq_true] at h3
      exact of_decide_eq_true (h3 b (List.mem_of_getElem? (by simpa using hb))))
    simpa using this
  · cases h
theorem okTrim : TEnt.Ok Tryz.prog GT entTrim :=
  .plain rfl (callable_of (fn := Tryz.f94) Tryz.func94 (by kernel_rfl)) fun x y h => simTrim x.1 x.2 y h
theorem strs_of {l : List ByteArray} {k : List (List UInt8)} (h : l.map (·.data.toList) = k) : k.map strV = l.map Value.string := by
  subst h
  rw [List.map_map]
  refine List.map_congr_left fun b _ => ?_
  show Value.string ⟨b.data.toList.toArray⟩ = _
  simp
noncomputable def fSplit (s c : List UInt8) : Option (List (List UInt8)) := if s.length < 4294967281 ∧ 1 ≤ c.length then some (Lib.splitK c 0 (Lib.count s c) s) else none
noncomputable def entSplit : TEnt := ⟨95, [.str, .str], .sl 9 .str, fun x => fSplit x.1 x.2, .plain⟩
theorem simSplit (s c : List UInt8) (y : List (List UInt8)) (h : fSplit s c = some y) : SimCalls Tryz.prog GT 95 [.str s, .str c] (.sl none 9 (y.map .str)) := by
  unfold fSplit at h
  split at h
  · rename_i hc
    cases h
    have hd : (Lib.splitB ⟨c.toArray⟩ 0 (Lib.countB ⟨s.toArray⟩ ⟨c.toArray⟩) ⟨s.toArray⟩).map (·.data.toList) = Lib.splitK c 0 (Lib.count s c) s := by
      rw [Lib.splitB_data]
    have hlen : (Lib.splitK c 0 (Lib.count s c) s).length = Lib.countB ⟨s.toArray⟩ ⟨c.toArray⟩ + 1 := by
      rw [← hd, List.length_map]
      exact Lib.splitB_all _ (by rw [arr_size]; exact hc.2) 0 _ _ rfl
    refine sim_strs (P := Tryz.prog) (G := GT) (f := 95) (args := [.str s, .str c]) (cargs := [.string ⟨s.toArray⟩, .string ⟨c.toArray⟩]) (e := 9) (l := Lib.splitK c 0 (Lib.count s c) s) (by kernel_rfl) ?_ rfl fun w hg => ?_
    · have h1 := Lib.countB_le (⟨c.toArray⟩ : ByteArray) (by rw [arr_size]; exact hc.2) _ (⟨s.toArray⟩ : ByteArray) (Nat.le_refl _)
      rw [arr_size] at h1
      rw [hlen]
      unfold maxLen
      omega
    · obtain ⟨_, h1, m, rfl⟩ := hg.2.1
      refine (Tryz.strings_Split ⟨s.toArray⟩ ⟨c.toArray⟩ m w (by rw [arr_size]; exact hc.1) h1 (by rw [arr_size]; exact hc.2)).mono ?_
      rintro e w' ⟨rfl, rfl⟩
      rw [hlen, strs_of hd]
      exact ⟨rfl, _, rfl⟩
  · cases h
theorem okSplit : TEnt.Ok Tryz.prog GT entSplit :=
  .plain rfl (callable_of (fn := Tryz.f95) Tryz.func95 (by kernel_rfl)) fun x y h => simSplit x.1 x.2 y h
noncomputable def fJoin (l : List (List UInt8)) (s : List UInt8) : Option (List UInt8) := if l.length ≤ 140737488355328 ∧ (Lib.join l s).length ≤ 140737488355328 then some (Lib.join l s) else none
noncomputable def entJoin : TEnt := ⟨91, [.sl 9 .str, .str], .str, fun x => fJoin x.1 x.2, .plain⟩
theorem simJoin (l : List (List UInt8)) (s y : List UInt8) (h : fJoin l s = some y) : SimCalls Tryz.prog GT 91 [.sl none 9 (l.map .str), .str s] (.str y) := by
  unfold fJoin at h
  split at h
  · rename_i hc
    cases h
    refine sim_join (P := Tryz.prog) (G := GT) (f := 91) (e := 9) (l := l) (s := s) (res := .str (Lib.join l s)) (c := .string ⟨(Lib.join l s).toArray⟩) rfl (fun hl w a cap hg => ?_) fun w b o cap hg h1 h2 h3 => ?_
    · subst hl
      refine (Tryz.strings_Join_none a cap ⟨s.toArray⟩ w).mono ?_
      rintro e w' ⟨rfl, rfl⟩
      exact ⟨rfl, Below.refl _ _⟩
    · by_cases hl : l = []
      · subst hl
        refine (Tryz.strings_Join_none _ cap ⟨s.toArray⟩ w).mono ?_
        rintro e w' ⟨rfl, rfl⟩
        exact ⟨rfl, Below.refl _ _⟩
      · have hm : (l.map fun x => (⟨x.toArray⟩ : ByteArray)).map (·.data.toList) = l := by rw [List.map_map]; simp [Function.comp_def]
        have := Tryz.strings_Join b o cap (l.map fun x => ⟨x.toArray⟩) ⟨s.toArray⟩ w (fun j x hx => by
          rw [List.getElem?_map, Option.map_eq_some_iff] at hx
          obtain ⟨y, hy, rfl⟩ := hx
          exact h1 j y hy) (h2 hl) (by simpa using hc.1) (by simpa using h3) (by rw [hm]; exact hc.2)
        rw [hm] at this
        simpa [strV] using this
  · cases h
theorem okJoin : TEnt.Ok Tryz.prog GT entJoin :=
  .plain rfl (callable_of (fn := Tryz.f91) Tryz.func91 (by kernel_rfl)) fun x y h => simJoin x.1 x.2 y h
noncomputable def fRepeat (s : List UInt8) (n : Int) : Option (List UInt8) := if 0 ≤ n ∧ n ≤ 9223372036854775807 ∧ s.length * n.toNat ≤ 140737488355328 then some (Lib.repeatL s n.toNat) else none
noncomputable def entRepeat : TEnt := ⟨105, [.str, .int .i64], .str, fun x => fRepeat x.1 x.2, .plain⟩
theorem sim_repeat (s : List UInt8) (c : Nat) (h1 : c ≤ 9223372036854775807) (h2 : s.length * c ≤ 140737488355328) : SimCalls Tryz.prog GT 105 [.str s, .int .i64 (c : Int)] (.str (Lib.repeatL s c)) := by
  refine sim_flat (cargs := [.string ⟨s.toArray⟩, .int .i64 c]) (c := .string ⟨(Lib.repeatL s c).toArray⟩) rfl rfl fun w _ => ?_
  have := Tryz.strings_Repeat ⟨s.toArray⟩ c w h1 (by rw [arr_size]; exact h2)
  simpa using this
theorem okRepeat : TEnt.Ok Tryz.prog GT entRepeat := by
  refine .plain rfl (callable_of (fn := Tryz.f105) Tryz.func105 (by kernel_rfl)) fun x y h => ?_
  obtain ⟨s, n⟩ := x
  replace h : fRepeat s n = some y := h
  unfold fRepeat at h
  split at h
  · rename_i hc
    cases h
    have := sim_repeat s (Int.toNat n) (by have := hc.2.1; omega) hc.2.2
    rw [show ((Int.toNat n : Nat) : Int) = n from Int.toNat_of_nonneg hc.1] at this
    exact this
  · cases h
noncomputable def fTZ (n : Int) : Option Int := if 0 ≤ n ∧ n < 18446744073709551616 then some (Lib.ctz 64 n.toNat : Nat) else none
noncomputable def entTZ : TEnt := ⟨154, [.int .u64], .int .i64, fun x => fTZ x, .plain⟩
theorem sim_tz (c : Nat) (h : c < 18446744073709551616) : SimCalls Tryz.prog GT 154 [.int .u64 (c : Int)] (.int .i64 ((Lib.ctz 64 c : Nat) : Int)) := by
  refine sim_flat (cargs := [.int .u64 (c : Int)]) (c := .int .i64 (Lib.ctz 64 c : Nat)) rfl rfl fun w hg => ?_
  refine (Tryz.bits_TrailingZerosX c h w (fun _ => hg.2.2)).mono ?_
  rintro e w' ⟨rfl, rfl⟩
  exact ⟨rfl, RowKit.Below.refl _ _⟩
theorem okTZ : TEnt.Ok Tryz.prog GT entTZ := by
  refine .plain rfl (callable_of (fn := Tryz.f154) Tryz.func154 (by kernel_rfl)) fun x y h => ?_
  replace h : fTZ x = some y := h
  unfold fTZ at h
  split at h
  · rename_i hc
    cases h
    have := sim_tz (Int.toNat x) (by have := hc.2; omega)
    rw [show ((Int.toNat x : Nat) : Int) = x from Int.toNat_of_nonneg hc.1] at this
    exact this
  · cases h
noncomputable def fCutP (s p : List UInt8) : Option (List UInt8 × Bool) := some (Lib.trimPrefix s p, Lib.hasPrefix s p)
noncomputable def entCutP : TEnt := ⟨102, [.str, .str], .tup (.pair .str .bool), fun x => fCutP x.1 x.2, .plain⟩
theorem simCutP (s p : List UInt8) (y : List UInt8 × Bool) (h : fCutP s p = some y) : SimCalls Tryz.prog GT 102 [.str s, .str p] (.tup [.str y.1, .bool y.2]) := by
  cases h
  refine sim_flats (args := [.str s, .str p]) (cargs := [.string ⟨s.toArray⟩, .string ⟨p.toArray⟩]) (res := [.str (Lib.trimPrefix s p), .bool (Lib.hasPrefix s p)])
    (cs := [.string ⟨(Lib.trimPrefix s p).toArray⟩, .bool (Lib.hasPrefix s p)]) rfl rfl fun w hg => ?_
  refine (Tryz.strings_CutPrefix ⟨s.toArray⟩ ⟨p.toArray⟩ w).mono ?_
  rintro e w' ⟨rfl, rfl⟩
  exact ⟨rfl, Below.refl _ _⟩
theorem okCutP : TEnt.Ok Tryz.prog GT entCutP :=
  .plain rfl (callable_of (fn := Tryz.f102) Tryz.func102 (by kernel_rfl)) fun x y h => simCutP x.1 x.2 y h
end Go.Proofs.YtecjedagdpnemaaGreatDoor
