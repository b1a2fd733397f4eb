/-
  Chapter 6: the library's functions that the chapter's code calls: contracts in the runs' own words.
-/
import Derived.Test.YtlgdcfelfifgfaaDoorK4
import Derived.Test.YtlgdcfelfifgfaaDoorShelf
import Derived.KernelRfl
namespace Go.Proofs.YtlgdcfelfifgfaaDoor
open Go Go.Nu

/-- What is known of the library's variables. -/
def GT (w : World) : Prop := TabAt (Tryd.lays7n27_ren.g 1) Lib.deBruijn64tab w
theorem keepsGT : Keeps GT := by
  intro w w' h hb j hj
  have h1 := h j hj
  have hlt : Tryd.lays7n27_ren.g 1 < w.heap.size := by
    rcases Nat.lt_or_ge (Tryd.lays7n27_ren.g 1) w.heap.size with h | h
    · exact h
    · exfalso
      unfold World.cell? at h1
      simp [Array.getElem?_eq_none h] at h1
  rw [hb.cell (p := ⟨Tryd.lays7n27_ren.g 1, j, none⟩) hlt]
  exact h1

noncomputable def fRepeat (s : List UInt8) (n : Int) : Option (List UInt8) := if 0 ≤ n ∧ n ≤ 9223372036854775807 ∧ s.length * n.toNat ≤ 140737488355328 then some (Lib.repeatL s n.toNat) else none
noncomputable def fTrim (s c : List UInt8) : Option (List UInt8) := if s.length ≤ 9223372036854775807 ∧ c.length < 4294967281 ∧ c.all (fun b => decide (b.toNat < 128)) = true then some (Lib.trimS s c) else none
noncomputable def fTZ (n : Int) : Option Int := if 0 ≤ n ∧ n < 18446744073709551616 then some (Lib.ctz 64 n.toNat : Nat) else none
noncomputable def entRepeat : TEnt := ⟨32, [.str, .int .i64], .str, fun x => fRepeat x.1 x.2, .plain⟩
noncomputable def entTrim : TEnt := ⟨26, [.str, .str], .str, fun x => fTrim x.1 x.2, .plain⟩
noncomputable def entTZ : TEnt := ⟨67, [.int .u64], .int .i64, fun x => fTZ x, .plain⟩

theorem arr_size (l : List UInt8) : (⟨l.toArray⟩ : ByteArray).size = l.length := by show l.toArray.size = _; simp
theorem sim_repeat (s : List UInt8) (c : Nat) (h1 : c ≤ 9223372036854775807) (h2 : s.length * c ≤ 140737488355328) : SimCalls Tryd.prog GT 32 [.str s, .int .i64 (c : Int)] (.str (Lib.repeatL s c)) := by
  refine sim_flat (cargs := [.string ⟨s.toArray⟩, .int .i64 c]) (c := .string ⟨(Lib.repeatL s c).toArray⟩) rfl rfl fun w _ => ?_
  have := Tryd.strings_Repeat ⟨s.toArray⟩ c w h1 (by rw [arr_size]; exact h2)
  simpa using this
theorem sim_trim (s c : List UInt8) (h1 : s.length ≤ 9223372036854775807) (h2 : c.length < 4294967281) (h3 : c.all (fun b => decide (b.toNat < 128)) = true) : SimCalls Tryd.prog GT 26 [.str s, .str c] (.str (Lib.trimS s c)) := by
  refine sim_flat (cargs := [.string ⟨s.toArray⟩, .string ⟨c.toArray⟩]) (c := .string ⟨(Lib.trimS s c).toArray⟩) rfl rfl fun w _ => ?_
  have := Tryd.strings_TrimX ⟨s.toArray⟩ ⟨c.toArray⟩ w (by rw [arr_size]; exact h1) (by rw [arr_size]; exact h2) (by
    intro j b hb
    rw [List.all_eq_true] at h3
    exact of_decide_eq_true (h3 b (List.mem_of_getElem? (by simpa using hb))))
  simpa using this
theorem sim_tz (c : Nat) (h : c < 18446744073709551616) : SimCalls Tryd.prog GT 67 [.int .u64 (c : Int)] (.int .i64 ((Lib.ctz 64 c : Nat) : Int)) := by
  refine sim_flat (cargs := [.int .u64 (c : Int)]) (c := .int .i64 (Lib.ctz 64 c : Nat)) rfl rfl fun w hg => ?_
  refine (Tryd.bits_TrailingZerosX c h w (fun _ => hg)).mono ?_
  rintro e w' ⟨rfl, rfl⟩
  exact ⟨rfl, RowKit.Below.refl _ _⟩

theorem okRepeat : TEnt.Ok Tryd.prog GT entRepeat := by
  refine .plain rfl (callable_of (fn := Tryd.f32) rfl (by kernel_rfl)) fun x y h => ?_
  obtain ⟨s, n⟩ := x
  replace h : fRepeat s n = some y := h
  unfold fRepeat at h
  split at h
  · rename_i hc
    cases h
    have := sim_repeat s (Int.toNat n) (by have := hc.2.1; omega) hc.2.2
    rw [show ((Int.toNat n : Nat) : Int) = n from Int.toNat_of_nonneg hc.1] at this
    exact this
  · cases h
theorem okTrim : TEnt.Ok Tryd.prog GT entTrim := by
  refine .plain rfl (callable_of (fn := Tryd.f26) rfl (by kernel_rfl)) fun x y h => ?_
  obtain ⟨s, c⟩ := x
  replace h : fTrim s c = some y := h
  unfold fTrim at h
  split at h
  · rename_i hc
    cases h
    exact sim_trim s c hc.1 hc.2.1 hc.2.2
  · cases h
theorem okTZ : TEnt.Ok Tryd.prog GT entTZ := by
  refine .plain rfl (callable_of (fn := Tryd.f67) rfl (by kernel_rfl)) fun x y h => ?_
  replace h : fTZ x = some y := h
  unfold fTZ at h
  split at h
  · rename_i hc
    cases h
    have := sim_tz (Int.toNat x) (by have := hc.2; omega)
    rw [show ((Int.toNat x : Nat) : Int) = x from Int.toNat_of_nonneg hc.1] at this
    exact this
  · cases h
end Go.Proofs.YtlgdcfelfifgfaaDoor
