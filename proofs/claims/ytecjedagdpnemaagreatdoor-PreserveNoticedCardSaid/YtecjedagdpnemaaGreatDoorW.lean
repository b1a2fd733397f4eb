/-
  What the claims share: what is known of the library's variables, the world of the witnesses, the last contracts.
-/
import Derived.Test.YtecjedagdpnemaaGreatDoorK5
import Derived.PinnedBridge
import Derived.Test.YtecjedagdpnemaaGreatDoorX
import Derived.Test.YtecjedagdpnemaaGreatDoorCards
import Derived.Test.YtecjedagdpnemaaGreatDoorTie
import Derived.WalkKit
import Derived.ProofKit
import Derived.OpenShut
import Derived.Lay
import Derived.Deep.DeepHandedRow
namespace Go.Proofs.YtecjedagdpnemaaGreatDoor
open Go Go.Nu
theorem own : ownKnob Tryz.prog.godebug = none := by kernel_rfl
theorem laidOk : laidOutB Tryz.prog = true := by kernel_rfl
theorem uB : Tryz.prog.underlying 4 = some .bool := by kernel_rfl
def LAID : List (String × DataW Unit) := Rows.preserveIngestsRow.laid
theorem gP : Tryz.prog.globalNamed "internal/strconv.uint64pow10" = some 0 := by kernel_rfl
theorem gPt : (Tryz.prog.globals[0]?).map (·.type) = some 171 := by kernel_rfl
theorem uP : Tryz.prog.underlying 171 = some (.array 20 108) := by kernel_rfl
theorem uE : Tryz.prog.underlying 108 = some (.int .u64) := by kernel_rfl
theorem cP : Tryz.prog.cellsOf 171 = 20 := by kernel_rfl
theorem cE : Tryz.prog.cellsOf 108 = 1 := by kernel_rfl
theorem tabP : (Rows.laid_internal_strconv_uint64pow10 : DataW Unit) = Lib.tabData .u64 Lib.pow10Tab := rfl
theorem gT : Tryz.prog.globalNamed "math/bits.deBruijn64tab" = some (Tryz.lays7n27_ren.g 1) := by kernel_rfl
theorem gTt : (Tryz.prog.globals[Tryz.lays7n27_ren.g 1]?).map (·.type) = some 182 := by kernel_rfl
theorem uT : Tryz.prog.underlying 182 = some (.array 64 5) := by kernel_rfl
theorem uE8 : Tryz.prog.underlying 5 = some (.int .u8) := by kernel_rfl
theorem cT : Tryz.prog.cellsOf 182 = 64 := by kernel_rfl
theorem cE8 : Tryz.prog.cellsOf 5 = 1 := by kernel_rfl
theorem tab64 : (Rows.laid_math_bits_deBruijn64tab : DataW Unit) = Lib.tabData .u8 (Lib.deBruijn64tab.map fun n : Nat => (n : Int)) := rfl
theorem shM (w : World) (h : w.ShapedOpen Tryz.prog) : ∃ m, w.cell? ⟨1, 0, none⟩ = some (.int .i64 m) :=
  Go.Proofs.cell_of_shapedOpen_int (zero := #[.int .i64 0]) (t := 3) h (of_decide_eq_true (by kernel_rfl)) (by kernel_rfl) rfl (by kernel_rfl) (by kernel_rfl) Tryz.underlying3
theorem gt_of {W : World} (h : laidMetH Tryz.prog LAID W) (hs : W.ShapedOpen Tryz.prog) : GT W := by
  have h0 : laidMet Tryz.prog LAID W := h
  have h2 : laidMet Tryz.prog (("internal/strconv.uint64pow10", Lib.tabData .u64 Lib.pow10Tab) :: [("unicode/utf8.acceptRanges", Rows.laid_unicode_utf8_acceptRanges), ("unicode/utf8.first", Rows.laid_unicode_utf8_first)]) W := by
    rw [← tabP]
    exact h0.tail.tail
  have h3 := Lib.tabIs_of_head (zs := Lib.pow10Tab) gP gPt uP uE cE cP h2
  obtain ⟨m, hm⟩ := shM W hs
  have z1 : laidMet Tryz.prog (("math/bits.deBruijn64tab", Lib.tabData .u8 (Lib.deBruijn64tab.map fun n : Nat => (n : Int))) :: [("internal/strconv.uint64pow10", Rows.laid_internal_strconv_uint64pow10), ("unicode/utf8.acceptRanges", Rows.laid_unicode_utf8_acceptRanges), ("unicode/utf8.first", Rows.laid_unicode_utf8_first)]) W := by
    rw [← tab64]
    exact h0.tail
  have z2 := Lib.tabIs_of_head gT gTt uT uE8 cE8 cT z1
  have q3 : TabAt (Tryz.lays7n27_ren.g 1) Lib.deBruijn64tab W := by
    intro j hj
    have h3 := z2.cell gT j (by simpa using hj)
    rw [h3]
    simp [List.getD, hj]
  exact ⟨h3, ⟨_, hm, m, rfl⟩, q3⟩
set_option maxRecDepth 100000 in
theorem laid_met (os : Os) (args : Array Value) : laidMet Tryz.prog LAID ((World.laidAll Tryz.prog os LAID).forCall (fun _ _ => 0) ⟨#[], args, []⟩).memory :=
  laidMet_laidAll args (by kernel_rfl) (by kernel_rfl)
theorem k10 : TEnt.Ok Tryz.prog GT ent10 := ok10 keepsGT kIngest kCheck k20 k21 kMigrate kDamage kRepair k33
theorem k9 : TEnt.Ok Tryz.prog GT ent9 := ok9 keepsGT k10 k16 k33 k34 k35
end Go.Proofs.YtecjedagdpnemaaGreatDoor
