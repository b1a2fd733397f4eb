/-
  Chapter 6: what the claims share: the table's fact out of a row, the world of the witnesses, the contracts one upon another.
-/
import Derived.Test.YtlgdcfelfifgfaaDoorK4
import Derived.Test.YtlgdcfelfifgfaaDoorF
import Derived.Test.YtlgdcfelfifgfaaDoorCards
import Derived.Test.YtlgdcfelfifgfaaDoorTie
import Derived.WalkKit
import Derived.ProofKit
import Derived.OpenShut
import Derived.Deep.DeepHandedRow
namespace Go.Proofs.YtlgdcfelfifgfaaDoor
open Go Go.Nu

theorem own : ownKnob Tryd.prog.godebug = none := by kernel_rfl
theorem gT : Tryd.prog.globalNamed "math/bits.deBruijn64tab" = some (Tryd.lays7n27_ren.g 1) := by kernel_rfl
theorem laidOk : laidOutB Tryd.prog = true := by kernel_rfl
def LAID : List (String × DataW Unit) := Rows.digestSumsRow.laid
theorem gTt : (Tryd.prog.globals[Tryd.lays7n27_ren.g 1]?).map (·.type) = some 101 := by kernel_rfl
theorem uT : Tryd.prog.underlying 101 = some (.array 64 5) := by kernel_rfl
theorem uE : Tryd.prog.underlying 5 = some (.int .u8) := by kernel_rfl
theorem uB : Tryd.prog.underlying 4 = some .bool := by kernel_rfl
theorem cT : Tryd.prog.cellsOf 101 = 64 := by kernel_rfl
theorem cE : Tryd.prog.cellsOf 5 = 1 := by kernel_rfl
theorem tab64 : (Rows.laid_math_bits_deBruijn64tab : DataW Unit) = Lib.tabData .u8 (Lib.deBruijn64tab.map fun n : Nat => (n : Int)) := rfl
theorem gt_of {W : World} (h : laidMetH Tryd.prog LAID W) : GT W := by
  have h0 : laidMet Tryd.prog LAID W := h
  have h1 : laidMet Tryd.prog (("math/bits.deBruijn64tab", Lib.tabData .u8 (Lib.deBruijn64tab.map fun n : Nat => (n : Int))) :: [("internal/strconv.uint64pow10", Rows.laid_internal_strconv_uint64pow10), ("unicode/utf8.acceptRanges", Rows.laid_unicode_utf8_acceptRanges), ("unicode/utf8.first", Rows.laid_unicode_utf8_first)]) W := by
    rw [← tab64]
    exact h0.tail
  have h2 := Lib.tabIs_of_head gT gTt uT uE cE cT h1
  intro j hj
  have h3 := h2.cell gT j (by simpa using hj)
  rw [h3]
  simp [List.getD, hj]
theorem laid_met (os : Os) (args : Array Value) : laidMet Tryd.prog LAID ((laidW Tryd.prog os LAID).forCall (fun _ _ => 0) ⟨#[], args, []⟩).memory :=
  laidMet_of_run' 8 (by kernel_rfl) (by kernel_rfl)
theorem k66 : TEnt.Ok Tryd.prog GT ent66 := ok66 keepsGT 
theorem k54 : TEnt.Ok Tryd.prog GT ent54 := ok54 keepsGT k66 okTZ
theorem k40 : TEnt.Ok Tryd.prog GT ent40 := ok40 keepsGT k54
theorem k31 : TEnt.Ok Tryd.prog GT ent31 := ok31 keepsGT k40
theorem k25 : TEnt.Ok Tryd.prog GT ent25 := ok25 keepsGT k31 okRepeat
theorem k11 : TEnt.Ok Tryd.prog GT ent11 := ok11 keepsGT k25
theorem k12 : TEnt.Ok Tryd.prog GT ent12 := ok12 keepsGT k25
theorem k13 : TEnt.Ok Tryd.prog GT ent13 := ok13 keepsGT 
theorem k14 : TEnt.Ok Tryd.prog GT ent14 := ok14 keepsGT k13
theorem k15 : TEnt.Ok Tryd.prog GT ent15 := ok15 keepsGT okTrim
theorem k16 : TEnt.Ok Tryd.prog GT ent16 := ok16 keepsGT 
theorem k17 : TEnt.Ok Tryd.prog GT ent17 := ok17 keepsGT 
theorem k27 : TEnt.Ok Tryd.prog GT ent27 := ok27 keepsGT k25
theorem k28 : TEnt.Ok Tryd.prog GT ent28 := ok28 keepsGT k12
theorem k29 : TEnt.Ok Tryd.prog GT ent29 := ok29 keepsGT k13
theorem k30 : TEnt.Ok Tryd.prog GT ent30 := ok30 keepsGT k14
theorem k18 : TEnt.Ok Tryd.prog GT ent18 := ok18 keepsGT k11 k27 k28
theorem k19 : TEnt.Ok Tryd.prog GT ent19 := ok19 keepsGT k13 k29 k30
theorem k20 : TEnt.Ok Tryd.prog GT ent20 := ok20 keepsGT k27 k28
theorem k21 : TEnt.Ok Tryd.prog GT ent21 := ok21 keepsGT k29 k30
theorem k22 : TEnt.Ok Tryd.prog GT ent22 := ok22 keepsGT 
theorem k23 : TEnt.Ok Tryd.prog GT ent23 := ok23 keepsGT k12 k25
theorem k24 : TEnt.Ok Tryd.prog GT ent24 := ok24 keepsGT k13 k14
theorem k10 : TEnt.Ok Tryd.prog GT ent10 := ok10 keepsGT k11 k12 k15 k18 k20 k22
theorem k3 : TEnt.Ok Tryd.prog GT ent3 := ok3 keepsGT k10 k11 k12 k13 k14 k15
theorem k4 : TEnt.Ok Tryd.prog GT ent4 := ok4 keepsGT k10 k15 k16
theorem k5 : TEnt.Ok Tryd.prog GT ent5 := ok5 keepsGT k10 k17 k18 k19
theorem k6 : TEnt.Ok Tryd.prog GT ent6 := ok6 keepsGT k10 k17 k20 k21 k22
theorem k7 : TEnt.Ok Tryd.prog GT ent7 := ok7 keepsGT k10 k17 k23 k24
theorem k8 : TEnt.Ok Tryd.prog GT ent8 := ok8 keepsGT k10 k17 k18 k20 k23
theorem k9 : TEnt.Ok Tryd.prog GT ent9 := ok9 keepsGT k10 k17 k18 k20 k23
end Go.Proofs.YtlgdcfelfifgfaaDoor
