/-
  What the claims share: what is known of the library's variables, the world of the witnesses, the contracts one upon another.
-/
import Derived.Test.YthpgkpcnajookaaGreatDoorK5
import Derived.PinnedBridge
import Derived.Test.YthpgkpcnajookaaGreatDoorF
import Derived.Test.YthpgkpcnajookaaGreatDoorH5
import Derived.Test.YthpgkpcnajookaaGreatDoorCards
import Derived.Test.YthpgkpcnajookaaGreatDoorTie
import Derived.WalkKit
import Derived.ProofKit
import Derived.OpenShut
import Derived.Lay
import Derived.Deep.DeepHandedRow
namespace Go.Proofs.YthpgkpcnajookaaGreatDoor
open Go Go.Nu

theorem own : ownKnob Tryz.prog.godebug = none := by kernel_rfl
theorem laidOk : laidOutB Tryz.prog = true := by kernel_rfl
theorem uB : Tryz.prog.underlying 4 = some .bool := by kernel_rfl
def LAID : List (String × DataW Unit) := Rows.bagRightsRow.laid
theorem gP : Tryz.prog.globalNamed "internal/strconv.uint64pow10" = some 1 := by kernel_rfl
theorem gPt : (Tryz.prog.globals[1]?).map (·.type) = some 132 := by kernel_rfl
theorem uP : Tryz.prog.underlying 132 = some (.array 20 81) := by kernel_rfl
theorem uE : Tryz.prog.underlying 81 = some (.int .u64) := by kernel_rfl
theorem cP : Tryz.prog.cellsOf 132 = 20 := by kernel_rfl
theorem cE : Tryz.prog.cellsOf 81 = 1 := by kernel_rfl
theorem tabP : (Rows.laid_internal_strconv_uint64pow10 : DataW Unit) = Lib.tabData .u64 Lib.pow10Tab := rfl
theorem gS : Tryz.prog.globalNamed "strconv.ErrSyntax" = some 2 := by kernel_rfl
theorem gSt : (Tryz.prog.globals[2]?).map (·.type) = some 52 := by kernel_rfl
theorem gR : Tryz.prog.globalNamed "strconv.ErrRange" = some 3 := by kernel_rfl
theorem gRt : (Tryz.prog.globals[3]?).map (·.type) = some 52 := by kernel_rfl
theorem star : "*" ++ "errors.errorString" = "*errors.errorString" := by decide
theorem rowP (u : TypeId) (h : Tryz.prog.typeName? 3 u = some "*errors.errorString") : u = 150 :=
  typeName_ptr_named (nm := "errors.errorString") (by rw [star]; kernel_rfl) (by kernel_rfl) (by decide) u (by rw [star]; exact h)
theorem cS : Tryz.prog.cellsOf 152 = 1 := by kernel_rfl
theorem c9 : Tryz.prog.cellsOf 9 = 1 := by kernel_rfl
theorem gT : Tryz.prog.globalNamed "math/bits.deBruijn64tab" = some (Tryz.lays7n27_ren.g 1) := by kernel_rfl
theorem gTt : (Tryz.prog.globals[Tryz.lays7n27_ren.g 1]?).map (·.type) = some 154 := by kernel_rfl
theorem uT : Tryz.prog.underlying 154 = some (.array 64 5) := by kernel_rfl
theorem uE8 : Tryz.prog.underlying 5 = some (.int .u8) := by kernel_rfl
theorem cT : Tryz.prog.cellsOf 154 = 64 := by kernel_rfl
theorem cE8 : Tryz.prog.cellsOf 5 = 1 := by kernel_rfl
theorem tab64 : (Rows.laid_math_bits_deBruijn64tab : DataW Unit) = Lib.tabData .u8 (Lib.deBruijn64tab.map fun n : Nat => (n : Int)) := rfl
theorem gt_of {W : World} (h : laidMetH Tryz.prog LAID W) (hs : W.ShapedOpen Tryz.prog) : GT W := by
  have h0 : laidMet Tryz.prog LAID W := h
  have h1 : laidMet Tryz.prog (("internal/strconv.uint64pow10", Lib.tabData .u64 Lib.pow10Tab) :: [("unicode/utf8.acceptRanges", Rows.laid_unicode_utf8_acceptRanges), ("strconv.ErrRange", Rows.laid_strconv_ErrRange), ("strconv.ErrSyntax", Rows.laid_strconv_ErrSyntax), ("unicode/utf8.first", Rows.laid_unicode_utf8_first)]) W := by
    rw [← tabP]
    exact h0.tail.tail
  have h2 := h1
  have h3 := Lib.tabIs_of_head (zs := Lib.pow10Tab) gP gPt uP uE cE cP h2
  obtain ⟨m, hm⟩ := Tryz.laysM145.s1_3 W hs
  have h4 := h2.tail.tail
  obtain ⟨a1, _, hv1, _⟩ := laid_sentinel h4 gR gRt Tryz.underlying52 rowP Tryz.underlying150 Tryz.underlying152 rfl rfl Tryz.underlying9 cS c9
  obtain ⟨a2, _, hv2, _⟩ := laid_sentinel h4.tail gS gSt Tryz.underlying52 rowP Tryz.underlying150 Tryz.underlying152 rfl rfl Tryz.underlying9 cS c9
  have z1 : laidMet Tryz.prog (("math/bits.deBruijn64tab", Lib.tabData .u8 (Lib.deBruijn64tab.map fun n : Nat => (n : Int))) :: [("internal/strconv.uint64pow10", Rows.laid_internal_strconv_uint64pow10), ("unicode/utf8.acceptRanges", Rows.laid_unicode_utf8_acceptRanges), ("strconv.ErrRange", Rows.laid_strconv_ErrRange), ("strconv.ErrSyntax", Rows.laid_strconv_ErrSyntax), ("unicode/utf8.first", Rows.laid_unicode_utf8_first)]) W := by
    rw [← tab64]
    exact h0.tail
  have z2 := Lib.tabIs_of_head gT gTt uT uE8 cE8 cT z1
  have q3 : TabAt (Tryz.lays7n27_ren.g 1) Lib.deBruijn64tab W := by
    intro j hj
    have h3 := z2.cell gT j (by simpa using hj)
    rw [h3]
    simp [List.getD, hj]
  exact ⟨h3, ⟨_, hm, m, rfl⟩, ⟨_, World.var?_cell gS hv2 0, _, _, rfl⟩, ⟨_, World.var?_cell gR hv1 0, _, _, rfl⟩, q3⟩
set_option maxRecDepth 100000 in
theorem laid_met (os : Os) (args : Array Value) : laidMet Tryz.prog LAID ((World.laidAll Tryz.prog os LAID).forCall (fun _ _ => 0) ⟨#[], args, []⟩).memory :=
  laidMet_laidAll args (by kernel_rfl) (by kernel_rfl)
theorem k117 : TEnt.Ok Tryz.prog GT ent117 := ok117 keepsGT 
theorem k96 : TEnt.Ok Tryz.prog GT ent96 := ok96 keepsGT k117 okTZ
theorem k81 : TEnt.Ok Tryz.prog GT ent81 := ok81 keepsGT k96
theorem k63 : TEnt.Ok Tryz.prog GT ent63 := ok63 keepsGT k81
theorem k48 : TEnt.Ok Tryz.prog GT ent48 := ok48 keepsGT k63 okRepeat
theorem k27 : TEnt.Ok Tryz.prog GT ent27 := ok27 keepsGT k48
theorem k73 : TEnt.Ok Tryz.prog GT ent73 := ok73 keepsGT k48
theorem k32 : TEnt.Ok Tryz.prog GT ent32 := ok32 keepsGT 
theorem k74 : TEnt.Ok Tryz.prog GT ent74 := ok74 keepsGT k32
theorem k57 : TEnt.Ok Tryz.prog GT ent57 := ok57 keepsGT okTrim
theorem k58 : TEnt.Ok Tryz.prog GT ent58 := ok58 keepsGT 
theorem k52 : TEnt.Ok Tryz.prog GT ent52 := ok52 keepsGT k48
theorem k53 : TEnt.Ok Tryz.prog GT ent53 := ok53 keepsGT k73
theorem k54 : TEnt.Ok Tryz.prog GT ent54 := ok54 keepsGT k32
theorem k55 : TEnt.Ok Tryz.prog GT ent55 := ok55 keepsGT k74
theorem k31 : TEnt.Ok Tryz.prog GT ent31 := ok31 keepsGT k27 k52 k53
theorem k33 : TEnt.Ok Tryz.prog GT ent33 := ok33 keepsGT k32 k54 k55
theorem k29 : TEnt.Ok Tryz.prog GT ent29 := ok29 keepsGT okTrim okSplit
theorem k13 : TEnt.Ok Tryz.prog GT ent13 := ok13 keepsGT k29
theorem k15 : TEnt.Ok Tryz.prog GT ent15 := ok15 keepsGT k27 k31
theorem k17 : TEnt.Ok Tryz.prog GT ent17 := ok17 keepsGT k13 k27 okWriteString okString
theorem k22 : TEnt.Ok Tryz.prog GT ent22 := ok22 keepsGT k13 k15 okWriteString okString okItoa
theorem k44 : TEnt.Ok Tryz.prog GT ent44 := ok44 keepsGT okItoa okAtoi
theorem k24 : TEnt.Ok Tryz.prog GT ent24 := ok24 keepsGT k13 k15 okCutP okCut k44
theorem k51 : TEnt.Ok Tryz.prog GT ent51 := ok51 keepsGT 
theorem k30 : TEnt.Ok Tryz.prog GT ent30 := ok30 keepsGT k51
theorem k14 : TEnt.Ok Tryz.prog GT ent14 := ok14 keepsGT k30
theorem k16 : TEnt.Ok Tryz.prog GT ent16 := ok16 keepsGT k32 k33
theorem k18 : TEnt.Ok Tryz.prog GT ent18 := ok18 keepsGT k14 k32
theorem k41 : TEnt.Ok Tryz.prog GT ent41 := ok41 keepsGT 
theorem k23 : TEnt.Ok Tryz.prog GT ent23 := ok23 keepsGT k14 k16 k41
theorem k45 : TEnt.Ok Tryz.prog GT ent45 := ok45 keepsGT 
theorem k46 : TEnt.Ok Tryz.prog GT ent46 := ok46 keepsGT 
theorem k47 : TEnt.Ok Tryz.prog GT ent47 := ok47 keepsGT k46
theorem k25 : TEnt.Ok Tryz.prog GT ent25 := ok25 keepsGT k14 k16 k45 k46 k47
theorem k26 : TEnt.Ok Tryz.prog GT ent26 := ok26 keepsGT 
theorem k11 : TEnt.Ok Tryz.prog GT ent11 := ok11 keepsGT 
theorem k37 : TEnt.Ok Tryz.prog GT ent37 := ok37 keepsGT k30 k45 k58
theorem k38 : TEnt.Ok Tryz.prog GT ent38 := ok38 keepsGT k32
theorem k39 : TEnt.Ok Tryz.prog GT ent39 := ok39 keepsGT 
theorem k21 : TEnt.Ok Tryz.prog GT ent21 := ok21 keepsGT k37 k38 k39
theorem k19 : TEnt.Ok Tryz.prog GT ent19 := ok19 keepsGT 
theorem k28 : TEnt.Ok Tryz.prog GT ent28 := ok28 keepsGT 
theorem k12 : TEnt.Ok Tryz.prog GT ent12 := ok12 keepsGT k13 k15 k17 k19 okVerify k22 k24 k26 k28
theorem k3 : TEnt.Ok Tryz.prog GT ent3 := ok3 keepsGT k11 k12 k13 k14 k15 k16
theorem k4 : TEnt.Ok Tryz.prog GT ent4 := ok4 keepsGT k11 k12 k17 k18
theorem k5 : TEnt.Ok Tryz.prog GT ent5 := ok5 keepsGT k11 k12 k19 okVerify k21
theorem k6 : TEnt.Ok Tryz.prog GT ent6 := ok6 keepsGT k11 k12 k22 k23
theorem k7 : TEnt.Ok Tryz.prog GT ent7 := ok7 keepsGT k12 k24 k25 k26
theorem k8 : TEnt.Ok Tryz.prog GT ent8 := ok8 keepsGT k11 k12 k22 k24 k26
theorem k9 : TEnt.Ok Tryz.prog GT ent9 := ok9 keepsGT k11 k12 k13 k17 k19 okVerify k27
theorem k10 : TEnt.Ok Tryz.prog GT ent10 := ok10 keepsGT k11 k12 k15 k22 k24
end Go.Proofs.YthpgkpcnajookaaGreatDoor
