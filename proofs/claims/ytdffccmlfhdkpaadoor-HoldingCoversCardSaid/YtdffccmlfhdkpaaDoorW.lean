/-
  Chapter 17: what the claims share: what is known of the library's variables, the world of the witnesses, the contracts one upon another.
-/
import Derived.Test.YtdffccmlfhdkpaaDoorK4
import Derived.Test.YtdffccmlfhdkpaaDoorF
import Derived.Test.YtdffccmlfhdkpaaDoorCards
import Derived.Test.YtdffccmlfhdkpaaDoorTie
import Derived.WalkKit
import Derived.ProofKit
import Derived.OpenShut
import Derived.Lay
import Derived.Deep.DeepHandedRow
namespace Go.Proofs.YtdffccmlfhdkpaaDoor
open Go Go.Nu

theorem own : ownKnob Tryd.prog.godebug = none := by kernel_rfl
theorem laidOk : laidOutB Tryd.prog = true := by kernel_rfl
theorem uB : Tryd.prog.underlying 4 = some .bool := by kernel_rfl
def LAID : List (String × DataW Unit) := Rows.holdingRightsRow.laid
theorem gP : Tryd.prog.globalNamed "internal/strconv.uint64pow10" = some 1 := by kernel_rfl
theorem gPt : (Tryd.prog.globals[1]?).map (·.type) = some 119 := by kernel_rfl
theorem uP : Tryd.prog.underlying 119 = some (.array 20 100) := by kernel_rfl
theorem uE : Tryd.prog.underlying 100 = some (.int .u64) := by kernel_rfl
theorem cP : Tryd.prog.cellsOf 119 = 20 := by kernel_rfl
theorem cE : Tryd.prog.cellsOf 100 = 1 := by kernel_rfl
theorem tabP : (Rows.laid_internal_strconv_uint64pow10 : DataW Unit) = Lib.tabData .u64 Lib.pow10Tab := rfl
theorem gS : Tryd.prog.globalNamed "strconv.ErrSyntax" = some 4 := by kernel_rfl
theorem gSt : (Tryd.prog.globals[4]?).map (·.type) = some 74 := by kernel_rfl
theorem gR : Tryd.prog.globalNamed "strconv.ErrRange" = some 5 := by kernel_rfl
theorem gRt : (Tryd.prog.globals[5]?).map (·.type) = some 74 := by kernel_rfl
theorem star : "*" ++ "errors.errorString" = "*errors.errorString" := by decide
theorem row137 (u : TypeId) (h : Tryd.prog.typeName? 3 u = some "*errors.errorString") : u = 137 :=
  typeName_ptr_named (nm := "errors.errorString") (by rw [star]; kernel_rfl) (by kernel_rfl) (by decide) u (by rw [star]; exact h)
theorem c139 : Tryd.prog.cellsOf 139 = 1 := by kernel_rfl
theorem c9 : Tryd.prog.cellsOf 9 = 1 := by kernel_rfl
theorem gt_of {W : World} (h : laidMetH Tryd.prog LAID W) (hs : W.ShapedOpen Tryd.prog) : GT W := by
  have h0 : laidMet Tryd.prog LAID W := h
  have h1 : laidMet Tryd.prog (("internal/strconv.uint64pow10", Lib.tabData .u64 Lib.pow10Tab) :: [("unicode/utf8.acceptRanges", Rows.laid_unicode_utf8_acceptRanges), ("strconv.ErrRange", Rows.laid_strconv_ErrRange), ("strconv.ErrSyntax", Rows.laid_strconv_ErrSyntax), ("unicode/utf8.first", Rows.laid_unicode_utf8_first)]) W := by
    rw [← tabP]
    exact h0.tail.tail
  have h2 := h1
  have h3 := Lib.tabIs_of_head (zs := Lib.pow10Tab) gP gPt uP uE cE cP h2
  obtain ⟨m, hm⟩ := Tryd.laysM145.s1_3 W hs
  have h4 := h2.tail.tail
  obtain ⟨a1, _, hv1, _⟩ := laid_sentinel h4 gR gRt Tryd.underlying74 row137 Tryd.underlying137 Tryd.underlying139 rfl rfl Tryd.underlying9 c139 c9
  obtain ⟨a2, _, hv2, _⟩ := laid_sentinel h4.tail gS gSt Tryd.underlying74 row137 Tryd.underlying137 Tryd.underlying139 rfl rfl Tryd.underlying9 c139 c9
  exact ⟨h3, ⟨_, hm, m, rfl⟩, ⟨_, World.var?_cell gS hv2 0, _, _, rfl⟩, ⟨_, World.var?_cell gR hv1 0, _, _, rfl⟩⟩
set_option maxRecDepth 100000 in
theorem laid_met (os : Os) (args : Array Value) : laidMet Tryd.prog LAID ((World.laidAll Tryd.prog os LAID).forCall (fun _ _ => 0) ⟨#[], args, []⟩).memory :=
  laidMet_laidAll args (by kernel_rfl) (by kernel_rfl)
theorem k32 : TEnt.Ok Tryd.prog GT ent32 := ok32 keepsGT 
theorem k12 : TEnt.Ok Tryd.prog GT ent12 := ok12 keepsGT k32
theorem k13 : TEnt.Ok Tryd.prog GT ent13 := ok13 keepsGT 
theorem k31 : TEnt.Ok Tryd.prog GT ent31 := ok31 keepsGT 
theorem k45 : TEnt.Ok Tryd.prog GT ent45 := ok45 keepsGT 
theorem k63 : TEnt.Ok Tryd.prog GT ent63 := ok63 keepsGT 
theorem k79 : TEnt.Ok Tryd.prog GT ent79 := ok79 keepsGT 
theorem k65 : TEnt.Ok Tryd.prog GT ent65 := ok65 keepsGT 
theorem k64 : TEnt.Ok Tryd.prog GT ent64 := ok64 keepsGT k63 k79
theorem k43 : TEnt.Ok Tryd.prog GT ent43 := ok43 keepsGT 
theorem k42 : TEnt.Ok Tryd.prog GT ent42 := ok42 keepsGT k63 k64 k65
theorem k44 : TEnt.Ok Tryd.prog GT ent44 := ok44 keepsGT 
theorem k17 : TEnt.Ok Tryd.prog GT ent17 := ok17 keepsGT k42 k43 k44
theorem k18 : TEnt.Ok Tryd.prog GT ent18 := ok18 keepsGT 
theorem k35 : TEnt.Ok Tryd.prog GT ent35 := ok35 keepsGT 
theorem k15 : TEnt.Ok Tryd.prog GT ent15 := ok15 keepsGT k13 k35
theorem k14 : TEnt.Ok Tryd.prog GT ent14 := ok14 keepsGT k12 okItoa okJoin
theorem k39 : TEnt.Ok Tryd.prog GT ent39 := ok39 keepsGT okTrim okAtoi
theorem k48 : TEnt.Ok Tryd.prog GT ent48 := ok48 
theorem k40 : TEnt.Ok Tryd.prog GT ent40 := ok40 keepsGT k48
theorem k41 : TEnt.Ok Tryd.prog GT ent41 := ok41 
theorem k46 : TEnt.Ok Tryd.prog GT ent46 := ok46 keepsGT k12 k32 k40 k41 k48
theorem k16 : TEnt.Ok Tryd.prog GT ent16 := ok16 keepsGT k32 okSplit okCut okTrim k39 k40 k41
theorem k19 : TEnt.Ok Tryd.prog GT ent19 := ok19 keepsGT k12 k32
theorem k20 : TEnt.Ok Tryd.prog GT ent20 := ok20 keepsGT k13 k45
theorem k21 : TEnt.Ok Tryd.prog GT ent21 := ok21 keepsGT k12
theorem k22 : TEnt.Ok Tryd.prog GT ent22 := ok22 keepsGT k13 k45
theorem k23 : TEnt.Ok Tryd.prog GT ent23 := ok23 keepsGT k12
theorem k24 : TEnt.Ok Tryd.prog GT ent24 := ok24 keepsGT k13
theorem k25 : TEnt.Ok Tryd.prog GT ent25 := ok25 keepsGT k46
theorem k26 : TEnt.Ok Tryd.prog GT ent26 := ok26 keepsGT k13 k31 k43 k44 k45
theorem k27 : TEnt.Ok Tryd.prog GT ent27 := ok27 keepsGT k46
theorem k47 : TEnt.Ok Tryd.prog GT ent47 := ok47 keepsGT 
theorem k28 : TEnt.Ok Tryd.prog GT ent28 := ok28 keepsGT k13 k31 k44 k45 k47
theorem k29 : TEnt.Ok Tryd.prog GT ent29 := ok29 keepsGT k12 k40 k41 k48
theorem k30 : TEnt.Ok Tryd.prog GT ent30 := ok30 keepsGT k13 k43 k44 k45
theorem k11 : TEnt.Ok Tryd.prog GT ent11 := ok11 keepsGT k12 k14 k16 k18 k19 k21 k23 k27
theorem k3 : TEnt.Ok Tryd.prog GT ent3 := ok3 keepsGT k11 k12 k13 k14 k15
theorem k4 : TEnt.Ok Tryd.prog GT ent4 := ok4 keepsGT k11 k16 k17 k18
theorem k5 : TEnt.Ok Tryd.prog GT ent5 := ok5 keepsGT k11 k18 k19 k20 k21 k22 k23 k24
theorem k6 : TEnt.Ok Tryd.prog GT ent6 := ok6 keepsGT k11 k12 k14 k16 k18
theorem k7 : TEnt.Ok Tryd.prog GT ent7 := ok7 keepsGT k11 k12 k19 k21 k23
theorem k8 : TEnt.Ok Tryd.prog GT ent8 := ok8 keepsGT k11 k18 k25 k26 k27 k28
theorem k9 : TEnt.Ok Tryd.prog GT ent9 := ok9 keepsGT k11 k18 k29 k30
theorem k10 : TEnt.Ok Tryd.prog GT ent10 := ok10 keepsGT k11 k12 k19 k25 k27 k29 k31
end Go.Proofs.YtdffccmlfhdkpaaDoor
