/-
  What the claims share: what is known of the library's variables, the world of the witnesses, the contracts one upon another.
-/
import Derived.Test.YtbkaenpcmbplpaaGreatDoorK5
import Derived.PinnedBridge
import Derived.Test.YtbkaenpcmbplpaaGreatDoorF
import Derived.Test.YtbkaenpcmbplpaaGreatDoorCards
import Derived.Test.YtbkaenpcmbplpaaGreatDoorTie
import Derived.WalkKit
import Derived.ProofKit
import Derived.OpenShut
import Derived.Lay
import Derived.Deep.DeepHandedRow
namespace Go.Proofs.YtbkaenpcmbplpaaGreatDoor
open Go Go.Nu

theorem own : ownKnob Tryz.prog.godebug = none := by kernel_rfl
theorem laidOk : laidOutB Tryz.prog = true := by kernel_rfl
theorem uB : Tryz.prog.underlying 4 = some .bool := by kernel_rfl
def LAID : List (String × DataW Unit) := Rows.linesPrintsRow.laid
theorem gP : Tryz.prog.globalNamed "internal/strconv.uint64pow10" = some 3 := by kernel_rfl
theorem gPt : (Tryz.prog.globals[3]?).map (·.type) = some 142 := by kernel_rfl
theorem uP : Tryz.prog.underlying 142 = some (.array 20 119) := by kernel_rfl
theorem uE : Tryz.prog.underlying 119 = some (.int .u64) := by kernel_rfl
theorem cP : Tryz.prog.cellsOf 142 = 20 := by kernel_rfl
theorem cE : Tryz.prog.cellsOf 119 = 1 := by kernel_rfl
theorem tabP : (Rows.laid_internal_strconv_uint64pow10 : DataW Unit) = Lib.tabData .u64 Lib.pow10Tab := rfl
theorem gS : Tryz.prog.globalNamed "strconv.ErrSyntax" = some 4 := by kernel_rfl
theorem gSt : (Tryz.prog.globals[4]?).map (·.type) = some 53 := by kernel_rfl
theorem gR : Tryz.prog.globalNamed "strconv.ErrRange" = some 5 := by kernel_rfl
theorem gRt : (Tryz.prog.globals[5]?).map (·.type) = some 53 := by kernel_rfl
theorem star : "*" ++ "errors.errorString" = "*errors.errorString" := by decide
theorem rowP (u : TypeId) (h : Tryz.prog.typeName? 3 u = some "*errors.errorString") : u = 158 :=
  typeName_ptr_named (nm := "errors.errorString") (by rw [star]; kernel_rfl) (by kernel_rfl) (by decide) u (by rw [star]; exact h)
theorem cS : Tryz.prog.cellsOf 160 = 1 := by kernel_rfl
theorem c9 : Tryz.prog.cellsOf 9 = 1 := by kernel_rfl
theorem gt_of {W : World} (h : laidMetH Tryz.prog LAID W) (hs : W.ShapedOpen Tryz.prog) : GT W := by
  have h0 : laidMet Tryz.prog LAID W := h
  have h1 : laidMet Tryz.prog (("internal/strconv.uint64pow10", Lib.tabData .u64 Lib.pow10Tab) :: [("unicode/utf8.acceptRanges", Rows.laid_unicode_utf8_acceptRanges), ("strconv.ErrRange", Rows.laid_strconv_ErrRange), ("strconv.ErrSyntax", Rows.laid_strconv_ErrSyntax), ("unicode/utf8.first", Rows.laid_unicode_utf8_first)]) W := by
    rw [← tabP]
    exact h0.tail.tail
  have h2 := h1
  have h3 := Lib.tabIs_of_head (zs := Lib.pow10Tab) gP gPt uP uE cE cP h2
  obtain ⟨m, hm⟩ := Tryz.laysM145.s1_3 W hs
  have h4 := h2.tail.tail
  obtain ⟨a1, _, hv1, _⟩ := laid_sentinel h4 gR gRt Tryz.underlying53 rowP Tryz.underlying158 Tryz.underlying160 rfl rfl Tryz.underlying9 cS c9
  obtain ⟨a2, _, hv2, _⟩ := laid_sentinel h4.tail gS gSt Tryz.underlying53 rowP Tryz.underlying158 Tryz.underlying160 rfl rfl Tryz.underlying9 cS c9
  have q1 := Lib.laidMet.reads h0 (.tail _ (.tail _ (.tail _ (.tail _ (.tail _ (.tail _ (.head _)))))))
  have q2 := Lib.laidMet.reads h0 (.tail _ (.tail _ (.tail _ (.head _))))
  rw [show Rows.laid_unicode_utf8_first = Lib.firstData from Pinned.utf8First_eq] at q1
  rw [show Rows.laid_unicode_utf8_acceptRanges = Lib.acceptData from by kernel_rfl] at q2
  have q3 := utf8Tabs_of_readsT (U8Types.of196 Tryz.lays196) ⟨by kernel_rfl, by kernel_rfl, by kernel_rfl, by kernel_rfl, by kernel_rfl, by kernel_rfl, by kernel_rfl⟩ q1 q2
  exact ⟨h3, ⟨_, hm, m, rfl⟩, ⟨_, World.var?_cell gS hv2 0, _, _, rfl⟩, ⟨_, World.var?_cell gR hv1 0, _, _, rfl⟩, q3⟩
set_option maxRecDepth 100000 in
theorem laid_met (os : Os) (args : Array Value) : laidMet Tryz.prog LAID ((World.laidAll Tryz.prog os LAID).forCall (fun _ _ => 0) ⟨#[], args, []⟩).memory :=
  laidMet_laidAll args (by kernel_rfl) (by kernel_rfl)
theorem k61 : TEnt.Ok Tryz.prog GT ent61 := ok61 keepsGT okTrim
theorem k82 : TEnt.Ok Tryz.prog GT ent82 := ok82 keepsGT 
theorem k83 : TEnt.Ok Tryz.prog GT ent83 := ok83 keepsGT okVal
theorem k62 : TEnt.Ok Tryz.prog GT ent62 := ok62 keepsGT k82 k83
theorem k36 : TEnt.Ok Tryz.prog GT ent36 := ok36 keepsGT okRepl k61 k62
theorem k23 : TEnt.Ok Tryz.prog GT ent23 := ok23 keepsGT okTrim k36
theorem k39 : TEnt.Ok Tryz.prog GT ent39 := ok39 keepsGT 
theorem k25 : TEnt.Ok Tryz.prog GT ent25 := ok25 keepsGT okItoa k39
theorem k26 : TEnt.Ok Tryz.prog GT ent26 := ok26 keepsGT okWriteString okString k36 okItoa okRepl okWriteByte
theorem k11 : TEnt.Ok Tryz.prog GT ent11 := ok11 keepsGT k23 okWriteString k25 k26 okString
theorem k75 : TEnt.Ok Tryz.prog GT ent75 := ok75 keepsGT okString okWriteByte okHas
theorem k49 : TEnt.Ok Tryz.prog GT ent49 := ok49 keepsGT k26 okRepl okCut okAtoi okSplitN k75
theorem k48 : TEnt.Ok Tryz.prog GT ent48 := ok48 keepsGT k23 k25 k39 okSplit okHas okAtoi
theorem k31 : TEnt.Ok Tryz.prog GT ent31 := ok31 keepsGT okCut k48 k49
theorem k13 : TEnt.Ok Tryz.prog GT ent13 := ok13 keepsGT k31
theorem k16 : TEnt.Ok Tryz.prog GT ent16 := ok16 keepsGT k31
theorem k20 : TEnt.Ok Tryz.prog GT ent20 := ok20 keepsGT k11 okWriteString okString okLen
theorem k67 : TEnt.Ok Tryz.prog GT ent67 := ok67 keepsGT 
theorem k66 : TEnt.Ok Tryz.prog GT ent66 := ok66 keepsGT k67
theorem k68 : TEnt.Ok Tryz.prog GT ent68 := ok68 keepsGT k67
theorem k88 : TEnt.Ok Tryz.prog GT ent88 := ok88 keepsGT 
theorem k69 : TEnt.Ok Tryz.prog GT ent69 := ok69 keepsGT k88
theorem k42 : TEnt.Ok Tryz.prog GT ent42 := ok42 keepsGT k66 k67 k68 k69
theorem k46 : TEnt.Ok Tryz.prog GT ent46 := ok46 keepsGT 
theorem k45 : TEnt.Ok Tryz.prog GT ent45 := ok45 keepsGT 
theorem k30 : TEnt.Ok Tryz.prog GT ent30 := ok30 keepsGT k42 k45 k46
theorem k28 : TEnt.Ok Tryz.prog GT ent28 := ok28 keepsGT k42
theorem k43 : TEnt.Ok Tryz.prog GT ent43 := ok43 keepsGT 
theorem k44 : TEnt.Ok Tryz.prog GT ent44 := ok44 keepsGT 
theorem k29 : TEnt.Ok Tryz.prog GT ent29 := ok29 keepsGT k43 k44
theorem k12 : TEnt.Ok Tryz.prog GT ent12 := ok12 keepsGT k28 k29 k30
theorem k77 : TEnt.Ok Tryz.prog GT ent77 := ok77 keepsGT k67
theorem k52 : TEnt.Ok Tryz.prog GT ent52 := ok52 keepsGT k30 k77
theorem k50 : TEnt.Ok Tryz.prog GT ent50 := ok50 keepsGT 
theorem k76 : TEnt.Ok Tryz.prog GT ent76 := ok76 keepsGT 
theorem k51 : TEnt.Ok Tryz.prog GT ent51 := ok51 keepsGT k28 k29 k76
theorem k32 : TEnt.Ok Tryz.prog GT ent32 := ok32 keepsGT k50 k51 k52
theorem k14 : TEnt.Ok Tryz.prog GT ent14 := ok14 keepsGT k32
theorem k21 : TEnt.Ok Tryz.prog GT ent21 := ok21 keepsGT k12
theorem k17 : TEnt.Ok Tryz.prog GT ent17 := ok17 keepsGT k32
theorem k53 : TEnt.Ok Tryz.prog GT ent53 := ok53 keepsGT 
theorem k33 : TEnt.Ok Tryz.prog GT ent33 := ok33 keepsGT k53
theorem k15 : TEnt.Ok Tryz.prog GT ent15 := ok15 keepsGT k33
theorem k18 : TEnt.Ok Tryz.prog GT ent18 := ok18 keepsGT k15
theorem k22 : TEnt.Ok Tryz.prog GT ent22 := ok22 keepsGT 
theorem k9 : TEnt.Ok Tryz.prog GT ent9 := ok9 keepsGT k22
theorem k19 : TEnt.Ok Tryz.prog GT ent19 := ok19 keepsGT k9
theorem k10 : TEnt.Ok Tryz.prog GT ent10 := ok10 keepsGT k11 k13 k16
theorem k3 : TEnt.Ok Tryz.prog GT ent3 := ok3 keepsGT k9 k10 k11 k12
theorem k4 : TEnt.Ok Tryz.prog GT ent4 := ok4 keepsGT k10 k13 k14 k15
theorem k5 : TEnt.Ok Tryz.prog GT ent5 := ok5 keepsGT k10 k16 k17 k18
theorem k6 : TEnt.Ok Tryz.prog GT ent6 := ok6 keepsGT k9 k10 k11 k13 k15
theorem k7 : TEnt.Ok Tryz.prog GT ent7 := ok7 keepsGT k10 k19 k20 k21
theorem k8 : TEnt.Ok Tryz.prog GT ent8 := ok8 keepsGT k10 k16 k18 k19 k20
end Go.Proofs.YtbkaenpcmbplpaaGreatDoor
