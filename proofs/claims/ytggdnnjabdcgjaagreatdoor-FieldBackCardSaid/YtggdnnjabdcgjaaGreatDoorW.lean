/-
  What the claims share: what is known of the library's variables, the world of the witnesses, the contracts one upon another.
-/
import Derived.Test.YtggdnnjabdcgjaaGreatDoorK5
import Derived.PinnedBridge
import Derived.Test.YtggdnnjabdcgjaaGreatDoorF
import Derived.Test.YtggdnnjabdcgjaaGreatDoorH8
import Derived.Test.YtggdnnjabdcgjaaGreatDoorCards
import Derived.Test.YtggdnnjabdcgjaaGreatDoorTie
import Derived.WalkKit
import Derived.ProofKit
import Derived.OpenShut
import Derived.Lay
import Derived.Deep.DeepHandedRow
namespace Go.Proofs.YtggdnnjabdcgjaaGreatDoor
open Go Go.Nu

theorem own : ownKnob Tryz.prog.godebug = none := by kernel_rfl
theorem laidOk : laidOutB Tryz.prog = true := by kernel_rfl
theorem uB : Tryz.prog.underlying 4 = some .bool := by kernel_rfl
def LAID : List (String × DataW Unit) := Rows.fieldReadsRow.laid
theorem gP : Tryz.prog.globalNamed "internal/strconv.uint64pow10" = some 5 := by kernel_rfl
theorem gPt : (Tryz.prog.globals[5]?).map (·.type) = some 128 := by kernel_rfl
theorem uP : Tryz.prog.underlying 128 = some (.array 20 107) := by kernel_rfl
theorem uE : Tryz.prog.underlying 107 = some (.int .u64) := by kernel_rfl
theorem cP : Tryz.prog.cellsOf 128 = 20 := by kernel_rfl
theorem cE : Tryz.prog.cellsOf 107 = 1 := by kernel_rfl
theorem tabP : (Rows.laid_internal_strconv_uint64pow10 : DataW Unit) = Lib.tabData .u64 Lib.pow10Tab := rfl
theorem gS : Tryz.prog.globalNamed "strconv.ErrSyntax" = some 1 := by kernel_rfl
theorem gSt : (Tryz.prog.globals[1]?).map (·.type) = some 58 := by kernel_rfl
theorem gR : Tryz.prog.globalNamed "strconv.ErrRange" = some 2 := by kernel_rfl
theorem gRt : (Tryz.prog.globals[2]?).map (·.type) = some 58 := by kernel_rfl
theorem star : "*" ++ "errors.errorString" = "*errors.errorString" := by decide
theorem rowP (u : TypeId) (h : Tryz.prog.typeName? 3 u = some "*errors.errorString") : u = 136 :=
  typeName_ptr_named (nm := "errors.errorString") (by rw [star]; kernel_rfl) (by kernel_rfl) (by decide) u (by rw [star]; exact h)
theorem cS : Tryz.prog.cellsOf 138 = 1 := by kernel_rfl
theorem c9 : Tryz.prog.cellsOf 9 = 1 := by kernel_rfl
theorem gt_of {W : World} (h : laidMetH Tryz.prog LAID W) (hs : W.ShapedOpen Tryz.prog) : GT W := by
  have h0 : laidMet Tryz.prog LAID W := h
  have h1 : laidMet Tryz.prog (("internal/strconv.uint64pow10", Lib.tabData .u64 Lib.pow10Tab) :: [("unicode/utf8.acceptRanges", Rows.laid_unicode_utf8_acceptRanges), ("strconv.ErrRange", Rows.laid_strconv_ErrRange), ("strconv.ErrSyntax", Rows.laid_strconv_ErrSyntax), ("unicode/utf8.first", Rows.laid_unicode_utf8_first)]) W := by
    rw [← tabP]
    exact h0.tail.tail
  have h2 := h1
  have h3 := Lib.tabIs_of_head (zs := Lib.pow10Tab) gP gPt uP uE cE cP h2
  obtain ⟨m, hm⟩ := Tryz.laysM145.s1_3 W hs
  have h4 := h2.tail.tail
  obtain ⟨a1, _, hv1, _⟩ := laid_sentinel h4 gR gRt Tryz.underlying58 rowP Tryz.underlying136 Tryz.underlying138 rfl rfl Tryz.underlying9 cS c9
  obtain ⟨a2, _, hv2, _⟩ := laid_sentinel h4.tail gS gSt Tryz.underlying58 rowP Tryz.underlying136 Tryz.underlying138 rfl rfl Tryz.underlying9 cS c9
  have q1 := Lib.laidMet.reads h0 (.tail _ (.tail _ (.tail _ (.tail _ (.tail _ (.tail _ (.head _)))))))
  have q2 := Lib.laidMet.reads h0 (.tail _ (.tail _ (.tail _ (.head _))))
  rw [show Rows.laid_unicode_utf8_first = Lib.firstData from Pinned.utf8First_eq] at q1
  rw [show Rows.laid_unicode_utf8_acceptRanges = Lib.acceptData from by kernel_rfl] at q2
  have q3 := utf8Tabs_of_readsT (U8Types.of196 Tryz.lays196) ⟨by kernel_rfl, by kernel_rfl, by kernel_rfl, by kernel_rfl, by kernel_rfl, by kernel_rfl, by kernel_rfl⟩ q1 q2
  exact ⟨h3, ⟨_, hm, m, rfl⟩, ⟨_, World.var?_cell gS hv2 0, _, _, rfl⟩, ⟨_, World.var?_cell gR hv1 0, _, _, rfl⟩, q3⟩
set_option maxRecDepth 100000 in
theorem laid_met (os : Os) (args : Array Value) : laidMet Tryz.prog LAID ((World.laidAll Tryz.prog os LAID).forCall (fun _ _ => 0) ⟨#[], args, []⟩).memory :=
  laidMet_laidAll args (by kernel_rfl) (by kernel_rfl)
theorem k50 : TEnt.Ok Tryz.prog GT ent50 := ok50 keepsGT okTrim
theorem k68 : TEnt.Ok Tryz.prog GT ent68 := ok68 keepsGT 
theorem k69 : TEnt.Ok Tryz.prog GT ent69 := ok69 keepsGT okVal
theorem k51 : TEnt.Ok Tryz.prog GT ent51 := ok51 keepsGT k68 k69
theorem k26 : TEnt.Ok Tryz.prog GT ent26 := ok26 keepsGT okRepl k50 k51
theorem k56 : TEnt.Ok Tryz.prog GT ent56 := ok56 keepsGT 
theorem k28 : TEnt.Ok Tryz.prog GT ent28 := ok28 keepsGT k56
theorem k30 : TEnt.Ok Tryz.prog GT ent30 := ok30 keepsGT 
theorem k29 : TEnt.Ok Tryz.prog GT ent29 := ok29 keepsGT k30
theorem k12 : TEnt.Ok Tryz.prog GT ent12 := ok12 keepsGT k29
theorem k15 : TEnt.Ok Tryz.prog GT ent15 := ok15 keepsGT okIdxB
theorem k17 : TEnt.Ok Tryz.prog GT ent17 := ok17 keepsGT k15 okJoin
theorem k22 : TEnt.Ok Tryz.prog GT ent22 := ok22 keepsGT k26 okWriteString okItoa okRepl okWriteByte okString
theorem k48 : TEnt.Ok Tryz.prog GT ent48 := ok48 keepsGT okWriteByte okString okHas
theorem k24 : TEnt.Ok Tryz.prog GT ent24 := ok24 keepsGT k22 okRepl okSplitN okCut okAtoi k48
theorem k53 : TEnt.Ok Tryz.prog GT ent53 := ok53 keepsGT 
theorem k54 : TEnt.Ok Tryz.prog GT ent54 := ok54 keepsGT k53
theorem k52 : TEnt.Ok Tryz.prog GT ent52 := ok52 keepsGT k53
theorem k70 : TEnt.Ok Tryz.prog GT ent70 := ok70 keepsGT 
theorem k55 : TEnt.Ok Tryz.prog GT ent55 := ok55 keepsGT k70
theorem k27 : TEnt.Ok Tryz.prog GT ent27 := ok27 keepsGT k52 k53 k54 k55
theorem k19 : TEnt.Ok Tryz.prog GT ent19 := ok19 keepsGT 
theorem k13 : TEnt.Ok Tryz.prog GT ent13 := ok13 keepsGT 
theorem k32 : TEnt.Ok Tryz.prog GT ent32 := ok32 keepsGT 
theorem k16 : TEnt.Ok Tryz.prog GT ent16 := ok16 keepsGT k32
theorem k34 : TEnt.Ok Tryz.prog GT ent34 := ok34 keepsGT 
theorem k18 : TEnt.Ok Tryz.prog GT ent18 := ok18 keepsGT k16 k34
theorem k21 : TEnt.Ok Tryz.prog GT ent21 := ok21 keepsGT 
theorem k44 : TEnt.Ok Tryz.prog GT ent44 := ok44 keepsGT 
theorem k43 : TEnt.Ok Tryz.prog GT ent43 := ok43 keepsGT 
theorem k23 : TEnt.Ok Tryz.prog GT ent23 := ok23 keepsGT k27 k43 k44
theorem k49 : TEnt.Ok Tryz.prog GT ent49 := ok49 keepsGT k53
theorem k25 : TEnt.Ok Tryz.prog GT ent25 := ok25 keepsGT k23 k49
theorem k14 : TEnt.Ok Tryz.prog GT ent14 := ok14 keepsGT 
theorem k11 : TEnt.Ok Tryz.prog GT ent11 := ok11 keepsGT 
theorem k10 : TEnt.Ok Tryz.prog GT ent10 := ok10 keepsGT k12 k14 k15 k17 okSet k22 k24 k26
theorem k3 : TEnt.Ok Tryz.prog GT ent3 := ok3 keepsGT k10 k11 k12 k13 k14 k15 k16 k17 k18
theorem k4 : TEnt.Ok Tryz.prog GT ent4 := ok4 keepsGT k10 k11 k19 okSet k21
theorem k5 : TEnt.Ok Tryz.prog GT ent5 := ok5 keepsGT k10 k11 k22 k23
theorem k6 : TEnt.Ok Tryz.prog GT ent6 := ok6 keepsGT k10 k19 k24 k25
theorem k7 : TEnt.Ok Tryz.prog GT ent7 := ok7 keepsGT k10 k11 k12 k14 k15 okSet
theorem k8 : TEnt.Ok Tryz.prog GT ent8 := ok8 keepsGT k10 k11 k19 k26 k27 k28
theorem k9 : TEnt.Ok Tryz.prog GT ent9 := ok9 keepsGT k10 k11 k22 k24 k26 k28
end Go.Proofs.YtggdnnjabdcgjaaGreatDoor
