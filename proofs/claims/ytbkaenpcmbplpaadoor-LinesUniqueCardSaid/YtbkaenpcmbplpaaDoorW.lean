/-
  What the claims share: what is known of the library's variables, the world of the witnesses, the contracts one upon another.
-/
import Derived.Test.YtbkaenpcmbplpaaDoorK5
import Derived.PinnedBridge
import Derived.Test.YtbkaenpcmbplpaaDoorF
import Derived.Test.YtbkaenpcmbplpaaDoorCards
import Derived.Test.YtbkaenpcmbplpaaDoorTie
import Derived.WalkKit
import Derived.ProofKit
import Derived.OpenShut
import Derived.Lay
import Derived.Deep.DeepHandedRow
namespace Go.Proofs.YtbkaenpcmbplpaaDoor
open Go Go.Nu

theorem own : ownKnob Tryd.prog.godebug = none := by kernel_rfl
theorem laidOk : laidOutB Tryd.prog = true := by kernel_rfl
theorem uB : Tryd.prog.underlying 4 = some .bool := by kernel_rfl
def LAID : List (String × DataW Unit) := Rows.linesUniqueRow.laid
theorem gP : Tryd.prog.globalNamed "internal/strconv.uint64pow10" = some 5 := by kernel_rfl
theorem gPt : (Tryd.prog.globals[5]?).map (·.type) = some 128 := by kernel_rfl
theorem uP : Tryd.prog.underlying 128 = some (.array 20 106) := by kernel_rfl
theorem uE : Tryd.prog.underlying 106 = some (.int .u64) := by kernel_rfl
theorem cP : Tryd.prog.cellsOf 128 = 20 := by kernel_rfl
theorem cE : Tryd.prog.cellsOf 106 = 1 := by kernel_rfl
theorem tabP : (Rows.laid_internal_strconv_uint64pow10 : DataW Unit) = Lib.tabData .u64 Lib.pow10Tab := rfl
theorem gS : Tryd.prog.globalNamed "strconv.ErrSyntax" = some 1 := by kernel_rfl
theorem gSt : (Tryd.prog.globals[1]?).map (·.type) = some 49 := by kernel_rfl
theorem gR : Tryd.prog.globalNamed "strconv.ErrRange" = some 2 := by kernel_rfl
theorem gRt : (Tryd.prog.globals[2]?).map (·.type) = some 49 := by kernel_rfl
theorem star : "*" ++ "errors.errorString" = "*errors.errorString" := by decide
theorem rowP (u : TypeId) (h : Tryd.prog.typeName? 3 u = some "*errors.errorString") : u = 134 :=
  typeName_ptr_named (nm := "errors.errorString") (by rw [star]; kernel_rfl) (by kernel_rfl) (by decide) u (by rw [star]; exact h)
theorem cS : Tryd.prog.cellsOf 136 = 1 := by kernel_rfl
theorem c9 : Tryd.prog.cellsOf 9 = 1 := by kernel_rfl
theorem gt_of {W : World} (h : laidMetH Tryd.prog LAID W) (hs : W.ShapedOpen Tryd.prog) : GT W := by
  have h0 : laidMet Tryd.prog LAID W := h
  have h1 : laidMet Tryd.prog (("internal/strconv.uint64pow10", Lib.tabData .u64 Lib.pow10Tab) :: [("unicode/utf8.acceptRanges", Rows.laid_unicode_utf8_acceptRanges), ("strconv.ErrRange", Rows.laid_strconv_ErrRange), ("strconv.ErrSyntax", Rows.laid_strconv_ErrSyntax), ("unicode/utf8.first", Rows.laid_unicode_utf8_first)]) W := by
    rw [← tabP]
    exact h0.tail.tail
  have h2 := h1
  have h3 := Lib.tabIs_of_head (zs := Lib.pow10Tab) gP gPt uP uE cE cP h2
  obtain ⟨m, hm⟩ := Tryd.laysM145.s1_3 W hs
  have h4 := h2.tail.tail
  obtain ⟨a1, _, hv1, _⟩ := laid_sentinel h4 gR gRt Tryd.underlying49 rowP Tryd.underlying134 Tryd.underlying136 rfl rfl Tryd.underlying9 cS c9
  obtain ⟨a2, _, hv2, _⟩ := laid_sentinel h4.tail gS gSt Tryd.underlying49 rowP Tryd.underlying134 Tryd.underlying136 rfl rfl Tryd.underlying9 cS c9
  have q1 := Lib.laidMet.reads h0 (.tail _ (.tail _ (.tail _ (.tail _ (.tail _ (.tail _ (.head _)))))))
  have q2 := Lib.laidMet.reads h0 (.tail _ (.tail _ (.tail _ (.head _))))
  rw [show Rows.laid_unicode_utf8_first = Lib.firstData from Pinned.utf8First_eq] at q1
  rw [show Rows.laid_unicode_utf8_acceptRanges = Lib.acceptData from by kernel_rfl] at q2
  have q3 := utf8Tabs_of_readsT (U8Types.of196 Tryd.lays196) ⟨by kernel_rfl, by kernel_rfl, by kernel_rfl, by kernel_rfl, by kernel_rfl, by kernel_rfl, by kernel_rfl⟩ q1 q2
  exact ⟨h3, ⟨_, hm, m, rfl⟩, ⟨_, World.var?_cell gS hv2 0, _, _, rfl⟩, ⟨_, World.var?_cell gR hv1 0, _, _, rfl⟩, q3⟩
set_option maxRecDepth 100000 in
theorem laid_met (os : Os) (args : Array Value) : laidMet Tryd.prog LAID ((World.laidAll Tryd.prog os LAID).forCall (fun _ _ => 0) ⟨#[], args, []⟩).memory :=
  laidMet_laidAll args (by kernel_rfl) (by kernel_rfl)
theorem k39 : TEnt.Ok Tryd.prog GT ent39 := ok39 keepsGT okTrim
theorem k53 : TEnt.Ok Tryd.prog GT ent53 := ok53 keepsGT 
theorem k54 : TEnt.Ok Tryd.prog GT ent54 := ok54 keepsGT okVal
theorem k40 : TEnt.Ok Tryd.prog GT ent40 := ok40 keepsGT k53 k54
theorem k20 : TEnt.Ok Tryd.prog GT ent20 := ok20 keepsGT okRepl k39 k40
theorem k10 : TEnt.Ok Tryd.prog GT ent10 := ok10 keepsGT okTrim k20
theorem k23 : TEnt.Ok Tryd.prog GT ent23 := ok23 keepsGT 
theorem k12 : TEnt.Ok Tryd.prog GT ent12 := ok12 keepsGT okItoa k23
theorem k13 : TEnt.Ok Tryd.prog GT ent13 := ok13 keepsGT okWriteString okString k20 okItoa okRepl okWriteByte
theorem k6 : TEnt.Ok Tryd.prog GT ent6 := ok6 keepsGT k10 okWriteString k12 k13 okString
theorem k31 : TEnt.Ok Tryd.prog GT ent31 := ok31 keepsGT okString okWriteByte okHas
theorem k18 : TEnt.Ok Tryd.prog GT ent18 := ok18 keepsGT k13 okCut okRepl okAtoi okSplitN k31
theorem k17 : TEnt.Ok Tryd.prog GT ent17 := ok17 keepsGT k10 k12 k23 okSplit okHas okAtoi
theorem k9 : TEnt.Ok Tryd.prog GT ent9 := ok9 keepsGT okCut k17 k18
theorem k5 : TEnt.Ok Tryd.prog GT ent5 := ok5 keepsGT k9
theorem k7 : TEnt.Ok Tryd.prog GT ent7 := ok7 keepsGT k9
theorem k8 : TEnt.Ok Tryd.prog GT ent8 := ok8 keepsGT k6 okWriteString okString okLen
theorem k4 : TEnt.Ok Tryd.prog GT ent4 := ok4 keepsGT k5 k6 k7
theorem k3 : TEnt.Ok Tryd.prog GT ent3 := ok3 keepsGT k4 k5 k6 k7 k8
end Go.Proofs.YtbkaenpcmbplpaaDoor
