/-
  What the claims share: what is known of the library's variables, the world of the witnesses, the contracts one upon another.
-/
import Derived.Test.YtnhjoplleldbfaaDoorK4
import Derived.PinnedBridge
import Derived.Test.YtnhjoplleldbfaaDoorFb
import Derived.Test.YtnhjoplleldbfaaDoorCards
import Derived.Test.YtnhjoplleldbfaaDoorTie
import Derived.WalkKit
import Derived.ProofKit
import Derived.OpenShut
import Derived.Lay
import Derived.Deep.DeepHandedRow
namespace Go.Proofs.YtnhjoplleldbfaaDoor
open Go Go.Nu

theorem own : ownKnob Tryd.prog.godebug = none := by kernel_rfl
theorem laidOk : laidOutB Tryd.prog = true := by kernel_rfl
theorem uB : Tryd.prog.underlying 4 = some .bool := by kernel_rfl
def LAID : List (String × DataW Unit) := Rows.exchangeEncodesRow.laid
theorem gP : Tryd.prog.globalNamed "internal/strconv.uint64pow10" = some 0 := by kernel_rfl
theorem gPt : (Tryd.prog.globals[0]?).map (·.type) = some 119 := by kernel_rfl
theorem uP : Tryd.prog.underlying 119 = some (.array 20 103) := by kernel_rfl
theorem uE : Tryd.prog.underlying 103 = some (.int .u64) := by kernel_rfl
theorem cP : Tryd.prog.cellsOf 119 = 20 := by kernel_rfl
theorem cE : Tryd.prog.cellsOf 103 = 1 := by kernel_rfl
theorem tabP : (Rows.laid_internal_strconv_uint64pow10 : DataW Unit) = Lib.tabData .u64 Lib.pow10Tab := rfl
theorem shM (w : World) (h : w.ShapedOpen Tryd.prog) : ∃ m : Int, w.cell? ⟨1, 0, none⟩ = some (.int .i64 m) := Go.Proofs.cell_of_shapedOpen_int (zero := #[.int .i64 0]) (t := 3) h (of_decide_eq_true (by kernel_rfl)) (by kernel_rfl) rfl (by kernel_rfl) (by kernel_rfl) Tryd.underlying3
theorem gt_of {W : World} (h : laidMetH Tryd.prog LAID W) (hs : W.ShapedOpen Tryd.prog) : GT W := by
  have h0 : laidMet Tryd.prog LAID W := h
  have h1 : laidMet Tryd.prog (("internal/strconv.uint64pow10", Lib.tabData .u64 Lib.pow10Tab) :: [("unicode/utf8.acceptRanges", Rows.laid_unicode_utf8_acceptRanges), ("unicode/utf8.first", Rows.laid_unicode_utf8_first)]) W := by
    rw [← tabP]
    exact h0.tail.tail
  have h3 := Lib.tabIs_of_head (zs := Lib.pow10Tab) gP gPt uP uE cE cP h1
  obtain ⟨m, hm⟩ := shM W hs
  have q1 := Lib.laidMet.reads h0 (.tail _ (.tail _ (.tail _ (.tail _ (.head _)))))
  have q2 := Lib.laidMet.reads h0 (.tail _ (.tail _ (.tail _ (.head _))))
  rw [show Rows.laid_unicode_utf8_first = Lib.firstData from Pinned.utf8First_eq] at q1
  rw [show Rows.laid_unicode_utf8_acceptRanges = Lib.acceptData from by kernel_rfl] at q2
  have q3 := utf8Tabs_of_readsT (U8Types.of196 Tryd.lays196) ⟨by kernel_rfl, by kernel_rfl, by kernel_rfl, by kernel_rfl, by kernel_rfl, by kernel_rfl, by kernel_rfl⟩ q1 q2
  exact ⟨h3, ⟨_, hm, m, rfl⟩, q3⟩
set_option maxRecDepth 100000 in
theorem laid_met (os : Os) (args : Array Value) : laidMet Tryd.prog LAID ((World.laidAll Tryd.prog os LAID).forCall (fun _ _ => 0) ⟨#[], args, []⟩).memory :=
  laidMet_laidAll args (by kernel_rfl) (by kernel_rfl)
theorem k50 : TEnt.Ok Tryd.prog GT ent50 := ok50 keepsGT okTrim
theorem k71 : TEnt.Ok Tryd.prog GT ent71 := ok71 keepsGT okVal
theorem k70 : TEnt.Ok Tryd.prog GT ent70 := ok70 keepsGT 
theorem k52 : TEnt.Ok Tryd.prog GT ent52 := ok52 keepsGT k70 k71
theorem k35 : TEnt.Ok Tryd.prog GT ent35 := ok35 keepsGT k50 okRepl k52
theorem k20 : TEnt.Ok Tryd.prog GT ent20 := ok20 keepsGT okTrim k35
theorem k23 : TEnt.Ok Tryd.prog GT ent23 := ok23 keepsGT okItoa okRepeat
theorem k9 : TEnt.Ok Tryd.prog GT ent9 := ok9 keepsGT k20 okLen okWriteString k23 okItoa okString
theorem k80 : TEnt.Ok Tryd.prog GT ent80 := ok80 keepsGT 
theorem k61 : TEnt.Ok Tryd.prog GT ent61 := ok61 keepsGT k80
theorem k59 : TEnt.Ok Tryd.prog GT ent59 := ok59 keepsGT 
theorem k58 : TEnt.Ok Tryd.prog GT ent58 := ok58 keepsGT k59
theorem k60 : TEnt.Ok Tryd.prog GT ent60 := ok60 keepsGT k59
theorem k39 : TEnt.Ok Tryd.prog GT ent39 := ok39 keepsGT k58 k59 k60 k61
theorem k26 : TEnt.Ok Tryd.prog GT ent26 := ok26 keepsGT k39
theorem k27 : TEnt.Ok Tryd.prog GT ent27 := ok27 keepsGT 
theorem k10 : TEnt.Ok Tryd.prog GT ent10 := ok10 keepsGT k26 k27
theorem k42 : TEnt.Ok Tryd.prog GT ent42 := ok42 keepsGT 
theorem k33 : TEnt.Ok Tryd.prog GT ent33 := ok33 keepsGT k42
theorem k17 : TEnt.Ok Tryd.prog GT ent17 := ok17 keepsGT k33
theorem k19 : TEnt.Ok Tryd.prog GT ent19 := ok19 keepsGT k17
theorem k8 : TEnt.Ok Tryd.prog GT ent8 := ok8 keepsGT 
theorem k14 : TEnt.Ok Tryd.prog GT ent14 := ok14 keepsGT k8
theorem k15 : TEnt.Ok Tryd.prog GT ent15 := ok15 keepsGT k9 okLen okWriteString okString
theorem k16 : TEnt.Ok Tryd.prog GT ent16 := ok16 keepsGT k10
theorem k29 : TEnt.Ok Tryd.prog GT ent29 := ok29 keepsGT 
theorem k30 : TEnt.Ok Tryd.prog GT ent30 := ok30 keepsGT 
theorem k41 : TEnt.Ok Tryd.prog GT ent41 := ok41 keepsGT k29 k30 okSplit okTrimS
theorem k32 : TEnt.Ok Tryd.prog GT ent32 := ok32 keepsGT k29 k30 okIdxB k41
theorem k11 : TEnt.Ok Tryd.prog GT ent11 := ok11 keepsGT k29 k30
theorem k13 : TEnt.Ok Tryd.prog GT ent13 := ok13 keepsGT k9 k32
theorem k18 : TEnt.Ok Tryd.prog GT ent18 := ok18 keepsGT k11 k13
theorem k7 : TEnt.Ok Tryd.prog GT ent7 := ok7 keepsGT k9 k11 k18
theorem k3 : TEnt.Ok Tryd.prog GT ent3 := ok3 keepsGT k7 k8 k9 k10
theorem k5 : TEnt.Ok Tryd.prog GT ent5 := ok5 keepsGT k7 k14 k15 k16
theorem k6 : TEnt.Ok Tryd.prog GT ent6 := ok6 keepsGT k7 k9 k11 k13 k14 k15 k17 k18 k19
end Go.Proofs.YtnhjoplleldbfaaDoor
