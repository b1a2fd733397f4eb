/-
  What the claims share: what is known of the library's variables, the world of the witnesses, the contracts one upon another.
-/
import Derived.Test.YtekgjongmjnoaaaDoorK4
import Derived.Test.YtekgjongmjnoaaaDoorF
import Derived.Test.YtekgjongmjnoaaaDoorCards
import Derived.Test.YtekgjongmjnoaaaDoorTie
import Derived.WalkKit
import Derived.ProofKit
import Derived.OpenShut
import Derived.Lay
import Derived.Deep.DeepHandedRow
namespace Go.Proofs.YtekgjongmjnoaaaDoor
open Go Go.Nu

theorem own : ownKnob Tryd.prog.godebug = none := by kernel_rfl
theorem laidOk : laidOutB Tryd.prog = true := by kernel_rfl
theorem uB : Tryd.prog.underlying 4 = some .bool := by kernel_rfl
def LAID : List (String × DataW Unit) := Rows.moneySharesRow.laid
theorem gP : Tryd.prog.globalNamed "internal/strconv.uint64pow10" = some 5 := by kernel_rfl
theorem gPt : (Tryd.prog.globals[5]?).map (·.type) = some 112 := by kernel_rfl
theorem uP : Tryd.prog.underlying 112 = some (.array 20 84) := by kernel_rfl
theorem uE : Tryd.prog.underlying 84 = some (.int .u64) := by kernel_rfl
theorem cP : Tryd.prog.cellsOf 112 = 20 := by kernel_rfl
theorem cE : Tryd.prog.cellsOf 84 = 1 := by kernel_rfl
theorem tabP : (Rows.laid_internal_strconv_uint64pow10 : DataW Unit) = Lib.tabData .u64 Lib.pow10Tab := rfl
theorem gS : Tryd.prog.globalNamed "strconv.ErrSyntax" = some 1 := by kernel_rfl
theorem gSt : (Tryd.prog.globals[1]?).map (·.type) = some 42 := by kernel_rfl
theorem gR : Tryd.prog.globalNamed "strconv.ErrRange" = some 2 := by kernel_rfl
theorem gRt : (Tryd.prog.globals[2]?).map (·.type) = some 42 := by kernel_rfl
theorem star : "*" ++ "errors.errorString" = "*errors.errorString" := by decide
theorem rowP (u : TypeId) (h : Tryd.prog.typeName? 3 u = some "*errors.errorString") : u = 117 :=
  typeName_ptr_named (nm := "errors.errorString") (by rw [star]; kernel_rfl) (by kernel_rfl) (by decide) u (by rw [star]; exact h)
theorem cS : Tryd.prog.cellsOf 119 = 1 := by kernel_rfl
theorem c9 : Tryd.prog.cellsOf 9 = 1 := by kernel_rfl
theorem gt_of {W : World} (h : laidMetH Tryd.prog LAID W) (hs : W.ShapedOpen Tryd.prog) : GT W := by
  have h0 : laidMet Tryd.prog LAID W := h
  have h1 : laidMet Tryd.prog (("internal/strconv.uint64pow10", Lib.tabData .u64 Lib.pow10Tab) :: [("unicode/utf8.acceptRanges", Rows.laid_unicode_utf8_acceptRanges), ("strconv.ErrRange", Rows.laid_strconv_ErrRange), ("strconv.ErrSyntax", Rows.laid_strconv_ErrSyntax), ("unicode/utf8.first", Rows.laid_unicode_utf8_first)]) W := by
    rw [← tabP]
    exact h0.tail.tail
  have h2 := h1
  have h3 := Lib.tabIs_of_head (zs := Lib.pow10Tab) gP gPt uP uE cE cP h2
  obtain ⟨m, hm⟩ := Tryd.laysM145.s1_3 W hs
  have h4 := h2.tail.tail
  obtain ⟨a1, _, hv1, _⟩ := laid_sentinel h4 gR gRt Tryd.underlying42 rowP Tryd.underlying117 Tryd.underlying119 rfl rfl Tryd.underlying9 cS c9
  obtain ⟨a2, _, hv2, _⟩ := laid_sentinel h4.tail gS gSt Tryd.underlying42 rowP Tryd.underlying117 Tryd.underlying119 rfl rfl Tryd.underlying9 cS c9
  exact ⟨h3, ⟨_, hm, m, rfl⟩, ⟨_, World.var?_cell gS hv2 0, _, _, rfl⟩, ⟨_, World.var?_cell gR hv1 0, _, _, rfl⟩⟩
set_option maxRecDepth 100000 in
theorem laid_met (os : Os) (args : Array Value) : laidMet Tryd.prog LAID ((World.laidAll Tryd.prog os LAID).forCall (fun _ _ => 0) ⟨#[], args, []⟩).memory :=
  laidMet_laidAll args (by kernel_rfl) (by kernel_rfl)
theorem k16 : TEnt.Ok Tryd.prog GT ent16 := ok16 keepsGT 
theorem k20 : TEnt.Ok Tryd.prog GT ent20 := ok20 keepsGT 
theorem k17 : TEnt.Ok Tryd.prog GT ent17 := ok17 keepsGT k16
theorem k21 : TEnt.Ok Tryd.prog GT ent21 := ok21 keepsGT k20
theorem k18 : TEnt.Ok Tryd.prog GT ent18 := ok18 keepsGT k16
theorem k19 : TEnt.Ok Tryd.prog GT ent19 := ok19 keepsGT k20
theorem k23 : TEnt.Ok Tryd.prog GT ent23 := ok23 keepsGT 
theorem k48 : TEnt.Ok Tryd.prog GT ent48 := ok48 k23
theorem k30 : TEnt.Ok Tryd.prog GT ent30 := ok30 k48
theorem k22 : TEnt.Ok Tryd.prog GT ent22 := ok22 k30
theorem k9 : TEnt.Ok Tryd.prog GT ent9 := ok9 keepsGT k16 k22
theorem k10 : TEnt.Ok Tryd.prog GT ent10 := ok10 keepsGT k20
theorem k11 : TEnt.Ok Tryd.prog GT ent11 := ok11 keepsGT 
theorem k29 : TEnt.Ok Tryd.prog GT ent29 := ok29 keepsGT 
theorem k14 : TEnt.Ok Tryd.prog GT ent14 := ok14 keepsGT k16 okItoa okRepeat
theorem k15 : TEnt.Ok Tryd.prog GT ent15 := ok15 keepsGT k20 k29
theorem k12 : TEnt.Ok Tryd.prog GT ent12 := ok12 keepsGT k16 okCut okTrim okItoa okAtoi
theorem k13 : TEnt.Ok Tryd.prog GT ent13 := ok13 keepsGT 
theorem k8 : TEnt.Ok Tryd.prog GT ent8 := ok8 keepsGT k9 k11 k12 k14 k17
theorem k3 : TEnt.Ok Tryd.prog GT ent3 := ok3 keepsGT k8 k9 k10 k11
theorem k4 : TEnt.Ok Tryd.prog GT ent4 := ok4 keepsGT k8 k12 k13 k14 k15
theorem k5 : TEnt.Ok Tryd.prog GT ent5 := ok5 keepsGT k8 k9
theorem k6 : TEnt.Ok Tryd.prog GT ent6 := ok6 keepsGT k8 k12 k14 k16 k17
theorem k7 : TEnt.Ok Tryd.prog GT ent7 := ok7 keepsGT k8 k16 k17 k18 k19 k20 k21
end Go.Proofs.YtekgjongmjnoaaaDoor
