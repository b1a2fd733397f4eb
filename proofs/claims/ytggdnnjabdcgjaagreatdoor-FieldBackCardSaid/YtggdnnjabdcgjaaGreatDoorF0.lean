/-
  THE FUNCTIONS AS PLAIN ONES (printed by a program of ours), and that they are what the code's runs give.
-/
import Derived.Test.YtggdnnjabdcgjaaGreatDoorG
namespace Go.Proofs.YtggdnnjabdcgjaaGreatDoor.S
open Go Go.Nu
set_option maxRecDepth 100000
set_option linter.unusedVariables false
def SHF : List (TypeId × Sh) := [(5, .byte), (9, .str), (46, (.agg 46 (.pair .byte .str))), (99, (.arr 99 .bool)), (100, (.arr 100 .bool)), (106, (.arr 106 .byte)), (123, (.arr 123 .byte)), (126, (.arr 126 (.agg 125 (.pair .byte .byte)))), (128, (.arr 128 (.int .u64))), (130, (.arr 130 .byte)), (142, (.arr 142 .byte)), (143, (.arr 143 .byte))]
/-- library/field.Set$1 -/
noncomputable def F35 (a0 : UInt8 × List UInt8) (a1 : UInt8) : Option (Bool) :=
  some (decide ((UInt8.toNat a0.1 : Int) = (UInt8.toNat a1 : Int)))
def dc35 : DC :=
  (.seq (.reg [⟨none, (.bx 2 (some 46) (.t 0))⟩,
    ⟨none, (.mv (some 3) (.v (.bool false)))⟩])
  (.seq (.reg [⟨none, (.fa 4 46 0 (.t 2))⟩,
    ⟨none, (.ld 5 none (.t 4))⟩,
    ⟨none, (.ld 6 none (.t 1))⟩,
    ⟨none, (.ar 7 .eql (.t 5) (.t 6))⟩,
    ⟨none, (.mv (some 3) (.t 7))⟩])
  .ret))
noncomputable def ent35 : TEnt := ⟨35, [(.agg 46 (.pair .byte .str)), (.rp .byte)], .bool, fun x => F35 x.1 x.2, .plain⟩
theorem eq35 (x : dens ent35.as) : ent35.F x = evF [] SHF dc35 [(.tmp 3)] ent35.as ent35.rs x := by kernel_rfl
/-- slices.IndexFunc[[]library/api.Sub,library/api.Sub] -/
noncomputable def F29 (a0 : List (UInt8 × List UInt8)) (a1 : UInt8 × Unit) : Option (Int) :=
  loopK (σ := Int) (fun p1 againp1 =>
    cond (decide (p1 < (List.length a0 : Int)))
      (gd (0 ≤ p1 ∧ p1 < (List.length a0 : Int)) <|
      bindO (F35 (List.getD a0 (Int.toNat p1) (0, [])) a1.1) fun y2 =>
      cond (y2)
        (some p1)
        (bnd (IntKind.wrap .i64 (p1 + (1 : Int))) fun x3 =>
        againp1 x3))
      (some (-1 : Int))) (0 : Int)
def dc29 : DC :=
  (.seq (.reg [⟨none, (.mv (some 4) (.v (.int .i64 0)))⟩])
  (.seq (.seq (.reg [⟨none, (.mv (some 6) (.t 0))⟩,
    ⟨none, (.ln 7 (some 46) (.t 6))⟩,
    ⟨none, (.mv (some 8) (.v (.int .i64 0)))⟩])
  (.block 0 (.loop ⟨[(8, (.lf (.int .i64)))], [], [4, 5, 9, 10, 11, 12, 13, 14, 15, 16, 17, 18].map .s⟩ (.seq (.reg [⟨none, (.ar 9 .lss (.t 8) (.t 7))⟩])
  (.seq (.cond (.t 9)
    .skip
    (.exit 0))
  (.seq (.block 1 (.seq (.reg [⟨none, (.mv (some 10) (.t 8))⟩,
    ⟨none, (.mv (some 5) (.t 10))⟩])
  (.seq (.reg [⟨none, (.mv (some 11) (.t 1))⟩,
    ⟨none, (.mv (some 12) (.t 0))⟩,
    ⟨none, (.mv (some 13) (.t 5))⟩,
    ⟨none, (.ea 14 46 (.t 12) (.t 13))⟩,
    ⟨none, (.ld 15 (some 46) (.t 14))⟩,
    ⟨none, (.cd (some 16) (.t 11) [(.t 15)])⟩])
  (.cond (.t 16)
    (.seq (.reg [⟨none, (.mv (some 17) (.t 5))⟩,
    ⟨none, (.mv (some 4) (.t 17))⟩])
  .ret)
    .skip))))
  (.reg [⟨none, (.ar 18 .add (.t 8) (.v (.int .i64 1)))⟩,
    ⟨none, (.mv (some 8) (.t 18))⟩])))))))
  (.seq (.reg [⟨none, (.mv (some 4) (.v (.int .i64 (-1))))⟩])
  .ret)))
noncomputable def ent29 : TEnt := ⟨29, [(.sl 46 (.agg 46 (.pair .byte .str))), (.fn 35 (.pair (.rp .byte) .unit))], (.int .i64), fun x => F29 x.1 x.2, .plain⟩
theorem eq29 (x : dens ent29.as) : ent29.F x = evF [ent35] SHF dc29 [(.tmp 4)] ent29.as ent29.rs x := by kernel_rfl
theorem mixedF : Tryz.prog.follows .mixedOrders = true := by kernel_rfl
section
variable {G : World → Prop} (hG : Keeps G)
include hG in
theorem ok35 : TEnt.Ok Tryz.prog G ent35 :=
  ent_ok hG mixedF (fn := Tryz.f35) (d := dc35) (crs := [(.tmp 3)]) (hint := []) (TT := []) (SH := SHF) rfl rfl (by kernel_rfl) (by decide) rfl trivial eq35
include hG in
theorem ok29 (h35 : TEnt.Ok Tryz.prog G ent35) : TEnt.Ok Tryz.prog G ent29 :=
  ent_ok hG mixedF (fn := Tryz.f29) (d := dc29) (crs := [(.tmp 4)]) (hint := []) (TT := [ent35]) (SH := SHF) rfl rfl (by kernel_rfl) (by decide) rfl ⟨h35, trivial⟩ eq29
end
end Go.Proofs.YtggdnnjabdcgjaaGreatDoor.S
