/-
  THE FUNCTIONS AS PLAIN ONES (printed by a program of ours), and that they are what the code's runs give.
-/
import Derived.Test.YtlgdcfelfifgfaaDoorE
namespace Go.Proofs.YtlgdcfelfifgfaaDoor
open Go Go.Nu
set_option maxRecDepth 100000
set_option linter.unusedVariables false
def SHF : List (TypeId × Sh) := [(5, .byte), (9, .str), (48, (.arr 48 .bool)), (49, (.arr 49 .bool)), (71, (.arr 71 .byte)), (85, (.arr 85 (.int .u64))), (86, (.arr 86 .byte)), (92, (.arr 92 .byte)), (95, (.arr 95 (.agg 94 (.pair .byte .byte)))), (100, (.arr 100 .byte)), (101, (.arr 101 .byte))]
/-- internal/strconv.isPowerOfTwo -/
noncomputable def F66 (a0 : Int) : Option (Bool) :=
  bnd (IntKind.wrap .i64 (a0 - (1 : Int))) fun x1 =>
  bnd (andI .i64 a0 x1) fun x2 =>
  some (decide (x2 = (0 : Int)))
def dc66 : DC :=
  (.seq (.reg [⟨none, (.mv (some 2) (.v (.bool false)))⟩])
  (.seq (.reg [⟨none, (.mv (some 3) (.t 0))⟩,
    ⟨none, (.mv (some 4) (.t 0))⟩,
    ⟨none, (.ar 5 .sub (.t 4) (.v (.int .i64 1)))⟩,
    ⟨none, (.ar 6 .and (.t 3) (.t 5))⟩,
    ⟨none, (.ar 7 .eql (.t 6) (.v (.int .i64 0)))⟩,
    ⟨none, (.mv (some 2) (.t 7))⟩])
  .ret))
noncomputable def ent66 : TEnt := ⟨66, [(.int .i64)], .bool, fun x => F66 x, .plain⟩
theorem eq66 (x : dens ent66.as) : ent66.F x = evF [] SHF dc66 [(.tmp 2)] ent66.as ent66.rs x := by kernel_rfl
/-- internal/strconv.formatBits -/
noncomputable def F54 (a0 : List (UInt8)) (a1 : Int) (a2 : Int) (a3 : Bool) (a4 : Bool) : Option (List (UInt8) × List UInt8) :=
  cond (decide (a2 < (2 : Int)))
    (none)
    (cond (decide (a2 = (10 : Int)))
      (none)
      (cond (decide ((36 : Int) < a2))
        (none)
        (jn (σ := Int) (fun nextj1 =>
          cond (a3)
            (bnd (IntKind.wrap .u64 (0 - a1)) fun x2 =>
            nextj1 x2)
            (nextj1 a1)) fun j1 =>
        jn (σ := Int × List (UInt8)) (fun nextj3 =>
          bindO (F66 a2) fun y4 =>
          cond (y4)
            (bindO (fTZ (IntKind.wrap .u64 a2)) fun y5 =>
            bnd (IntKind.wrap .u64 ((IntKind.wrap .u64 a2) - (1 : Int))) fun x6 =>
            loopK (σ := Int × Int × List (UInt8)) (fun p7 againp7 =>
              cond (decide ((IntKind.wrap .u64 a2) ≤ p7.1))
                (bnd (IntKind.wrap .i64 (p7.2.1 - (1 : Int))) fun x8 =>
                bnd (andI .u64 p7.1 x6) fun x9 =>
                gd (0 ≤ x9 ∧ x9 < (List.length ([48, 49, 50, 51, 52, 53, 54, 55, 56, 57, 97, 98, 99, 100, 101, 102, 103, 104, 105, 106, 107, 108, 109, 110, 111, 112, 113, 114, 115, 116, 117, 118, 119, 120, 121, 122] : List UInt8) : Int)) <|
                gd (0 ≤ x8 ∧ x8 < (List.length p7.2.2 : Int)) <|
                gd ((Int.toNat x8) < List.length p7.2.2) <|
                gd (0 ≤ (IntKind.wrap .u64 y5)) <|
                bnd (shrI .u64 p7.1 (IntKind.wrap .u64 y5)) fun x10 =>
                againp7 (x10, x8, (List.set p7.2.2 (Int.toNat x8) (List.getD ([48, 49, 50, 51, 52, 53, 54, 55, 56, 57, 97, 98, 99, 100, 101, 102, 103, 104, 105, 106, 107, 108, 109, 110, 111, 112, 113, 114, 115, 116, 117, 118, 119, 120, 121, 122] : List UInt8) (Int.toNat x9) 0))))
                (bnd (IntKind.wrap .i64 (p7.2.1 - (1 : Int))) fun x11 =>
                gd (0 ≤ p7.1 ∧ p7.1 < (List.length ([48, 49, 50, 51, 52, 53, 54, 55, 56, 57, 97, 98, 99, 100, 101, 102, 103, 104, 105, 106, 107, 108, 109, 110, 111, 112, 113, 114, 115, 116, 117, 118, 119, 120, 121, 122] : List UInt8) : Int)) <|
                gd (0 ≤ x11 ∧ x11 < (List.length p7.2.2 : Int)) <|
                gd ((Int.toNat x11) < List.length p7.2.2) <|
                nextj3 (x11, (List.set p7.2.2 (Int.toNat x11) (List.getD ([48, 49, 50, 51, 52, 53, 54, 55, 56, 57, 97, 98, 99, 100, 101, 102, 103, 104, 105, 106, 107, 108, 109, 110, 111, 112, 113, 114, 115, 116, 117, 118, 119, 120, 121, 122] : List UInt8) (Int.toNat p7.1) 0))))) (j1, (65 : Int), (List.replicate 65 (UInt8.ofNat (Int.toNat (0 : Int))))))
            (loopK (σ := Int × Int × List (UInt8)) (fun p12 againp12 =>
              cond (decide ((IntKind.wrap .u64 a2) ≤ p12.1))
                (bnd (IntKind.wrap .i64 (p12.2.1 - (1 : Int))) fun x13 =>
                gd ((IntKind.wrap .u64 a2) ≠ 0) <|
                bnd (IntKind.wrap .u64 (Int.tdiv p12.1 (IntKind.wrap .u64 a2))) fun x14 =>
                bnd (IntKind.wrap .u64 (x14 * (IntKind.wrap .u64 a2))) fun x15 =>
                bnd (IntKind.wrap .u64 (p12.1 - x15)) fun x16 =>
                gd (0 ≤ x16 ∧ x16 < (List.length ([48, 49, 50, 51, 52, 53, 54, 55, 56, 57, 97, 98, 99, 100, 101, 102, 103, 104, 105, 106, 107, 108, 109, 110, 111, 112, 113, 114, 115, 116, 117, 118, 119, 120, 121, 122] : List UInt8) : Int)) <|
                gd (0 ≤ x13 ∧ x13 < (List.length p12.2.2 : Int)) <|
                gd ((Int.toNat x13) < List.length p12.2.2) <|
                againp12 (x14, x13, (List.set p12.2.2 (Int.toNat x13) (List.getD ([48, 49, 50, 51, 52, 53, 54, 55, 56, 57, 97, 98, 99, 100, 101, 102, 103, 104, 105, 106, 107, 108, 109, 110, 111, 112, 113, 114, 115, 116, 117, 118, 119, 120, 121, 122] : List UInt8) (Int.toNat x16) 0))))
                (bnd (IntKind.wrap .i64 (p12.2.1 - (1 : Int))) fun x17 =>
                gd (0 ≤ p12.1 ∧ p12.1 < (List.length ([48, 49, 50, 51, 52, 53, 54, 55, 56, 57, 97, 98, 99, 100, 101, 102, 103, 104, 105, 106, 107, 108, 109, 110, 111, 112, 113, 114, 115, 116, 117, 118, 119, 120, 121, 122] : List UInt8) : Int)) <|
                gd (0 ≤ x17 ∧ x17 < (List.length p12.2.2 : Int)) <|
                gd ((Int.toNat x17) < List.length p12.2.2) <|
                nextj3 (x17, (List.set p12.2.2 (Int.toNat x17) (List.getD ([48, 49, 50, 51, 52, 53, 54, 55, 56, 57, 97, 98, 99, 100, 101, 102, 103, 104, 105, 106, 107, 108, 109, 110, 111, 112, 113, 114, 115, 116, 117, 118, 119, 120, 121, 122] : List UInt8) (Int.toNat p12.1) 0))))) (j1, (65 : Int), (List.replicate 65 (UInt8.ofNat (Int.toNat (0 : Int))))))) fun j3 =>
        jn (σ := Int × List (UInt8)) (fun nextj18 =>
          cond (a3)
            (bnd (IntKind.wrap .i64 (j3.1 - (1 : Int))) fun x19 =>
            gd (0 ≤ x19 ∧ x19 < (List.length j3.2 : Int)) <|
            gd ((Int.toNat x19) < List.length j3.2) <|
            gd ((0 : Int) ≤ (45 : Int) ∧ (45 : Int) < (256 : Int)) <|
            nextj18 (x19, (List.set j3.2 (Int.toNat x19) (UInt8.ofNat (Int.toNat (45 : Int))))))
            (nextj18 (j3.1, j3.2))) fun j18 =>
        cond (a4)
          (none)
          (gd (0 ≤ j18.1 ∧ j18.1 ≤ (List.length j18.2 : Int)) <|
          bnd (List.drop (Int.toNat j18.1) j18.2) fun x20 =>
          some (([] : List (UInt8)), x20)))))
def dc54 : DC :=
  (.seq (.reg [⟨none, (.nl 10 5)⟩,
    ⟨none, (.mv (some 11) (.v (.str [])))⟩])
  (.seq (.seq (.reg [⟨none, (.mv (some 19) (.t 2))⟩,
    ⟨none, (.ar 20 .lss (.t 19) (.v (.int .i64 2)))⟩,
    ⟨none, (.mv (some 21) (.t 20))⟩,
    ⟨(some (21, false)), (.mv (some 22) (.t 2))⟩,
    ⟨(some (21, false)), (.ar 23 .eql (.t 22) (.v (.int .i64 10)))⟩,
    ⟨none, (.pick 24 (.t 21) (.v (.bool true)) (.t 23))⟩,
    ⟨none, (.mv (some 25) (.t 24))⟩,
    ⟨(some (25, false)), (.mv (some 26) (.t 2))⟩,
    ⟨(some (25, false)), (.ar 27 .gtr (.t 26) (.v (.int .i64 36)))⟩,
    ⟨none, (.pick 28 (.t 25) (.v (.bool true)) (.t 27))⟩])
  (.cond (.t 28)
    (.reg [⟨none, (.mi 29 9 (.v (.str [115, 116, 114, 99, 111, 110, 118, 58, 32, 105, 108, 108, 101, 103, 97, 108, 32, 65, 112, 112, 101, 110, 100, 73, 110, 116, 47, 70, 111, 114, 109, 97, 116, 73, 110, 116, 32, 98, 97, 115, 101])))⟩,
    ⟨none, (.no none)⟩])
    .skip))
  (.seq (.reg [⟨none, (.al 12 (.agg 86 (List.replicate 65 (.int .u8 0))))⟩])
  (.seq (.reg [⟨none, (.mv (some 13) (.v (.int .i64 65)))⟩])
  (.jn ⟨[(1, (.lf (.int .u64)))], [], [30, 31, 32].map .s⟩ (.seq (.reg [⟨none, (.mv (some 30) (.t 3))⟩])
  (.cond (.t 30)
    (.reg [⟨none, (.mv (some 31) (.t 1))⟩,
    ⟨none, (.un 32 .neg (.t 31))⟩,
    ⟨none, (.mv (some 1) (.t 32))⟩])
    .skip))
  (.jn ⟨[(13, (.lf (.int .i64)))], [(12, (.lf (.arr 86 .byte)))], [1, 14, 15, 16, 17, 18, 33, 34, 35, 36, 37, 38, 39, 40, 41, 42, 43, 44, 45, 46, 47, 48, 49, 50, 51, 52, 53, 54, 55, 56, 57, 58, 59, 60, 61, 62, 63, 64, 65, 66, 67, 68, 69, 70, 71, 72, 73, 74, 75, 76, 77, 78, 79, 80, 81, 82, 83, 84, 85, 86, 87, 88].map .s⟩ (.seq (.reg [⟨none, (.mv (some 33) (.t 2))⟩,
    ⟨none, (.ca (some 34) 66 [(.t 33)])⟩])
  (.cond (.t 34)
    (.seq (.reg [⟨none, (.mv (some 35) (.t 2))⟩,
    ⟨none, (.cvi 36 .u64 (.t 35))⟩,
    ⟨none, (.ca (some 37) 67 [(.t 36)])⟩,
    ⟨none, (.cvi 38 .u64 (.t 37))⟩,
    ⟨none, (.mv (some 14) (.t 38))⟩])
  (.seq (.reg [⟨none, (.mv (some 39) (.t 2))⟩,
    ⟨none, (.cvi 40 .u64 (.t 39))⟩,
    ⟨none, (.mv (some 15) (.t 40))⟩])
  (.seq (.reg [⟨none, (.mv (some 41) (.t 2))⟩,
    ⟨none, (.cvi 42 .u64 (.t 41))⟩,
    ⟨none, (.ar 43 .sub (.t 42) (.v (.int .u64 1)))⟩,
    ⟨none, (.mv (some 16) (.t 43))⟩])
  (.seq (.block 0 (.loop ⟨[(1, (.lf (.int .u64))), (13, (.lf (.int .i64)))], [(12, (.lf (.arr 86 .byte)))], [44, 45, 46, 47, 48, 49, 50, 51, 52, 53, 54, 55, 56, 57].map .s⟩ (.seq (.seq (.reg [⟨none, (.mv (some 44) (.t 1))⟩,
    ⟨none, (.mv (some 45) (.t 15))⟩,
    ⟨none, (.ar 46 .geq (.t 44) (.t 45))⟩])
  (.cond (.t 46)
    .skip
    (.exit 0)))
  (.block 1 (.seq (.reg [⟨none, (.mv (some 47) (.t 13))⟩,
    ⟨none, (.ar 48 .sub (.t 47) (.v (.int .i64 1)))⟩,
    ⟨none, (.mv (some 13) (.t 48))⟩])
  (.seq (.reg [⟨none, (.mv (some 49) (.t 13))⟩,
    ⟨none, (.mv (some 50) (.t 1))⟩,
    ⟨none, (.mv (some 51) (.t 16))⟩,
    ⟨none, (.ar 52 .and (.t 50) (.t 51))⟩,
    ⟨none, (.ix 53 (.v (.str [48, 49, 50, 51, 52, 53, 54, 55, 56, 57, 97, 98, 99, 100, 101, 102, 103, 104, 105, 106, 107, 108, 109, 110, 111, 112, 113, 114, 115, 116, 117, 118, 119, 120, 121, 122])) (.t 52))⟩,
    ⟨none, (.aa 54 86 (.t 12) (.t 49))⟩,
    ⟨none, (.st none (.t 54) (.t 53))⟩])
  (.reg [⟨none, (.mv (some 55) (.t 1))⟩,
    ⟨none, (.mv (some 56) (.t 14))⟩,
    ⟨none, (.ar 57 .shr (.t 55) (.t 56))⟩,
    ⟨none, (.mv (some 1) (.t 57))⟩])))))))
  (.seq (.reg [⟨none, (.mv (some 58) (.t 13))⟩,
    ⟨none, (.ar 59 .sub (.t 58) (.v (.int .i64 1)))⟩,
    ⟨none, (.mv (some 13) (.t 59))⟩])
  (.reg [⟨none, (.mv (some 60) (.t 13))⟩,
    ⟨none, (.mv (some 61) (.t 1))⟩,
    ⟨none, (.ix 62 (.v (.str [48, 49, 50, 51, 52, 53, 54, 55, 56, 57, 97, 98, 99, 100, 101, 102, 103, 104, 105, 106, 107, 108, 109, 110, 111, 112, 113, 114, 115, 116, 117, 118, 119, 120, 121, 122])) (.t 61))⟩,
    ⟨none, (.aa 63 86 (.t 12) (.t 60))⟩,
    ⟨none, (.st none (.t 63) (.t 62))⟩]))))))
    (.seq (.reg [⟨none, (.mv (some 64) (.t 2))⟩,
    ⟨none, (.cvi 65 .u64 (.t 64))⟩,
    ⟨none, (.mv (some 17) (.t 65))⟩])
  (.seq (.block 2 (.loop ⟨[(1, (.lf (.int .u64))), (13, (.lf (.int .i64)))], [(12, (.lf (.arr 86 .byte)))], [18, 66, 67, 68, 69, 70, 71, 72, 73, 74, 75, 76, 77, 78, 79, 80, 81, 82].map .s⟩ (.seq (.seq (.reg [⟨none, (.mv (some 66) (.t 1))⟩,
    ⟨none, (.mv (some 67) (.t 17))⟩,
    ⟨none, (.ar 68 .geq (.t 66) (.t 67))⟩])
  (.cond (.t 68)
    .skip
    (.exit 2)))
  (.block 3 (.seq (.reg [⟨none, (.mv (some 69) (.t 13))⟩,
    ⟨none, (.ar 70 .sub (.t 69) (.v (.int .i64 1)))⟩,
    ⟨none, (.mv (some 13) (.t 70))⟩])
  (.seq (.reg [⟨none, (.mv (some 71) (.t 1))⟩,
    ⟨none, (.mv (some 72) (.t 17))⟩,
    ⟨none, (.ar 73 .quo (.t 71) (.t 72))⟩,
    ⟨none, (.mv (some 18) (.t 73))⟩])
  (.seq (.reg [⟨none, (.mv (some 74) (.t 13))⟩,
    ⟨none, (.mv (some 75) (.t 1))⟩,
    ⟨none, (.mv (some 76) (.t 18))⟩,
    ⟨none, (.mv (some 77) (.t 17))⟩,
    ⟨none, (.ar 78 .mul (.t 76) (.t 77))⟩,
    ⟨none, (.ar 79 .sub (.t 75) (.t 78))⟩,
    ⟨none, (.ix 80 (.v (.str [48, 49, 50, 51, 52, 53, 54, 55, 56, 57, 97, 98, 99, 100, 101, 102, 103, 104, 105, 106, 107, 108, 109, 110, 111, 112, 113, 114, 115, 116, 117, 118, 119, 120, 121, 122])) (.t 79))⟩,
    ⟨none, (.aa 81 86 (.t 12) (.t 74))⟩,
    ⟨none, (.st none (.t 81) (.t 80))⟩])
  (.reg [⟨none, (.mv (some 82) (.t 18))⟩,
    ⟨none, (.mv (some 1) (.t 82))⟩]))))))))
  (.seq (.reg [⟨none, (.mv (some 83) (.t 13))⟩,
    ⟨none, (.ar 84 .sub (.t 83) (.v (.int .i64 1)))⟩,
    ⟨none, (.mv (some 13) (.t 84))⟩])
  (.reg [⟨none, (.mv (some 85) (.t 13))⟩,
    ⟨none, (.mv (some 86) (.t 1))⟩,
    ⟨none, (.ix 87 (.v (.str [48, 49, 50, 51, 52, 53, 54, 55, 56, 57, 97, 98, 99, 100, 101, 102, 103, 104, 105, 106, 107, 108, 109, 110, 111, 112, 113, 114, 115, 116, 117, 118, 119, 120, 121, 122])) (.t 86))⟩,
    ⟨none, (.aa 88 86 (.t 12) (.t 85))⟩,
    ⟨none, (.st none (.t 88) (.t 87))⟩]))))))
  (.jn ⟨[(13, (.lf (.int .i64)))], [(12, (.lf (.arr 86 .byte)))], [89, 90, 91, 92, 93].map .s⟩ (.seq (.reg [⟨none, (.mv (some 89) (.t 3))⟩])
  (.cond (.t 89)
    (.seq (.reg [⟨none, (.mv (some 90) (.t 13))⟩,
    ⟨none, (.ar 91 .sub (.t 90) (.v (.int .i64 1)))⟩,
    ⟨none, (.mv (some 13) (.t 91))⟩])
  (.reg [⟨none, (.mv (some 92) (.t 13))⟩,
    ⟨none, (.aa 93 86 (.t 12) (.t 92))⟩,
    ⟨none, (.st none (.t 93) (.v (.int .u8 45)))⟩]))
    .skip))
  (.seq (.seq (.reg [⟨none, (.mv (some 94) (.t 4))⟩])
  (.cond (.t 94)
    (.seq (.reg [⟨none, (.mv (some 95) (.t 0))⟩,
    ⟨none, (.mv (some 96) (.t 13))⟩,
    ⟨none, (.sa 97 86 5 (.t 12) (some (.t 96)) none)⟩,
    ⟨none, (.ap 98 5 (.t 95) (.t 97))⟩,
    ⟨none, (.mv (some 10) (.t 98))⟩])
  .ret)
    .skip))
  (.seq (.seq (.gh 12 [])
  (.reg [⟨none, (.mv (some 99) (.t 13))⟩,
    ⟨none, (.sa 100 86 5 (.t 12) (some (.t 99)) none)⟩,
    ⟨none, (.cvb 101 (.t 100))⟩,
    ⟨none, (.mv (some 11) (.t 101))⟩]))
  .ret)))))))))
noncomputable def ent54 : TEnt := ⟨54, [(.sl 5 .byte), (.int .u64), (.int .i64), .bool, .bool], (.tup (.pair (.sl 5 .byte) .str)), fun x => F54 x.1 x.2.1 x.2.2.1 x.2.2.2.1 x.2.2.2.2, .plain⟩
theorem eq54 (x : dens ent54.as) : ent54.F x = evF [ent66, entTZ] SHF dc54 [(.tmp 10), (.tmp 11)] ent54.as ent54.rs x := by kernel_rfl
/-- internal/strconv.FormatUint -/
noncomputable def F40 (a0 : Int) (a1 : Int) : Option (List UInt8) :=
  cond (decide (a1 = (10 : Int)))
    (cond (decide (a0 < (100 : Int)))
      (none)
      (none))
    (bindO (F54 ([] : List (UInt8)) a0 a1 false false) fun y1 =>
    some y1.2)
def dc40 : DC :=
  (.seq (.reg [⟨none, (.mv (some 4) (.v (.str [])))⟩])
  (.seq (.seq (.reg [⟨none, (.mv (some 9) (.t 1))⟩,
    ⟨none, (.ar 10 .eql (.t 9) (.v (.int .i64 10)))⟩])
  (.cond (.t 10)
    (.seq (.seq (.reg [⟨none, (.mv (some 11) (.t 0))⟩,
    ⟨none, (.ar 12 .lss (.t 11) (.v (.int .u64 100)))⟩])
  (.cond (.t 12)
    (.seq (.reg [⟨none, (.mv (some 13) (.t 0))⟩,
    ⟨none, (.cvi 14 .i64 (.t 13))⟩,
    ⟨none, (.ca (some 15) 51 [(.t 14)])⟩,
    ⟨none, (.mv (some 4) (.t 15))⟩])
  .ret)
    .skip))
  (.seq (.reg [⟨none, (.al 5 (.agg 71 [(.int .u8 0), (.int .u8 0), (.int .u8 0), (.int .u8 0), (.int .u8 0), (.int .u8 0), (.int .u8 0), (.int .u8 0), (.int .u8 0), (.int .u8 0), (.int .u8 0), (.int .u8 0), (.int .u8 0), (.int .u8 0), (.int .u8 0), (.int .u8 0), (.int .u8 0), (.int .u8 0), (.int .u8 0), (.int .u8 0), (.int .u8 0), (.int .u8 0), (.int .u8 0), (.int .u8 0)]))⟩])
  (.seq (.reg [⟨none, (.mv (some 16) (.t 0))⟩,
    ⟨none, (.ca (some 17) 52 [(.t 16)])⟩,
    ⟨none, (.mv (some 6) (.t 17))⟩])
  (.seq (.reg [⟨none, (.mv (some 18) (.t 6))⟩,
    ⟨none, (.sa 19 71 5 (.t 5) none (some (.t 18)))⟩,
    ⟨none, (.mv (some 20) (.t 0))⟩,
    ⟨none, (.cb (some 21) 53 [(.t 19), (.t 20)])⟩])
  (.seq (.reg [⟨none, (.mv (some 22) (.t 6))⟩,
    ⟨none, (.sa 23 71 5 (.t 5) none (some (.t 22)))⟩,
    ⟨none, (.cvb 24 (.t 23))⟩,
    ⟨none, (.mv (some 4) (.t 24))⟩])
  .ret)))))
    .skip))
  (.seq (.reg [⟨none, (.mv (some 26) (.t 0))⟩,
    ⟨none, (.mv (some 27) (.t 1))⟩,
    ⟨none, (.ca (some 28) 54 [(.v (.sl none 0 [])), (.t 26), (.t 27), (.v (.bool false)), (.v (.bool false))])⟩,
    ⟨none, (.mv (some 25) (.t 28))⟩,
    ⟨none, (.ex 29 0 (.t 25))⟩,
    ⟨none, (.ex 30 1 (.t 25))⟩,
    ⟨none, (.mv (some 7) (.t 29))⟩,
    ⟨none, (.mv (some 8) (.t 30))⟩])
  (.seq (.reg [⟨none, (.mv (some 31) (.t 8))⟩,
    ⟨none, (.mv (some 4) (.t 31))⟩])
  .ret))))
noncomputable def ent40 : TEnt := ⟨40, [(.int .u64), (.int .i64)], .str, fun x => F40 x.1 x.2, .plain⟩
theorem eq40 (x : dens ent40.as) : ent40.F x = evF [ent54] SHF dc40 [(.tmp 4)] ent40.as ent40.rs x := by kernel_rfl
/-- strconv.FormatUint -/
noncomputable def F31 (a0 : Int) (a1 : Int) : Option (List UInt8) :=
  bindO (F40 a0 a1) fun y1 =>
  some y1
def dc31 : DC :=
  (.seq (.reg [⟨none, (.mv (some 4) (.v (.str [])))⟩])
  (.seq (.reg [⟨none, (.mv (some 5) (.t 0))⟩,
    ⟨none, (.mv (some 6) (.t 1))⟩,
    ⟨none, (.ca (some 7) 40 [(.t 5), (.t 6)])⟩,
    ⟨none, (.mv (some 4) (.t 7))⟩])
  .ret))
noncomputable def ent31 : TEnt := ⟨31, [(.int .u64), (.int .i64)], .str, fun x => F31 x.1 x.2, .plain⟩
theorem eq31 (x : dens ent31.as) : ent31.F x = evF [ent40] SHF dc31 [(.tmp 4)] ent31.as ent31.rs x := by kernel_rfl
/-- library/digest.sum -/
noncomputable def F25 (a0 : List (List UInt8)) : Option (List UInt8) :=
  loopK (σ := Int × Int) (fun p1 againp1 =>
    cond (decide (p1.2 < (List.length a0 : Int)))
      (gd (0 ≤ p1.2 ∧ p1.2 < (List.length a0 : Int)) <|
      loopK (σ := Int × Int) (fun p2 againp2 =>
        cond (decide (p2.2 < (List.length (List.getD a0 (Int.toNat p1.2) []) : Int)))
          (gd (0 ≤ p2.2 ∧ p2.2 < (List.length (List.getD a0 (Int.toNat p1.2) []) : Int)) <|
          bnd (xorI .u64 p2.1 (IntKind.wrap .u64 (UInt8.toNat (List.getD (List.getD a0 (Int.toNat p1.2) []) (Int.toNat p2.2) 0) : Int))) fun x3 =>
          bnd (IntKind.wrap .u64 (x3 * (1099511628211 : Int))) fun x4 =>
          bnd (IntKind.wrap .i64 (p2.2 + (1 : Int))) fun x5 =>
          againp2 (x4, x5))
          (bnd (IntKind.wrap .i64 (p1.2 + (1 : Int))) fun x6 =>
          againp1 (p2.1, x6))) (p1.1, (0 : Int)))
      (gd (0 ≤ (33 : Int)) <|
      bnd (shrI .u64 p1.1 (33 : Int)) fun x7 =>
      bnd (xorI .u64 p1.1 x7) fun x8 =>
      bnd (IntKind.wrap .u64 (x8 * (18397679294719823053 : Int))) fun x9 =>
      gd (0 ≤ (33 : Int)) <|
      bnd (shrI .u64 x9 (33 : Int)) fun x10 =>
      bnd (xorI .u64 x9 x10) fun x11 =>
      bnd (IntKind.wrap .u64 (x11 * (14181476777654086739 : Int))) fun x12 =>
      gd (0 ≤ (33 : Int)) <|
      bnd (shrI .u64 x12 (33 : Int)) fun x13 =>
      bnd (xorI .u64 x12 x13) fun x14 =>
      bindO (F31 x14 (16 : Int)) fun y15 =>
      bnd (IntKind.wrap .i64 ((16 : Int) - (List.length y15 : Int))) fun x16 =>
      bindO (fRepeat ([48] : List UInt8) x16) fun y17 =>
      gd (List.length y17 + List.length y15 ≤ big) <|
      bnd (y17 ++ y15) fun x18 =>
      some x18)) ((14695981039346656037 : Int), (0 : Int))
def dc25 : DC :=
  (.seq (.reg [⟨none, (.mv (some 2) (.v (.str [])))⟩])
  (.seq (.reg [⟨none, (.mv (some 3) (.v (.int .u64 14695981039346656037)))⟩])
  (.seq (.seq (.reg [⟨none, (.mv (some 8) (.t 0))⟩,
    ⟨none, (.ln 9 (some 9) (.t 8))⟩,
    ⟨none, (.mv (some 10) (.v (.int .i64 0)))⟩])
  (.block 0 (.loop ⟨[(3, (.lf (.int .u64))), (10, (.lf (.int .i64)))], [], [5, 6, 11, 12, 13, 14, 15, 16, 17, 18, 19, 20, 21, 22, 23, 24, 25, 26, 27].map .s⟩ (.seq (.reg [⟨none, (.ar 11 .lss (.t 10) (.t 9))⟩])
  (.seq (.cond (.t 11)
    .skip
    (.exit 0))
  (.seq (.block 1 (.seq (.reg [⟨none, (.ea 12 9 (.t 8) (.t 10))⟩,
    ⟨none, (.ld 13 none (.t 12))⟩,
    ⟨none, (.mv (some 5) (.t 13))⟩])
  (.seq (.reg [⟨none, (.mv (some 14) (.t 5))⟩,
    ⟨none, (.ln 15 none (.t 14))⟩,
    ⟨none, (.mv (some 16) (.v (.int .i64 0)))⟩])
  (.block 2 (.loop ⟨[(3, (.lf (.int .u64))), (16, (.lf (.int .i64)))], [], [6, 17, 18, 19, 20, 21, 22, 23, 24, 25, 26].map .s⟩ (.seq (.reg [⟨none, (.ar 17 .lss (.t 16) (.t 15))⟩])
  (.seq (.cond (.t 17)
    .skip
    (.exit 2))
  (.seq (.block 3 (.seq (.reg [⟨none, (.mv (some 18) (.t 16))⟩,
    ⟨none, (.mv (some 6) (.t 18))⟩])
  (.reg [⟨none, (.mv (some 19) (.t 3))⟩,
    ⟨none, (.mv (some 20) (.t 5))⟩,
    ⟨none, (.mv (some 21) (.t 6))⟩,
    ⟨none, (.ix 22 (.t 20) (.t 21))⟩,
    ⟨none, (.cvi 23 .u64 (.t 22))⟩,
    ⟨none, (.ar 24 .xor (.t 19) (.t 23))⟩,
    ⟨none, (.ar 25 .mul (.t 24) (.v (.int .u64 1099511628211)))⟩,
    ⟨none, (.mv (some 3) (.t 25))⟩])))
  (.reg [⟨none, (.ar 26 .add (.t 16) (.v (.int .i64 1)))⟩,
    ⟨none, (.mv (some 16) (.t 26))⟩])))))))))
  (.reg [⟨none, (.ar 27 .add (.t 10) (.v (.int .i64 1)))⟩,
    ⟨none, (.mv (some 10) (.t 27))⟩])))))))
  (.seq (.reg [⟨none, (.mv (some 28) (.t 3))⟩,
    ⟨none, (.mv (some 29) (.t 3))⟩,
    ⟨none, (.ar 30 .shr (.t 29) (.v (.int .u64 33)))⟩,
    ⟨none, (.ar 31 .xor (.t 28) (.t 30))⟩,
    ⟨none, (.mv (some 3) (.t 31))⟩])
  (.seq (.reg [⟨none, (.mv (some 32) (.t 3))⟩,
    ⟨none, (.ar 33 .mul (.t 32) (.v (.int .u64 18397679294719823053)))⟩,
    ⟨none, (.mv (some 3) (.t 33))⟩])
  (.seq (.reg [⟨none, (.mv (some 34) (.t 3))⟩,
    ⟨none, (.mv (some 35) (.t 3))⟩,
    ⟨none, (.ar 36 .shr (.t 35) (.v (.int .u64 33)))⟩,
    ⟨none, (.ar 37 .xor (.t 34) (.t 36))⟩,
    ⟨none, (.mv (some 3) (.t 37))⟩])
  (.seq (.reg [⟨none, (.mv (some 38) (.t 3))⟩,
    ⟨none, (.ar 39 .mul (.t 38) (.v (.int .u64 14181476777654086739)))⟩,
    ⟨none, (.mv (some 3) (.t 39))⟩])
  (.seq (.reg [⟨none, (.mv (some 40) (.t 3))⟩,
    ⟨none, (.mv (some 41) (.t 3))⟩,
    ⟨none, (.ar 42 .shr (.t 41) (.v (.int .u64 33)))⟩,
    ⟨none, (.ar 43 .xor (.t 40) (.t 42))⟩,
    ⟨none, (.mv (some 3) (.t 43))⟩])
  (.seq (.reg [⟨none, (.mv (some 44) (.t 3))⟩,
    ⟨none, (.ca (some 45) 31 [(.t 44), (.v (.int .i64 16))])⟩,
    ⟨none, (.mv (some 7) (.t 45))⟩])
  (.seq (.reg [⟨none, (.mv (some 46) (.t 7))⟩,
    ⟨none, (.ln 47 none (.t 46))⟩,
    ⟨none, (.ar 48 .sub (.v (.int .i64 16)) (.t 47))⟩,
    ⟨none, (.ca (some 49) 32 [(.v (.str [48])), (.t 48)])⟩,
    ⟨none, (.mv (some 50) (.t 7))⟩,
    ⟨none, (.ar 51 .add (.t 49) (.t 50))⟩,
    ⟨none, (.mv (some 2) (.t 51))⟩])
  .ret))))))))))
noncomputable def ent25 : TEnt := ⟨25, [(.sl 9 .str)], .str, fun x => F25 x, .plain⟩
theorem eq25 (x : dens ent25.as) : ent25.F x = evF [ent31, entRepeat] SHF dc25 [(.tmp 2)] ent25.as ent25.rs x := by kernel_rfl
/-- library/digest.Sum -/
noncomputable def F11 (a0 : List UInt8) : Option (List UInt8) :=
  bindO (F25 [a0]) fun y1 =>
  some y1
def dc11 : DC :=
  (.seq (.reg [⟨none, (.mv (some 2) (.v (.str [])))⟩])
  (.seq (.reg [⟨none, (.mv (some 3) (.t 0))⟩,
    ⟨none, (.bs 4 9 none [(.t 3)])⟩,
    ⟨none, (.ca (some 5) 25 [(.t 4)])⟩,
    ⟨none, (.mv (some 2) (.t 5))⟩])
  .ret))
noncomputable def ent11 : TEnt := ⟨11, [.str], .str, fun x => F11 x, .plain⟩
theorem eq11 (x : dens ent11.as) : ent11.F x = evF [ent25] SHF dc11 [(.tmp 2)] ent11.as ent11.rs x := by kernel_rfl
/-- library/digest.Join -/
noncomputable def F12 (a0 : List UInt8) (a1 : List UInt8) : Option (List UInt8) :=
  bindO (F25 [([49] : List UInt8), a0, a1]) fun y1 =>
  some y1
def dc12 : DC :=
  (.seq (.reg [⟨none, (.mv (some 4) (.v (.str [])))⟩])
  (.seq (.reg [⟨none, (.mv (some 5) (.t 0))⟩,
    ⟨none, (.mv (some 6) (.t 1))⟩,
    ⟨none, (.bs 7 9 none [(.v (.str [49])), (.t 5), (.t 6)])⟩,
    ⟨none, (.ca (some 8) 25 [(.t 7)])⟩,
    ⟨none, (.mv (some 4) (.t 8))⟩])
  .ret))
noncomputable def ent12 : TEnt := ⟨12, [.str, .str], .str, fun x => F12 x.1 x.2, .plain⟩
theorem eq12 (x : dens ent12.as) : ent12.F x = evF [ent25] SHF dc12 [(.tmp 4)] ent12.as ent12.rs x := by kernel_rfl
/-- library/libraryref06.Sum -/
noncomputable def F13 (a0 : List UInt8) : Option (List UInt8) :=
  loopK (σ := Int × Int) (fun p1 againp1 =>
    cond (decide (p1.2 < (List.length a0 : Int)))
      (gd (0 ≤ p1.2 ∧ p1.2 < (List.length a0 : Int)) <|
      bnd (xorI .u64 p1.1 (IntKind.wrap .u64 (UInt8.toNat (List.getD a0 (Int.toNat p1.2) 0) : Int))) fun x2 =>
      bnd (IntKind.wrap .u64 (x2 * (1099511628211 : Int))) fun x3 =>
      bnd (IntKind.wrap .i64 (p1.2 + (1 : Int))) fun x4 =>
      againp1 (x3, x4))
      (gd (0 ≤ (33 : Int)) <|
      bnd (shrI .u64 p1.1 (33 : Int)) fun x5 =>
      bnd (xorI .u64 p1.1 x5) fun x6 =>
      bnd (IntKind.wrap .u64 (x6 * (18397679294719823053 : Int))) fun x7 =>
      gd (0 ≤ (33 : Int)) <|
      bnd (shrI .u64 x7 (33 : Int)) fun x8 =>
      bnd (xorI .u64 x7 x8) fun x9 =>
      bnd (IntKind.wrap .u64 (x9 * (14181476777654086739 : Int))) fun x10 =>
      gd (0 ≤ (33 : Int)) <|
      bnd (shrI .u64 x10 (33 : Int)) fun x11 =>
      bnd (xorI .u64 x10 x11) fun x12 =>
      loopK (σ := Int × List (UInt8) × Int) (fun p13 againp13 =>
        cond (decide (p13.2.2 < (16 : Int)))
          (gd ((16 : Int) ≠ 0) <|
          bnd (Int.tmod p13.1 (16 : Int)) fun x14 =>
          gd (0 ≤ x14 ∧ x14 < (List.length ([48, 49, 50, 51, 52, 53, 54, 55, 56, 57, 97, 98, 99, 100, 101, 102] : List UInt8) : Int)) <|
          gdN (List.length [(List.getD ([48, 49, 50, 51, 52, 53, 54, 55, 56, 57, 97, 98, 99, 100, 101, 102] : List UInt8) (Int.toNat x14) 0)]) (List.length [(List.getD ([48, 49, 50, 51, 52, 53, 54, 55, 56, 57, 97, 98, 99, 100, 101, 102] : List UInt8) (Int.toNat x14) 0)]) <|
          gd (List.length [(List.getD ([48, 49, 50, 51, 52, 53, 54, 55, 56, 57, 97, 98, 99, 100, 101, 102] : List UInt8) (Int.toNat x14) 0)] + List.length p13.2.1 ≤ big) <|
          bnd ([(List.getD ([48, 49, 50, 51, 52, 53, 54, 55, 56, 57, 97, 98, 99, 100, 101, 102] : List UInt8) (Int.toNat x14) 0)] ++ p13.2.1) fun l15 =>
          gd ((16 : Int) ≠ 0) <|
          bnd (IntKind.wrap .u64 (Int.tdiv p13.1 (16 : Int))) fun x16 =>
          bnd (IntKind.wrap .i64 (p13.2.2 + (1 : Int))) fun x17 =>
          againp13 (x16, l15, x17))
          (some p13.2.1)) (x12, ([] : List (UInt8)), (0 : Int)))) ((14695981039346656037 : Int), (0 : Int))
def dc13 : DC :=
  (.seq (.reg [⟨none, (.mv (some 2) (.v (.str [])))⟩])
  (.seq (.reg [⟨none, (.mv (some 3) (.v (.int .u64 14695981039346656037)))⟩])
  (.seq (.seq (.reg [⟨none, (.mv (some 4) (.v (.int .i64 0)))⟩])
  (.block 0 (.loop ⟨[(3, (.lf (.int .u64))), (4, (.lf (.int .i64)))], [], [7, 8, 9, 10, 11, 12, 13, 14, 15, 16, 17, 18, 19].map .s⟩ (.seq (.seq (.reg [⟨none, (.mv (some 7) (.t 4))⟩,
    ⟨none, (.mv (some 8) (.t 0))⟩,
    ⟨none, (.ln 9 none (.t 8))⟩,
    ⟨none, (.ar 10 .lss (.t 7) (.t 9))⟩])
  (.cond (.t 10)
    .skip
    (.exit 0)))
  (.seq (.block 1 (.reg [⟨none, (.mv (some 13) (.t 3))⟩,
    ⟨none, (.mv (some 14) (.t 0))⟩,
    ⟨none, (.mv (some 15) (.t 4))⟩,
    ⟨none, (.ix 16 (.t 14) (.t 15))⟩,
    ⟨none, (.cvi 17 .u64 (.t 16))⟩,
    ⟨none, (.ar 18 .xor (.t 13) (.t 17))⟩,
    ⟨none, (.ar 19 .mul (.t 18) (.v (.int .u64 1099511628211)))⟩,
    ⟨none, (.mv (some 3) (.t 19))⟩]))
  (.reg [⟨none, (.mv (some 11) (.t 4))⟩,
    ⟨none, (.ar 12 .add (.t 11) (.v (.int .i64 1)))⟩,
    ⟨none, (.mv (some 4) (.t 12))⟩]))))))
  (.seq (.reg [⟨none, (.mv (some 20) (.t 3))⟩,
    ⟨none, (.mv (some 21) (.t 3))⟩,
    ⟨none, (.ar 22 .shr (.t 21) (.v (.int .u64 33)))⟩,
    ⟨none, (.ar 23 .xor (.t 20) (.t 22))⟩,
    ⟨none, (.mv (some 3) (.t 23))⟩])
  (.seq (.reg [⟨none, (.mv (some 24) (.t 3))⟩,
    ⟨none, (.ar 25 .mul (.t 24) (.v (.int .u64 18397679294719823053)))⟩,
    ⟨none, (.mv (some 3) (.t 25))⟩])
  (.seq (.reg [⟨none, (.mv (some 26) (.t 3))⟩,
    ⟨none, (.mv (some 27) (.t 3))⟩,
    ⟨none, (.ar 28 .shr (.t 27) (.v (.int .u64 33)))⟩,
    ⟨none, (.ar 29 .xor (.t 26) (.t 28))⟩,
    ⟨none, (.mv (some 3) (.t 29))⟩])
  (.seq (.reg [⟨none, (.mv (some 30) (.t 3))⟩,
    ⟨none, (.ar 31 .mul (.t 30) (.v (.int .u64 14181476777654086739)))⟩,
    ⟨none, (.mv (some 3) (.t 31))⟩])
  (.seq (.reg [⟨none, (.mv (some 32) (.t 3))⟩,
    ⟨none, (.mv (some 33) (.t 3))⟩,
    ⟨none, (.ar 34 .shr (.t 33) (.v (.int .u64 33)))⟩,
    ⟨none, (.ar 35 .xor (.t 32) (.t 34))⟩,
    ⟨none, (.mv (some 3) (.t 35))⟩])
  (.seq (.reg [⟨none, (.bs 36 5 none [])⟩,
    ⟨none, (.mv (some 5) (.t 36))⟩])
  (.seq (.seq (.reg [⟨none, (.mv (some 6) (.v (.int .i64 0)))⟩])
  (.block 2 (.loop ⟨[(3, (.lf (.int .u64))), (5, (.lf (.sl 5 .byte))), (6, (.lf (.int .i64)))], [], [37, 38, 39, 40, 41, 42, 43, 44, 45, 46, 47, 48].map .s ++ [44].map .f⟩ (.seq (.seq (.reg [⟨none, (.mv (some 37) (.t 6))⟩,
    ⟨none, (.ar 38 .lss (.t 37) (.v (.int .i64 16)))⟩])
  (.cond (.t 38)
    .skip
    (.exit 2)))
  (.seq (.block 3 (.seq (.reg [⟨none, (.mv (some 41) (.t 3))⟩,
    ⟨none, (.ar 42 .rem (.t 41) (.v (.int .u64 16)))⟩,
    ⟨none, (.ix 43 (.v (.str [48, 49, 50, 51, 52, 53, 54, 55, 56, 57, 97, 98, 99, 100, 101, 102])) (.t 42))⟩,
    ⟨none, (.bs 44 5 none [(.t 43)])⟩,
    ⟨none, (.mv (some 45) (.t 5))⟩,
    ⟨none, (.ap 46 5 (.t 44) (.t 45))⟩,
    ⟨none, (.mv (some 5) (.t 46))⟩])
  (.reg [⟨none, (.mv (some 47) (.t 3))⟩,
    ⟨none, (.ar 48 .quo (.t 47) (.v (.int .u64 16)))⟩,
    ⟨none, (.mv (some 3) (.t 48))⟩])))
  (.reg [⟨none, (.mv (some 39) (.t 6))⟩,
    ⟨none, (.ar 40 .add (.t 39) (.v (.int .i64 1)))⟩,
    ⟨none, (.mv (some 6) (.t 40))⟩]))))))
  (.seq (.reg [⟨none, (.mv (some 49) (.t 5))⟩,
    ⟨none, (.cvb 50 (.t 49))⟩,
    ⟨none, (.mv (some 2) (.t 50))⟩])
  .ret)))))))))))
noncomputable def ent13 : TEnt := ⟨13, [.str], .str, fun x => F13 x, .plain⟩
theorem eq13 (x : dens ent13.as) : ent13.F x = evF [] SHF dc13 [(.tmp 2)] ent13.as ent13.rs x := by kernel_rfl
/-- library/libraryref06.Join -/
noncomputable def F14 (a0 : List UInt8) (a1 : List UInt8) : Option (List UInt8) :=
  gd (List.length ([49] : List UInt8) + List.length a0 ≤ big) <|
  bnd (([49] : List UInt8) ++ a0) fun x1 =>
  gd (List.length x1 + List.length a1 ≤ big) <|
  bnd (x1 ++ a1) fun x2 =>
  bindO (F13 x2) fun y3 =>
  some y3
def dc14 : DC :=
  (.seq (.reg [⟨none, (.mv (some 4) (.v (.str [])))⟩])
  (.seq (.reg [⟨none, (.mv (some 5) (.t 0))⟩,
    ⟨none, (.ar 6 .add (.v (.str [49])) (.t 5))⟩,
    ⟨none, (.mv (some 7) (.t 1))⟩,
    ⟨none, (.ar 8 .add (.t 6) (.t 7))⟩,
    ⟨none, (.ca (some 9) 13 [(.t 8)])⟩,
    ⟨none, (.mv (some 4) (.t 9))⟩])
  .ret))
noncomputable def ent14 : TEnt := ⟨14, [.str, .str], .str, fun x => F14 x.1 x.2, .plain⟩
theorem eq14 (x : dens ent14.as) : ent14.F x = evF [ent13] SHF dc14 [(.tmp 4)] ent14.as ent14.rs x := by kernel_rfl
/-- library/digest.Right -/
noncomputable def F15 (a0 : List UInt8) : Option (Bool) :=
  cond (decide ((List.length a0 : Int) = (16 : Int)))
    (bindO (fTrim a0 ([48, 49, 50, 51, 52, 53, 54, 55, 56, 57, 97, 98, 99, 100, 101, 102] : List UInt8)) fun y1 =>
    some (decide (y1 = ([] : List UInt8))))
    (some false)
def dc15 : DC :=
  (.seq (.reg [⟨none, (.mv (some 2) (.v (.bool false)))⟩])
  (.seq (.reg [⟨none, (.mv (some 3) (.t 0))⟩,
    ⟨none, (.ln 4 none (.t 3))⟩,
    ⟨none, (.ar 5 .eql (.t 4) (.v (.int .i64 16)))⟩,
    ⟨none, (.mv (some 6) (.t 5))⟩,
    ⟨(some (6, true)), (.mv (some 7) (.t 0))⟩,
    ⟨(some (6, true)), (.ca (some 8) 26 [(.t 7), (.v (.str [48, 49, 50, 51, 52, 53, 54, 55, 56, 57, 97, 98, 99, 100, 101, 102]))])⟩,
    ⟨(some (6, true)), (.ar 9 .eql (.t 8) (.v (.str [])))⟩,
    ⟨none, (.pick 10 (.t 6) (.t 9) (.v (.bool false)))⟩,
    ⟨none, (.mv (some 2) (.t 10))⟩])
  .ret))
noncomputable def ent15 : TEnt := ⟨15, [.str], .bool, fun x => F15 x, .plain⟩
theorem eq15 (x : dens ent15.as) : ent15.F x = evF [entTrim] SHF dc15 [(.tmp 2)] ent15.as ent15.rs x := by kernel_rfl
/-- library/libraryref06.Right -/
noncomputable def F16 (a0 : List UInt8) : Option (Bool) :=
  cond (!decide ((List.length a0 : Int) = (16 : Int)))
    (some false)
    (loopK (σ := Int) (fun p1 againp1 =>
      cond (decide (p1 < (16 : Int)))
        (gd (0 ≤ p1 ∧ p1 < (List.length a0 : Int)) <|
        cond (decide ((48 : Int) ≤ (UInt8.toNat (List.getD a0 (Int.toNat p1) 0) : Int)))
          (gd (0 ≤ p1 ∧ p1 < (List.length a0 : Int)) <|
          cond (decide ((UInt8.toNat (List.getD a0 (Int.toNat p1) 0) : Int) ≤ (57 : Int)))
            (bnd (IntKind.wrap .i64 (p1 + (1 : Int))) fun x2 =>
            againp1 x2)
            (gd (0 ≤ p1 ∧ p1 < (List.length a0 : Int)) <|
            cond (decide ((97 : Int) ≤ (UInt8.toNat (List.getD a0 (Int.toNat p1) 0) : Int)))
              (gd (0 ≤ p1 ∧ p1 < (List.length a0 : Int)) <|
              cond (!(decide ((UInt8.toNat (List.getD a0 (Int.toNat p1) 0) : Int) ≤ (102 : Int))))
                (some false)
                (bnd (IntKind.wrap .i64 (p1 + (1 : Int))) fun x3 =>
                againp1 x3))
              (some false)))
          (gd (0 ≤ p1 ∧ p1 < (List.length a0 : Int)) <|
          cond (decide ((97 : Int) ≤ (UInt8.toNat (List.getD a0 (Int.toNat p1) 0) : Int)))
            (gd (0 ≤ p1 ∧ p1 < (List.length a0 : Int)) <|
            cond (!(decide ((UInt8.toNat (List.getD a0 (Int.toNat p1) 0) : Int) ≤ (102 : Int))))
              (some false)
              (bnd (IntKind.wrap .i64 (p1 + (1 : Int))) fun x4 =>
              againp1 x4))
            (some false)))
        (some true)) (0 : Int))
def dc16 : DC :=
  (.seq (.reg [⟨none, (.mv (some 2) (.v (.bool false)))⟩])
  (.seq (.seq (.reg [⟨none, (.mv (some 4) (.t 0))⟩,
    ⟨none, (.ln 5 none (.t 4))⟩,
    ⟨none, (.ar 6 .neq (.t 5) (.v (.int .i64 16)))⟩])
  (.cond (.t 6)
    (.seq (.reg [⟨none, (.mv (some 2) (.v (.bool false)))⟩])
  .ret)
    .skip))
  (.seq (.seq (.reg [⟨none, (.mv (some 3) (.v (.int .i64 0)))⟩])
  (.block 0 (.loop ⟨[(3, (.lf (.int .i64)))], [], [2, 7, 8, 9, 10, 11, 12, 13, 14, 15, 16, 17, 18, 19, 20, 21, 22, 23, 24, 25, 26, 27, 28, 29, 30, 31, 32, 33].map .s⟩ (.seq (.seq (.reg [⟨none, (.mv (some 7) (.t 3))⟩,
    ⟨none, (.ar 8 .lss (.t 7) (.v (.int .i64 16)))⟩])
  (.cond (.t 8)
    .skip
    (.exit 0)))
  (.seq (.block 1 (.seq (.reg [⟨none, (.mv (some 11) (.t 0))⟩,
    ⟨none, (.mv (some 12) (.t 3))⟩,
    ⟨none, (.ix 13 (.t 11) (.t 12))⟩,
    ⟨none, (.ar 14 .geq (.t 13) (.v (.int .u8 48)))⟩,
    ⟨none, (.mv (some 15) (.t 14))⟩,
    ⟨(some (15, true)), (.mv (some 16) (.t 0))⟩,
    ⟨(some (15, true)), (.mv (some 17) (.t 3))⟩,
    ⟨(some (15, true)), (.ix 18 (.t 16) (.t 17))⟩,
    ⟨(some (15, true)), (.ar 19 .leq (.t 18) (.v (.int .u8 57)))⟩,
    ⟨none, (.pick 20 (.t 15) (.t 19) (.v (.bool false)))⟩,
    ⟨none, (.mv (some 21) (.t 20))⟩,
    ⟨(some (21, false)), (.mv (some 22) (.t 0))⟩,
    ⟨(some (21, false)), (.mv (some 23) (.t 3))⟩,
    ⟨(some (21, false)), (.ix 24 (.t 22) (.t 23))⟩,
    ⟨(some (21, false)), (.ar 25 .geq (.t 24) (.v (.int .u8 97)))⟩,
    ⟨(some (21, false)), (.mv (some 26) (.t 25))⟩,
    ⟨(some (26, true)), (.mv (some 27) (.t 0))⟩,
    ⟨(some (26, true)), (.mv (some 28) (.t 3))⟩,
    ⟨(some (26, true)), (.ix 29 (.t 27) (.t 28))⟩,
    ⟨(some (26, true)), (.ar 30 .leq (.t 29) (.v (.int .u8 102)))⟩,
    ⟨(some (21, false)), (.pick 31 (.t 26) (.t 30) (.v (.bool false)))⟩,
    ⟨none, (.pick 32 (.t 21) (.v (.bool true)) (.t 31))⟩,
    ⟨none, (.un 33 .not (.t 32))⟩])
  (.cond (.t 33)
    (.seq (.reg [⟨none, (.mv (some 2) (.v (.bool false)))⟩])
  .ret)
    .skip)))
  (.reg [⟨none, (.mv (some 9) (.t 3))⟩,
    ⟨none, (.ar 10 .add (.t 9) (.v (.int .i64 1)))⟩,
    ⟨none, (.mv (some 3) (.t 10))⟩]))))))
  (.seq (.reg [⟨none, (.mv (some 2) (.v (.bool true)))⟩])
  .ret))))
noncomputable def ent16 : TEnt := ⟨16, [.str], .bool, fun x => F16 x, .plain⟩
theorem eq16 (x : dens ent16.as) : ent16.F x = evF [] SHF dc16 [(.tmp 2)] ent16.as ent16.rs x := by kernel_rfl
/-- library/libraryref06.Small -/
noncomputable def F17 (a0 : List (List UInt8)) : Option (Bool) :=
  cond (decide ((60 : Int) < (List.length a0 : Int)))
    (some false)
    (loopK (σ := Int × Int) (fun p1 againp1 =>
      cond (decide (p1.2 < (List.length a0 : Int)))
        (gd (0 ≤ p1.2 ∧ p1.2 < (List.length a0 : Int)) <|
        cond (decide ((1000 : Int) < (List.length (List.getD a0 (Int.toNat p1.2) []) : Int)))
          (some false)
          (gd (0 ≤ p1.2 ∧ p1.2 < (List.length a0 : Int)) <|
          bnd (IntKind.wrap .i64 (p1.1 + (List.length (List.getD a0 (Int.toNat p1.2) []) : Int))) fun x2 =>
          bnd (IntKind.wrap .i64 (p1.2 + (1 : Int))) fun x3 =>
          againp1 (x2, x3)))
        (some (decide (p1.1 ≤ (20000 : Int))))) ((0 : Int), (0 : Int)))
def dc17 : DC :=
  (.seq (.reg [⟨none, (.mv (some 2) (.v (.bool false)))⟩])
  (.seq (.seq (.reg [⟨none, (.mv (some 5) (.t 0))⟩,
    ⟨none, (.ln 6 (some 9) (.t 5))⟩,
    ⟨none, (.ar 7 .gtr (.t 6) (.v (.int .i64 60)))⟩])
  (.cond (.t 7)
    (.seq (.reg [⟨none, (.mv (some 2) (.v (.bool false)))⟩])
  .ret)
    .skip))
  (.seq (.reg [⟨none, (.mv (some 3) (.v (.int .i64 0)))⟩])
  (.seq (.seq (.reg [⟨none, (.mv (some 4) (.v (.int .i64 0)))⟩])
  (.block 0 (.loop ⟨[(3, (.lf (.int .i64))), (4, (.lf (.int .i64)))], [], [2, 8, 9, 10, 11, 12, 13, 14, 15, 16, 17, 18, 19, 20, 21, 22, 23, 24, 25, 26].map .s⟩ (.seq (.seq (.reg [⟨none, (.mv (some 8) (.t 4))⟩,
    ⟨none, (.mv (some 9) (.t 0))⟩,
    ⟨none, (.ln 10 (some 9) (.t 9))⟩,
    ⟨none, (.ar 11 .lss (.t 8) (.t 10))⟩])
  (.cond (.t 11)
    .skip
    (.exit 0)))
  (.seq (.block 1 (.seq (.seq (.reg [⟨none, (.mv (some 14) (.t 0))⟩,
    ⟨none, (.mv (some 15) (.t 4))⟩,
    ⟨none, (.ea 16 9 (.t 14) (.t 15))⟩,
    ⟨none, (.ld 17 none (.t 16))⟩,
    ⟨none, (.ln 18 none (.t 17))⟩,
    ⟨none, (.ar 19 .gtr (.t 18) (.v (.int .i64 1000)))⟩])
  (.cond (.t 19)
    (.seq (.reg [⟨none, (.mv (some 2) (.v (.bool false)))⟩])
  .ret)
    .skip))
  (.reg [⟨none, (.mv (some 20) (.t 3))⟩,
    ⟨none, (.mv (some 21) (.t 0))⟩,
    ⟨none, (.mv (some 22) (.t 4))⟩,
    ⟨none, (.ea 23 9 (.t 21) (.t 22))⟩,
    ⟨none, (.ld 24 none (.t 23))⟩,
    ⟨none, (.ln 25 none (.t 24))⟩,
    ⟨none, (.ar 26 .add (.t 20) (.t 25))⟩,
    ⟨none, (.mv (some 3) (.t 26))⟩])))
  (.reg [⟨none, (.mv (some 12) (.t 4))⟩,
    ⟨none, (.ar 13 .add (.t 12) (.v (.int .i64 1)))⟩,
    ⟨none, (.mv (some 4) (.t 13))⟩]))))))
  (.seq (.reg [⟨none, (.mv (some 27) (.t 3))⟩,
    ⟨none, (.ar 28 .leq (.t 27) (.v (.int .i64 20000)))⟩,
    ⟨none, (.mv (some 2) (.t 28))⟩])
  .ret)))))
noncomputable def ent17 : TEnt := ⟨17, [(.sl 9 .str)], .bool, fun x => F17 x, .plain⟩
theorem eq17 (x : dens ent17.as) : ent17.F x = evF [] SHF dc17 [(.tmp 2)] ent17.as ent17.rs x := by kernel_rfl
/-- library/digest.leaves -/
noncomputable def F27 (a0 : List (List UInt8)) : Option (List (List UInt8)) :=
  gd (0 ≤ (List.length a0 : Int) ∧ (List.length a0 : Int) = (List.length a0 : Int) ∧ (List.length a0 : Int) ≤ (big : Int)) <|
  loopK (σ := Int × List (List UInt8)) (fun p1 againp1 =>
    cond (decide (p1.1 < (List.length a0 : Int)))
      (gd (0 ≤ p1.1 ∧ p1.1 < (List.length a0 : Int)) <|
      bindO (F25 [([48] : List UInt8), (List.getD a0 (Int.toNat p1.1) [])]) fun y2 =>
      gd (0 ≤ p1.1 ∧ p1.1 < (List.length p1.2 : Int)) <|
      gd ((Int.toNat p1.1) < List.length p1.2) <|
      bnd (IntKind.wrap .i64 (p1.1 + (1 : Int))) fun x3 =>
      againp1 (x3, (List.set p1.2 (Int.toNat p1.1) y2)))
      (some p1.2)) ((0 : Int), (List.replicate (Int.toNat (List.length a0 : Int)) ([] : List UInt8) : List (List UInt8)))
def dc27 : DC :=
  (.seq (.reg [⟨none, (.nl 2 9)⟩])
  (.seq (.reg [⟨none, (.mv (some 6) (.t 0))⟩,
    ⟨none, (.ln 7 (some 9) (.t 6))⟩,
    ⟨none, (.mm 8 9 (.str []) (.t 7) (.t 7))⟩,
    ⟨none, (.mv (some 3) (.t 8))⟩])
  (.seq (.seq (.reg [⟨none, (.mv (some 9) (.t 0))⟩,
    ⟨none, (.ln 10 (some 9) (.t 9))⟩,
    ⟨none, (.mv (some 11) (.v (.int .i64 0)))⟩])
  (.block 0 (.loop ⟨[(11, (.lf (.int .i64)))], [(8, (.lf (.arr 1000009 .str)))], [4, 5, 12, 13, 14, 15, 16, 17, 18, 19, 20, 21, 22].map .s ++ [19].map .f⟩ (.seq (.reg [⟨none, (.ar 12 .lss (.t 11) (.t 10))⟩])
  (.seq (.cond (.t 12)
    .skip
    (.exit 0))
  (.seq (.block 1 (.seq (.reg [⟨none, (.mv (some 13) (.t 11))⟩,
    ⟨none, (.ea 14 9 (.t 9) (.t 11))⟩,
    ⟨none, (.ld 15 none (.t 14))⟩,
    ⟨none, (.mv (some 4) (.t 13))⟩,
    ⟨none, (.mv (some 5) (.t 15))⟩])
  (.reg [⟨none, (.mv (some 16) (.t 3))⟩,
    ⟨none, (.mv (some 17) (.t 4))⟩,
    ⟨none, (.mv (some 18) (.t 5))⟩,
    ⟨none, (.bs 19 9 none [(.v (.str [48])), (.t 18)])⟩,
    ⟨none, (.ca (some 20) 25 [(.t 19)])⟩,
    ⟨none, (.ea 21 9 (.t 16) (.t 17))⟩,
    ⟨none, (.st none (.t 21) (.t 20))⟩])))
  (.reg [⟨none, (.ar 22 .add (.t 11) (.v (.int .i64 1)))⟩,
    ⟨none, (.mv (some 11) (.t 22))⟩])))))))
  (.seq (.seq (.gh 8 [])
  (.reg [⟨none, (.mv (some 23) (.t 3))⟩,
    ⟨none, (.mv (some 2) (.t 23))⟩]))
  .ret))))
noncomputable def ent27 : TEnt := ⟨27, [(.sl 9 .str)], (.sl 9 .str), fun x => F27 x, .plain⟩
theorem eq27 (x : dens ent27.as) : ent27.F x = evF [ent25] SHF dc27 [(.tmp 2)] ent27.as ent27.rs x := by kernel_rfl
/-- library/digest.above -/
noncomputable def F28 (a0 : List (List UInt8)) : Option (List (List UInt8)) :=
  gdN (List.length ([] : List (List UInt8))) (List.length ([] : List (List UInt8))) <|
  loopK (σ := List (List UInt8) × Int) (fun p1 againp1 =>
    cond (decide (p1.2 < (List.length a0 : Int)))
      (bnd (IntKind.wrap .i64 (p1.2 + (1 : Int))) fun x2 =>
      cond (decide (x2 = (List.length a0 : Int)))
        (gd (0 ≤ p1.2 ∧ p1.2 < (List.length a0 : Int)) <|
        gdN (List.length p1.1) (List.length p1.1) <|
        gd (List.length p1.1 + List.length [(List.getD a0 (Int.toNat p1.2) [])] ≤ big) <|
        bnd (p1.1 ++ [(List.getD a0 (Int.toNat p1.2) [])]) fun l3 =>
        bnd (IntKind.wrap .i64 (p1.2 + (2 : Int))) fun x4 =>
        gdN (List.length l3) (List.length l3) <|
        againp1 (l3, x4))
        (gd (0 ≤ p1.2 ∧ p1.2 < (List.length a0 : Int)) <|
        bnd (IntKind.wrap .i64 (p1.2 + (1 : Int))) fun x5 =>
        gd (0 ≤ x5 ∧ x5 < (List.length a0 : Int)) <|
        bindO (F12 (List.getD a0 (Int.toNat p1.2) []) (List.getD a0 (Int.toNat x5) [])) fun y6 =>
        gdN (List.length p1.1) (List.length p1.1) <|
        gd (List.length p1.1 + List.length [y6] ≤ big) <|
        bnd (p1.1 ++ [y6]) fun l7 =>
        bnd (IntKind.wrap .i64 (p1.2 + (2 : Int))) fun x8 =>
        gdN (List.length l7) (List.length l7) <|
        againp1 (l7, x8)))
      (some p1.1)) (([] : List (List UInt8)), (0 : Int))
def dc28 : DC :=
  (.seq (.reg [⟨none, (.nl 2 9)⟩])
  (.seq (.reg [⟨none, (.nl 3 9)⟩])
  (.seq (.seq (.reg [⟨none, (.mv (some 4) (.v (.int .i64 0)))⟩])
  (.block 0 (.loop ⟨[(3, (.row 3 9 .str)), (4, (.lf (.int .i64)))], [], [5, 6, 7, 8, 9, 10, 11, 12, 13, 14, 15, 16, 17, 18, 19, 20, 21, 22, 23, 24, 25, 26, 27, 28, 29, 30, 31, 32, 33, 34, 35].map .s ++ [21, 34].map .f⟩ (.seq (.seq (.reg [⟨none, (.mv (some 5) (.t 4))⟩,
    ⟨none, (.mv (some 6) (.t 0))⟩,
    ⟨none, (.ln 7 (some 9) (.t 6))⟩,
    ⟨none, (.ar 8 .lss (.t 5) (.t 7))⟩])
  (.cond (.t 8)
    .skip
    (.exit 0)))
  (.seq (.block 1 (.seq (.reg [⟨none, (.mv (some 11) (.t 4))⟩,
    ⟨none, (.ar 12 .add (.t 11) (.v (.int .i64 1)))⟩,
    ⟨none, (.mv (some 13) (.t 0))⟩,
    ⟨none, (.ln 14 (some 9) (.t 13))⟩,
    ⟨none, (.ar 15 .eql (.t 12) (.t 14))⟩])
  (.cond (.t 15)
    (.reg [⟨none, (.mv (some 16) (.t 3))⟩,
    ⟨none, (.mv (some 17) (.t 0))⟩,
    ⟨none, (.mv (some 18) (.t 4))⟩,
    ⟨none, (.ea 19 9 (.t 17) (.t 18))⟩,
    ⟨none, (.ld 20 none (.t 19))⟩,
    ⟨none, (.bs 21 9 none [(.t 20)])⟩,
    ⟨none, (.ap 22 9 (.t 16) (.t 21))⟩,
    ⟨none, (.mv (some 3) (.t 22))⟩])
    (.reg [⟨none, (.mv (some 23) (.t 3))⟩,
    ⟨none, (.mv (some 24) (.t 0))⟩,
    ⟨none, (.mv (some 25) (.t 4))⟩,
    ⟨none, (.ea 26 9 (.t 24) (.t 25))⟩,
    ⟨none, (.ld 27 none (.t 26))⟩,
    ⟨none, (.mv (some 28) (.t 0))⟩,
    ⟨none, (.mv (some 29) (.t 4))⟩,
    ⟨none, (.ar 30 .add (.t 29) (.v (.int .i64 1)))⟩,
    ⟨none, (.ea 31 9 (.t 28) (.t 30))⟩,
    ⟨none, (.ld 32 none (.t 31))⟩,
    ⟨none, (.ca (some 33) 12 [(.t 27), (.t 32)])⟩,
    ⟨none, (.bs 34 9 none [(.t 33)])⟩,
    ⟨none, (.ap 35 9 (.t 23) (.t 34))⟩,
    ⟨none, (.mv (some 3) (.t 35))⟩]))))
  (.reg [⟨none, (.mv (some 9) (.t 4))⟩,
    ⟨none, (.ar 10 .add (.t 9) (.v (.int .i64 2)))⟩,
    ⟨none, (.mv (some 4) (.t 10))⟩]))))))
  (.seq (.reg [⟨none, (.mv (some 36) (.t 3))⟩,
    ⟨none, (.mv (some 2) (.t 36))⟩])
  .ret))))
noncomputable def ent28 : TEnt := ⟨28, [(.sl 9 .str)], (.sl 9 .str), fun x => F28 x, .plain⟩
theorem eq28 (x : dens ent28.as) : ent28.F x = evF [ent12] SHF dc28 [(.tmp 2)] ent28.as ent28.rs x := by kernel_rfl
/-- library/libraryref06.Leaves -/
noncomputable def F29 (a0 : List (List UInt8)) : Option (List (List UInt8)) :=
  gdN (List.length ([] : List (List UInt8))) (List.length ([] : List (List UInt8))) <|
  loopK (σ := List (List UInt8) × Int) (fun p1 againp1 =>
    cond (decide (p1.2 < (List.length a0 : Int)))
      (gd (0 ≤ p1.2 ∧ p1.2 < (List.length a0 : Int)) <|
      gd (List.length ([48] : List UInt8) + List.length (List.getD a0 (Int.toNat p1.2) []) ≤ big) <|
      bnd (([48] : List UInt8) ++ (List.getD a0 (Int.toNat p1.2) [])) fun x2 =>
      bindO (F13 x2) fun y3 =>
      gdN (List.length p1.1) (List.length p1.1) <|
      gd (List.length p1.1 + List.length [y3] ≤ big) <|
      bnd (p1.1 ++ [y3]) fun l4 =>
      bnd (IntKind.wrap .i64 (p1.2 + (1 : Int))) fun x5 =>
      gdN (List.length l4) (List.length l4) <|
      againp1 (l4, x5))
      (some p1.1)) (([] : List (List UInt8)), (0 : Int))
def dc29 : DC :=
  (.seq (.reg [⟨none, (.nl 2 9)⟩])
  (.seq (.reg [⟨none, (.bs 5 9 none [])⟩,
    ⟨none, (.mv (some 3) (.t 5))⟩])
  (.seq (.seq (.reg [⟨none, (.mv (some 4) (.v (.int .i64 0)))⟩])
  (.block 0 (.loop ⟨[(3, (.row 5 9 .str)), (4, (.lf (.int .i64)))], [], [6, 7, 8, 9, 10, 11, 12, 13, 14, 15, 16, 17, 18, 19, 20].map .s ++ [19].map .f⟩ (.seq (.seq (.reg [⟨none, (.mv (some 6) (.t 4))⟩,
    ⟨none, (.mv (some 7) (.t 0))⟩,
    ⟨none, (.ln 8 (some 9) (.t 7))⟩,
    ⟨none, (.ar 9 .lss (.t 6) (.t 8))⟩])
  (.cond (.t 9)
    .skip
    (.exit 0)))
  (.seq (.block 1 (.reg [⟨none, (.mv (some 12) (.t 3))⟩,
    ⟨none, (.mv (some 13) (.t 0))⟩,
    ⟨none, (.mv (some 14) (.t 4))⟩,
    ⟨none, (.ea 15 9 (.t 13) (.t 14))⟩,
    ⟨none, (.ld 16 none (.t 15))⟩,
    ⟨none, (.ar 17 .add (.v (.str [48])) (.t 16))⟩,
    ⟨none, (.ca (some 18) 13 [(.t 17)])⟩,
    ⟨none, (.bs 19 9 none [(.t 18)])⟩,
    ⟨none, (.ap 20 9 (.t 12) (.t 19))⟩,
    ⟨none, (.mv (some 3) (.t 20))⟩]))
  (.reg [⟨none, (.mv (some 10) (.t 4))⟩,
    ⟨none, (.ar 11 .add (.t 10) (.v (.int .i64 1)))⟩,
    ⟨none, (.mv (some 4) (.t 11))⟩]))))))
  (.seq (.reg [⟨none, (.mv (some 21) (.t 3))⟩,
    ⟨none, (.mv (some 2) (.t 21))⟩])
  .ret))))
noncomputable def ent29 : TEnt := ⟨29, [(.sl 9 .str)], (.sl 9 .str), fun x => F29 x, .plain⟩
theorem eq29 (x : dens ent29.as) : ent29.F x = evF [ent13] SHF dc29 [(.tmp 2)] ent29.as ent29.rs x := by kernel_rfl
/-- library/libraryref06.Next -/
noncomputable def F30 (a0 : List (List UInt8)) : Option (List (List UInt8)) :=
  gdN (List.length ([] : List (List UInt8))) (List.length ([] : List (List UInt8))) <|
  loopK (σ := List (List UInt8) × Int) (fun p1 againp1 =>
    cond (decide (p1.2 < (List.length a0 : Int)))
      (bnd (IntKind.wrap .i64 (p1.2 + (1 : Int))) fun x2 =>
      cond (decide (x2 < (List.length a0 : Int)))
        (gd (0 ≤ p1.2 ∧ p1.2 < (List.length a0 : Int)) <|
        bnd (IntKind.wrap .i64 (p1.2 + (1 : Int))) fun x3 =>
        gd (0 ≤ x3 ∧ x3 < (List.length a0 : Int)) <|
        bindO (F14 (List.getD a0 (Int.toNat p1.2) []) (List.getD a0 (Int.toNat x3) [])) fun y4 =>
        gdN (List.length p1.1) (List.length p1.1) <|
        gd (List.length p1.1 + List.length [y4] ≤ big) <|
        bnd (p1.1 ++ [y4]) fun l5 =>
        bnd (IntKind.wrap .i64 (p1.2 + (2 : Int))) fun x6 =>
        gdN (List.length l5) (List.length l5) <|
        againp1 (l5, x6))
        (gd (0 ≤ p1.2 ∧ p1.2 < (List.length a0 : Int)) <|
        gdN (List.length p1.1) (List.length p1.1) <|
        gd (List.length p1.1 + List.length [(List.getD a0 (Int.toNat p1.2) [])] ≤ big) <|
        bnd (p1.1 ++ [(List.getD a0 (Int.toNat p1.2) [])]) fun l7 =>
        bnd (IntKind.wrap .i64 (p1.2 + (2 : Int))) fun x8 =>
        gdN (List.length l7) (List.length l7) <|
        againp1 (l7, x8)))
      (some p1.1)) (([] : List (List UInt8)), (0 : Int))
def dc30 : DC :=
  (.seq (.reg [⟨none, (.nl 2 9)⟩])
  (.seq (.reg [⟨none, (.bs 5 9 none [])⟩,
    ⟨none, (.mv (some 3) (.t 5))⟩])
  (.seq (.seq (.reg [⟨none, (.mv (some 4) (.v (.int .i64 0)))⟩])
  (.block 0 (.loop ⟨[(3, (.row 5 9 .str)), (4, (.lf (.int .i64)))], [], [6, 7, 8, 9, 10, 11, 12, 13, 14, 15, 16, 17, 18, 19, 20, 21, 22, 23, 24, 25, 26, 27, 28, 29, 30, 31, 32, 33, 34, 35, 36].map .s ++ [28, 35].map .f⟩ (.seq (.seq (.reg [⟨none, (.mv (some 6) (.t 4))⟩,
    ⟨none, (.mv (some 7) (.t 0))⟩,
    ⟨none, (.ln 8 (some 9) (.t 7))⟩,
    ⟨none, (.ar 9 .lss (.t 6) (.t 8))⟩])
  (.cond (.t 9)
    .skip
    (.exit 0)))
  (.seq (.block 1 (.seq (.reg [⟨none, (.mv (some 12) (.t 4))⟩,
    ⟨none, (.ar 13 .add (.t 12) (.v (.int .i64 1)))⟩,
    ⟨none, (.mv (some 14) (.t 0))⟩,
    ⟨none, (.ln 15 (some 9) (.t 14))⟩,
    ⟨none, (.ar 16 .lss (.t 13) (.t 15))⟩])
  (.cond (.t 16)
    (.reg [⟨none, (.mv (some 17) (.t 3))⟩,
    ⟨none, (.mv (some 18) (.t 0))⟩,
    ⟨none, (.mv (some 19) (.t 4))⟩,
    ⟨none, (.ea 20 9 (.t 18) (.t 19))⟩,
    ⟨none, (.ld 21 none (.t 20))⟩,
    ⟨none, (.mv (some 22) (.t 0))⟩,
    ⟨none, (.mv (some 23) (.t 4))⟩,
    ⟨none, (.ar 24 .add (.t 23) (.v (.int .i64 1)))⟩,
    ⟨none, (.ea 25 9 (.t 22) (.t 24))⟩,
    ⟨none, (.ld 26 none (.t 25))⟩,
    ⟨none, (.ca (some 27) 14 [(.t 21), (.t 26)])⟩,
    ⟨none, (.bs 28 9 none [(.t 27)])⟩,
    ⟨none, (.ap 29 9 (.t 17) (.t 28))⟩,
    ⟨none, (.mv (some 3) (.t 29))⟩])
    (.reg [⟨none, (.mv (some 30) (.t 3))⟩,
    ⟨none, (.mv (some 31) (.t 0))⟩,
    ⟨none, (.mv (some 32) (.t 4))⟩,
    ⟨none, (.ea 33 9 (.t 31) (.t 32))⟩,
    ⟨none, (.ld 34 none (.t 33))⟩,
    ⟨none, (.bs 35 9 none [(.t 34)])⟩,
    ⟨none, (.ap 36 9 (.t 30) (.t 35))⟩,
    ⟨none, (.mv (some 3) (.t 36))⟩]))))
  (.reg [⟨none, (.mv (some 10) (.t 4))⟩,
    ⟨none, (.ar 11 .add (.t 10) (.v (.int .i64 2)))⟩,
    ⟨none, (.mv (some 4) (.t 11))⟩]))))))
  (.seq (.reg [⟨none, (.mv (some 37) (.t 3))⟩,
    ⟨none, (.mv (some 2) (.t 37))⟩])
  .ret))))
noncomputable def ent30 : TEnt := ⟨30, [(.sl 9 .str)], (.sl 9 .str), fun x => F30 x, .plain⟩
theorem eq30 (x : dens ent30.as) : ent30.F x = evF [ent14] SHF dc30 [(.tmp 2)] ent30.as ent30.rs x := by kernel_rfl
/-- library/digest.Root -/
noncomputable def F18 (a0 : List (List UInt8)) : Option (List UInt8) :=
  cond (decide ((List.length a0 : Int) = (0 : Int)))
    (bindO (F11 ([] : List UInt8)) fun y1 =>
    some y1)
    (bindO (F27 a0) fun y2 =>
    loopK (σ := List (List UInt8)) (fun p3 againp3 =>
      cond (decide ((1 : Int) < (List.length p3 : Int)))
        (bindO (F28 p3) fun y4 =>
        againp3 y4)
        (gd (0 ≤ (0 : Int) ∧ (0 : Int) < (List.length p3 : Int)) <|
        some (List.getD p3 (Int.toNat (0 : Int)) []))) y2)
def dc18 : DC :=
  (.seq (.reg [⟨none, (.mv (some 2) (.v (.str [])))⟩])
  (.seq (.seq (.reg [⟨none, (.mv (some 4) (.t 0))⟩,
    ⟨none, (.ln 5 (some 9) (.t 4))⟩,
    ⟨none, (.ar 6 .eql (.t 5) (.v (.int .i64 0)))⟩])
  (.cond (.t 6)
    (.seq (.reg [⟨none, (.ca (some 7) 11 [(.v (.str []))])⟩,
    ⟨none, (.mv (some 2) (.t 7))⟩])
  .ret)
    .skip))
  (.seq (.reg [⟨none, (.mv (some 8) (.t 0))⟩,
    ⟨none, (.ca (some 9) 27 [(.t 8)])⟩,
    ⟨none, (.mv (some 3) (.t 9))⟩])
  (.seq (.block 0 (.loop ⟨[(3, (.lf (.sl 9 .str)))], [], [10, 11, 12, 13, 14].map .s⟩ (.seq (.seq (.reg [⟨none, (.mv (some 10) (.t 3))⟩,
    ⟨none, (.ln 11 (some 9) (.t 10))⟩,
    ⟨none, (.ar 12 .gtr (.t 11) (.v (.int .i64 1)))⟩])
  (.cond (.t 12)
    .skip
    (.exit 0)))
  (.block 1 (.reg [⟨none, (.mv (some 13) (.t 3))⟩,
    ⟨none, (.ca (some 14) 28 [(.t 13)])⟩,
    ⟨none, (.mv (some 3) (.t 14))⟩])))))
  (.seq (.reg [⟨none, (.mv (some 15) (.t 3))⟩,
    ⟨none, (.ea 16 9 (.t 15) (.v (.int .i64 0)))⟩,
    ⟨none, (.ld 17 none (.t 16))⟩,
    ⟨none, (.mv (some 2) (.t 17))⟩])
  .ret)))))
noncomputable def ent18 : TEnt := ⟨18, [(.sl 9 .str)], .str, fun x => F18 x, .plain⟩
theorem eq18 (x : dens ent18.as) : ent18.F x = evF [ent11, ent27, ent28] SHF dc18 [(.tmp 2)] ent18.as ent18.rs x := by kernel_rfl
/-- library/libraryref06.Root -/
noncomputable def F19 (a0 : List (List UInt8)) : Option (List UInt8) :=
  cond (decide ((List.length a0 : Int) = (0 : Int)))
    (bindO (F13 ([] : List UInt8)) fun y1 =>
    some y1)
    (bindO (F29 a0) fun y2 =>
    loopK (σ := List (List UInt8)) (fun p3 againp3 =>
      cond (decide ((1 : Int) < (List.length p3 : Int)))
        (bindO (F30 p3) fun y4 =>
        againp3 y4)
        (gd (0 ≤ (0 : Int) ∧ (0 : Int) < (List.length p3 : Int)) <|
        some (List.getD p3 (Int.toNat (0 : Int)) []))) y2)
def dc19 : DC :=
  (.seq (.reg [⟨none, (.mv (some 2) (.v (.str [])))⟩])
  (.seq (.seq (.reg [⟨none, (.mv (some 4) (.t 0))⟩,
    ⟨none, (.ln 5 (some 9) (.t 4))⟩,
    ⟨none, (.ar 6 .eql (.t 5) (.v (.int .i64 0)))⟩])
  (.cond (.t 6)
    (.seq (.reg [⟨none, (.ca (some 7) 13 [(.v (.str []))])⟩,
    ⟨none, (.mv (some 2) (.t 7))⟩])
  .ret)
    .skip))
  (.seq (.reg [⟨none, (.mv (some 8) (.t 0))⟩,
    ⟨none, (.ca (some 9) 29 [(.t 8)])⟩,
    ⟨none, (.mv (some 3) (.t 9))⟩])
  (.seq (.block 0 (.loop ⟨[(3, (.lf (.sl 9 .str)))], [], [10, 11, 12, 13, 14].map .s⟩ (.seq (.seq (.reg [⟨none, (.mv (some 10) (.t 3))⟩,
    ⟨none, (.ln 11 (some 9) (.t 10))⟩,
    ⟨none, (.ar 12 .gtr (.t 11) (.v (.int .i64 1)))⟩])
  (.cond (.t 12)
    .skip
    (.exit 0)))
  (.block 1 (.reg [⟨none, (.mv (some 13) (.t 3))⟩,
    ⟨none, (.ca (some 14) 30 [(.t 13)])⟩,
    ⟨none, (.mv (some 3) (.t 14))⟩])))))
  (.seq (.reg [⟨none, (.mv (some 15) (.t 3))⟩,
    ⟨none, (.ea 16 9 (.t 15) (.v (.int .i64 0)))⟩,
    ⟨none, (.ld 17 none (.t 16))⟩,
    ⟨none, (.mv (some 2) (.t 17))⟩])
  .ret)))))
noncomputable def ent19 : TEnt := ⟨19, [(.sl 9 .str)], .str, fun x => F19 x, .plain⟩
theorem eq19 (x : dens ent19.as) : ent19.F x = evF [ent13, ent29, ent30] SHF dc19 [(.tmp 2)] ent19.as ent19.rs x := by kernel_rfl
/-- library/digest.Proof -/
noncomputable def F20 (a0 : List (List UInt8)) (a1 : Int) : Option (List (List UInt8) × Int) :=
  jn (σ := Unit) (fun nextj1 =>
    nextj1 ()) fun j1 =>
  cond (decide (a1 < (0 : Int)))
    (some (([] : List (List UInt8)), (2 : Int)))
    (cond (decide ((List.length a0 : Int) ≤ a1))
      (some (([] : List (List UInt8)), (2 : Int)))
      (bindO (F27 a0) fun y2 =>
      gdN (List.length ([] : List (List UInt8))) (List.length ([] : List (List UInt8))) <|
      loopK (σ := Int × List (List UInt8) × List (List UInt8)) (fun p3 againp3 =>
        cond (decide ((1 : Int) < (List.length p3.2.2 : Int)))
          (bnd (xorI .i64 p3.1 (1 : Int)) fun x4 =>
          cond (decide (x4 < (List.length p3.2.2 : Int)))
            (gd (0 ≤ x4 ∧ x4 < (List.length p3.2.2 : Int)) <|
            gdN (List.length p3.2.1) (List.length p3.2.1) <|
            gd (List.length p3.2.1 + List.length [(List.getD p3.2.2 (Int.toNat x4) [])] ≤ big) <|
            bnd (p3.2.1 ++ [(List.getD p3.2.2 (Int.toNat x4) [])]) fun l5 =>
            bindO (F28 p3.2.2) fun y6 =>
            gd ((2 : Int) ≠ 0) <|
            bnd (IntKind.wrap .i64 (Int.tdiv p3.1 (2 : Int))) fun x7 =>
            gdN (List.length l5) (List.length l5) <|
            againp3 (x7, l5, y6))
            (bindO (F28 p3.2.2) fun y8 =>
            gd ((2 : Int) ≠ 0) <|
            bnd (IntKind.wrap .i64 (Int.tdiv p3.1 (2 : Int))) fun x9 =>
            gdN (List.length p3.2.1) (List.length p3.2.1) <|
            againp3 (x9, p3.2.1, y8)))
          (some (p3.2.1, (0 : Int)))) (a1, ([] : List (List UInt8)), y2)))
def dc20 : DC :=
  (.jn ⟨[], [], [4, 5].map .s ++ [4].map .f⟩ (.reg [⟨none, (.nl 4 9)⟩,
    ⟨none, (.mv (some 5) (.v (.int .i64 0)))⟩])
  (.seq (.seq (.reg [⟨none, (.mv (some 9) (.t 1))⟩,
    ⟨none, (.ar 10 .lss (.t 9) (.v (.int .i64 0)))⟩,
    ⟨none, (.mv (some 11) (.t 10))⟩,
    ⟨(some (11, false)), (.mv (some 12) (.t 1))⟩,
    ⟨(some (11, false)), (.mv (some 13) (.t 0))⟩,
    ⟨(some (11, false)), (.ln 14 (some 9) (.t 13))⟩,
    ⟨(some (11, false)), (.ar 15 .geq (.t 12) (.t 14))⟩,
    ⟨none, (.pick 16 (.t 11) (.v (.bool true)) (.t 15))⟩])
  (.cond (.t 16)
    (.seq (.reg [⟨none, (.nl 4 9)⟩,
    ⟨none, (.mv (some 5) (.v (.int .i64 2)))⟩])
  .ret)
    .skip))
  (.seq (.reg [⟨none, (.nl 6 9)⟩])
  (.seq (.seq (.reg [⟨none, (.mv (some 17) (.t 0))⟩,
    ⟨none, (.ca (some 18) 27 [(.t 17)])⟩,
    ⟨none, (.mv (some 7) (.t 18))⟩])
  (.block 0 (.loop ⟨[(1, (.lf (.int .i64))), (6, (.row 6 9 .str)), (7, (.lf (.sl 9 .str)))], [], [8, 19, 20, 21, 22, 23, 24, 25, 26, 27, 28, 29, 30, 31, 32, 33, 34, 35, 36, 37, 38].map .s ++ [37].map .f⟩ (.seq (.seq (.reg [⟨none, (.mv (some 19) (.t 7))⟩,
    ⟨none, (.ln 20 (some 9) (.t 19))⟩,
    ⟨none, (.ar 21 .gtr (.t 20) (.v (.int .i64 1)))⟩])
  (.cond (.t 21)
    .skip
    (.exit 0)))
  (.seq (.block 1 (.seq (.reg [⟨none, (.mv (some 26) (.t 1))⟩,
    ⟨none, (.ar 27 .xor (.t 26) (.v (.int .i64 1)))⟩,
    ⟨none, (.mv (some 8) (.t 27))⟩])
  (.seq (.reg [⟨none, (.mv (some 28) (.t 8))⟩,
    ⟨none, (.mv (some 29) (.t 7))⟩,
    ⟨none, (.ln 30 (some 9) (.t 29))⟩,
    ⟨none, (.ar 31 .lss (.t 28) (.t 30))⟩])
  (.cond (.t 31)
    (.reg [⟨none, (.mv (some 32) (.t 6))⟩,
    ⟨none, (.mv (some 33) (.t 7))⟩,
    ⟨none, (.mv (some 34) (.t 8))⟩,
    ⟨none, (.ea 35 9 (.t 33) (.t 34))⟩,
    ⟨none, (.ld 36 none (.t 35))⟩,
    ⟨none, (.bs 37 9 none [(.t 36)])⟩,
    ⟨none, (.ap 38 9 (.t 32) (.t 37))⟩,
    ⟨none, (.mv (some 6) (.t 38))⟩])
    .skip))))
  (.reg [⟨none, (.mv (some 22) (.t 7))⟩,
    ⟨none, (.ca (some 23) 28 [(.t 22)])⟩,
    ⟨none, (.mv (some 24) (.t 1))⟩,
    ⟨none, (.ar 25 .quo (.t 24) (.v (.int .i64 2)))⟩,
    ⟨none, (.mv (some 7) (.t 23))⟩,
    ⟨none, (.mv (some 1) (.t 25))⟩]))))))
  (.seq (.reg [⟨none, (.mv (some 39) (.t 6))⟩,
    ⟨none, (.mv (some 4) (.t 39))⟩,
    ⟨none, (.mv (some 5) (.v (.int .i64 0)))⟩])
  .ret)))))
noncomputable def ent20 : TEnt := ⟨20, [(.sl 9 .str), (.int .i64)], (.tup (.pair (.sl 9 .str) (.int .i64))), fun x => F20 x.1 x.2, .plain⟩
theorem eq20 (x : dens ent20.as) : ent20.F x = evF [ent27, ent28] SHF dc20 [(.tmp 4), (.tmp 5)] ent20.as ent20.rs x := by kernel_rfl
/-- library/libraryref06.Proof -/
noncomputable def F21 (a0 : List (List UInt8)) (a1 : Int) : Option (List (List UInt8) × Int) :=
  jn (σ := Unit) (fun nextj1 =>
    nextj1 ()) fun j1 =>
  cond (decide (a1 < (0 : Int)))
    (some (([] : List (List UInt8)), (2 : Int)))
    (cond (decide ((List.length a0 : Int) ≤ a1))
      (some (([] : List (List UInt8)), (2 : Int)))
      (bindO (F29 a0) fun y2 =>
      gdN (List.length ([] : List (List UInt8))) (List.length ([] : List (List UInt8))) <|
      loopK (σ := Int × List (List UInt8) × List (List UInt8)) (fun p3 againp3 =>
        cond (decide ((1 : Int) < (List.length p3.2.2 : Int)))
          (gd ((2 : Int) ≠ 0) <|
          bnd (Int.tmod p3.1 (2 : Int)) fun x4 =>
          cond (decide (x4 = (1 : Int)))
            (bnd (IntKind.wrap .i64 (p3.1 - (1 : Int))) fun x5 =>
            gd (0 ≤ x5 ∧ x5 < (List.length p3.2.2 : Int)) <|
            gdN (List.length p3.2.1) (List.length p3.2.1) <|
            gd (List.length p3.2.1 + List.length [(List.getD p3.2.2 (Int.toNat x5) [])] ≤ big) <|
            bnd (p3.2.1 ++ [(List.getD p3.2.2 (Int.toNat x5) [])]) fun l6 =>
            bindO (F30 p3.2.2) fun y7 =>
            gd ((2 : Int) ≠ 0) <|
            bnd (IntKind.wrap .i64 (Int.tdiv p3.1 (2 : Int))) fun x8 =>
            gdN (List.length l6) (List.length l6) <|
            againp3 (x8, l6, y7))
            (bnd (IntKind.wrap .i64 (p3.1 + (1 : Int))) fun x9 =>
            cond (decide (x9 < (List.length p3.2.2 : Int)))
              (bnd (IntKind.wrap .i64 (p3.1 + (1 : Int))) fun x10 =>
              gd (0 ≤ x10 ∧ x10 < (List.length p3.2.2 : Int)) <|
              gdN (List.length p3.2.1) (List.length p3.2.1) <|
              gd (List.length p3.2.1 + List.length [(List.getD p3.2.2 (Int.toNat x10) [])] ≤ big) <|
              bnd (p3.2.1 ++ [(List.getD p3.2.2 (Int.toNat x10) [])]) fun l11 =>
              bindO (F30 p3.2.2) fun y12 =>
              gd ((2 : Int) ≠ 0) <|
              bnd (IntKind.wrap .i64 (Int.tdiv p3.1 (2 : Int))) fun x13 =>
              gdN (List.length l11) (List.length l11) <|
              againp3 (x13, l11, y12))
              (bindO (F30 p3.2.2) fun y14 =>
              gd ((2 : Int) ≠ 0) <|
              bnd (IntKind.wrap .i64 (Int.tdiv p3.1 (2 : Int))) fun x15 =>
              gdN (List.length p3.2.1) (List.length p3.2.1) <|
              againp3 (x15, p3.2.1, y14))))
          (some (p3.2.1, (0 : Int)))) (a1, ([] : List (List UInt8)), y2)))
def dc21 : DC :=
  (.jn ⟨[], [], [4, 5].map .s ++ [4].map .f⟩ (.reg [⟨none, (.nl 4 9)⟩,
    ⟨none, (.mv (some 5) (.v (.int .i64 0)))⟩])
  (.seq (.seq (.reg [⟨none, (.mv (some 8) (.t 1))⟩,
    ⟨none, (.ar 9 .lss (.t 8) (.v (.int .i64 0)))⟩,
    ⟨none, (.mv (some 10) (.t 9))⟩,
    ⟨(some (10, false)), (.mv (some 11) (.t 1))⟩,
    ⟨(some (10, false)), (.mv (some 12) (.t 0))⟩,
    ⟨(some (10, false)), (.ln 13 (some 9) (.t 12))⟩,
    ⟨(some (10, false)), (.ar 14 .geq (.t 11) (.t 13))⟩,
    ⟨none, (.pick 15 (.t 10) (.v (.bool true)) (.t 14))⟩])
  (.cond (.t 15)
    (.seq (.reg [⟨none, (.nl 4 9)⟩,
    ⟨none, (.mv (some 5) (.v (.int .i64 2)))⟩])
  .ret)
    .skip))
  (.seq (.reg [⟨none, (.bs 16 9 none [])⟩,
    ⟨none, (.mv (some 6) (.t 16))⟩])
  (.seq (.reg [⟨none, (.mv (some 17) (.t 0))⟩,
    ⟨none, (.ca (some 18) 29 [(.t 17)])⟩,
    ⟨none, (.mv (some 7) (.t 18))⟩])
  (.seq (.block 0 (.loop ⟨[(1, (.lf (.int .i64))), (6, (.row 16 9 .str)), (7, (.lf (.sl 9 .str)))], [], [19, 20, 21, 22, 23, 24, 25, 26, 27, 28, 29, 30, 31, 32, 33, 34, 35, 36, 37, 38, 39, 40, 41, 42, 43, 44, 45, 46, 47, 48, 49].map .s ++ [31, 44].map .f⟩ (.seq (.seq (.reg [⟨none, (.mv (some 19) (.t 7))⟩,
    ⟨none, (.ln 20 (some 9) (.t 19))⟩,
    ⟨none, (.ar 21 .gtr (.t 20) (.v (.int .i64 1)))⟩])
  (.cond (.t 21)
    .skip
    (.exit 0)))
  (.block 1 (.seq (.seq (.reg [⟨none, (.mv (some 22) (.t 1))⟩,
    ⟨none, (.ar 23 .rem (.t 22) (.v (.int .i64 2)))⟩,
    ⟨none, (.ar 24 .eql (.t 23) (.v (.int .i64 1)))⟩])
  (.cond (.t 24)
    (.reg [⟨none, (.mv (some 25) (.t 6))⟩,
    ⟨none, (.mv (some 26) (.t 7))⟩,
    ⟨none, (.mv (some 27) (.t 1))⟩,
    ⟨none, (.ar 28 .sub (.t 27) (.v (.int .i64 1)))⟩,
    ⟨none, (.ea 29 9 (.t 26) (.t 28))⟩,
    ⟨none, (.ld 30 none (.t 29))⟩,
    ⟨none, (.bs 31 9 none [(.t 30)])⟩,
    ⟨none, (.ap 32 9 (.t 25) (.t 31))⟩,
    ⟨none, (.mv (some 6) (.t 32))⟩])
    (.seq (.reg [⟨none, (.mv (some 33) (.t 1))⟩,
    ⟨none, (.ar 34 .add (.t 33) (.v (.int .i64 1)))⟩,
    ⟨none, (.mv (some 35) (.t 7))⟩,
    ⟨none, (.ln 36 (some 9) (.t 35))⟩,
    ⟨none, (.ar 37 .lss (.t 34) (.t 36))⟩])
  (.cond (.t 37)
    (.reg [⟨none, (.mv (some 38) (.t 6))⟩,
    ⟨none, (.mv (some 39) (.t 7))⟩,
    ⟨none, (.mv (some 40) (.t 1))⟩,
    ⟨none, (.ar 41 .add (.t 40) (.v (.int .i64 1)))⟩,
    ⟨none, (.ea 42 9 (.t 39) (.t 41))⟩,
    ⟨none, (.ld 43 none (.t 42))⟩,
    ⟨none, (.bs 44 9 none [(.t 43)])⟩,
    ⟨none, (.ap 45 9 (.t 38) (.t 44))⟩,
    ⟨none, (.mv (some 6) (.t 45))⟩])
    .skip))))
  (.seq (.reg [⟨none, (.mv (some 46) (.t 7))⟩,
    ⟨none, (.ca (some 47) 30 [(.t 46)])⟩,
    ⟨none, (.mv (some 7) (.t 47))⟩])
  (.reg [⟨none, (.mv (some 48) (.t 1))⟩,
    ⟨none, (.ar 49 .quo (.t 48) (.v (.int .i64 2)))⟩,
    ⟨none, (.mv (some 1) (.t 49))⟩])))))))
  (.seq (.reg [⟨none, (.mv (some 50) (.t 6))⟩,
    ⟨none, (.mv (some 4) (.t 50))⟩,
    ⟨none, (.mv (some 5) (.v (.int .i64 0)))⟩])
  .ret))))))
noncomputable def ent21 : TEnt := ⟨21, [(.sl 9 .str), (.int .i64)], (.tup (.pair (.sl 9 .str) (.int .i64))), fun x => F21 x.1 x.2, .plain⟩
theorem eq21 (x : dens ent21.as) : ent21.F x = evF [ent29, ent30] SHF dc21 [(.tmp 4), (.tmp 5)] ent21.as ent21.rs x := by kernel_rfl
/-- library/libraryref06.Same -/
noncomputable def F22 (a0 : List (List UInt8)) (a1 : List (List UInt8)) : Option (Bool) :=
  cond (!decide ((List.length a0 : Int) = (List.length a1 : Int)))
    (some false)
    (loopK (σ := Int) (fun p1 againp1 =>
      cond (decide (p1 < (List.length a0 : Int)))
        (gd (0 ≤ p1 ∧ p1 < (List.length a0 : Int)) <|
        gd (0 ≤ p1 ∧ p1 < (List.length a1 : Int)) <|
        cond (!decide ((List.getD a0 (Int.toNat p1) []) = (List.getD a1 (Int.toNat p1) [])))
          (some false)
          (bnd (IntKind.wrap .i64 (p1 + (1 : Int))) fun x2 =>
          againp1 x2))
        (some true)) (0 : Int))
def dc22 : DC :=
  (.seq (.reg [⟨none, (.mv (some 4) (.v (.bool false)))⟩])
  (.seq (.seq (.reg [⟨none, (.mv (some 6) (.t 0))⟩,
    ⟨none, (.ln 7 (some 9) (.t 6))⟩,
    ⟨none, (.mv (some 8) (.t 1))⟩,
    ⟨none, (.ln 9 (some 9) (.t 8))⟩,
    ⟨none, (.ar 10 .neq (.t 7) (.t 9))⟩])
  (.cond (.t 10)
    (.seq (.reg [⟨none, (.mv (some 4) (.v (.bool false)))⟩])
  .ret)
    .skip))
  (.seq (.seq (.reg [⟨none, (.mv (some 5) (.v (.int .i64 0)))⟩])
  (.block 0 (.loop ⟨[(5, (.lf (.int .i64)))], [], [4, 11, 12, 13, 14, 15, 16, 17, 18, 19, 20, 21, 22, 23, 24, 25].map .s⟩ (.seq (.seq (.reg [⟨none, (.mv (some 11) (.t 5))⟩,
    ⟨none, (.mv (some 12) (.t 0))⟩,
    ⟨none, (.ln 13 (some 9) (.t 12))⟩,
    ⟨none, (.ar 14 .lss (.t 11) (.t 13))⟩])
  (.cond (.t 14)
    .skip
    (.exit 0)))
  (.seq (.block 1 (.seq (.reg [⟨none, (.mv (some 17) (.t 0))⟩,
    ⟨none, (.mv (some 18) (.t 5))⟩,
    ⟨none, (.ea 19 9 (.t 17) (.t 18))⟩,
    ⟨none, (.ld 20 none (.t 19))⟩,
    ⟨none, (.mv (some 21) (.t 1))⟩,
    ⟨none, (.mv (some 22) (.t 5))⟩,
    ⟨none, (.ea 23 9 (.t 21) (.t 22))⟩,
    ⟨none, (.ld 24 none (.t 23))⟩,
    ⟨none, (.ar 25 .neq (.t 20) (.t 24))⟩])
  (.cond (.t 25)
    (.seq (.reg [⟨none, (.mv (some 4) (.v (.bool false)))⟩])
  .ret)
    .skip)))
  (.reg [⟨none, (.mv (some 15) (.t 5))⟩,
    ⟨none, (.ar 16 .add (.t 15) (.v (.int .i64 1)))⟩,
    ⟨none, (.mv (some 5) (.t 16))⟩]))))))
  (.seq (.reg [⟨none, (.mv (some 4) (.v (.bool true)))⟩])
  .ret))))
noncomputable def ent22 : TEnt := ⟨22, [(.sl 9 .str), (.sl 9 .str)], .bool, fun x => F22 x.1 x.2, .plain⟩
theorem eq22 (x : dens ent22.as) : ent22.F x = evF [] SHF dc22 [(.tmp 4)] ent22.as ent22.rs x := by kernel_rfl
/-- library/digest.Check -/
noncomputable def F23 (a0 : List UInt8) (a1 : List UInt8) (a2 : Int) (a3 : Int) (a4 : List (List UInt8)) : Option (Bool) :=
  cond (decide (a3 < (1 : Int)))
    (some false)
    (cond (decide ((4096 : Int) < a3))
      (some false)
      (cond (decide (a2 < (0 : Int)))
        (some false)
        (cond (decide (a3 ≤ a2))
          (some false)
          (bindO (F25 [([48] : List UInt8), a1]) fun y1 =>
          loopK (σ := Int × Int × List (List UInt8) × List UInt8) (fun p2 againp2 =>
            cond (decide ((1 : Int) < p2.2.1))
              (jn (σ := List (List UInt8) × List UInt8) (fun nextj3 =>
                bnd (xorI .i64 p2.1 (1 : Int)) fun x4 =>
                cond (decide (p2.2.1 ≤ x4))
                  (nextj3 (p2.2.2.1, p2.2.2.2))
                  (cond (decide ((List.length p2.2.2.1 : Int) = (0 : Int)))
                    (some false)
                    (gd ((2 : Int) ≠ 0) <|
                    bnd (Int.tmod p2.1 (2 : Int)) fun x5 =>
                    cond (decide (x5 = (1 : Int)))
                      (gd (0 ≤ (0 : Int) ∧ (0 : Int) < (List.length p2.2.2.1 : Int)) <|
                      bindO (F12 (List.getD p2.2.2.1 (Int.toNat (0 : Int)) []) p2.2.2.2) fun y6 =>
                      gd (0 ≤ (1 : Int) ∧ (1 : Int) ≤ (List.length p2.2.2.1 : Int)) <|
                      bnd (List.drop (Int.toNat (1 : Int)) p2.2.2.1) fun x7 =>
                      nextj3 (x7, y6))
                      (gd (0 ≤ (0 : Int) ∧ (0 : Int) < (List.length p2.2.2.1 : Int)) <|
                      bindO (F12 p2.2.2.2 (List.getD p2.2.2.1 (Int.toNat (0 : Int)) [])) fun y8 =>
                      gd (0 ≤ (1 : Int) ∧ (1 : Int) ≤ (List.length p2.2.2.1 : Int)) <|
                      bnd (List.drop (Int.toNat (1 : Int)) p2.2.2.1) fun x9 =>
                      nextj3 (x9, y8))))) fun j3 =>
              bnd (IntKind.wrap .i64 (p2.2.1 + (1 : Int))) fun x10 =>
              gd ((2 : Int) ≠ 0) <|
              bnd (IntKind.wrap .i64 (Int.tdiv x10 (2 : Int))) fun x11 =>
              gd ((2 : Int) ≠ 0) <|
              bnd (IntKind.wrap .i64 (Int.tdiv p2.1 (2 : Int))) fun x12 =>
              againp2 (x12, x11, j3.1, j3.2))
              (cond (decide ((List.length p2.2.2.1 : Int) = (0 : Int)))
                (some (decide (p2.2.2.2 = a0)))
                (some false))) (a2, a3, a4, y1)))))
def dc23 : DC :=
  (.seq (.reg [⟨none, (.mv (some 10) (.v (.bool false)))⟩])
  (.seq (.seq (.reg [⟨none, (.mv (some 12) (.t 3))⟩,
    ⟨none, (.ar 13 .lss (.t 12) (.v (.int .i64 1)))⟩,
    ⟨none, (.mv (some 14) (.t 13))⟩,
    ⟨(some (14, false)), (.mv (some 15) (.t 3))⟩,
    ⟨(some (14, false)), (.ar 16 .gtr (.t 15) (.v (.int .i64 4096)))⟩,
    ⟨none, (.pick 17 (.t 14) (.v (.bool true)) (.t 16))⟩,
    ⟨none, (.mv (some 18) (.t 17))⟩,
    ⟨(some (18, false)), (.mv (some 19) (.t 2))⟩,
    ⟨(some (18, false)), (.ar 20 .lss (.t 19) (.v (.int .i64 0)))⟩,
    ⟨none, (.pick 21 (.t 18) (.v (.bool true)) (.t 20))⟩,
    ⟨none, (.mv (some 22) (.t 21))⟩,
    ⟨(some (22, false)), (.mv (some 23) (.t 2))⟩,
    ⟨(some (22, false)), (.mv (some 24) (.t 3))⟩,
    ⟨(some (22, false)), (.ar 25 .geq (.t 23) (.t 24))⟩,
    ⟨none, (.pick 26 (.t 22) (.v (.bool true)) (.t 25))⟩])
  (.cond (.t 26)
    (.seq (.reg [⟨none, (.mv (some 10) (.v (.bool false)))⟩])
  .ret)
    .skip))
  (.seq (.reg [⟨none, (.mv (some 27) (.t 1))⟩,
    ⟨none, (.bs 28 9 none [(.v (.str [48])), (.t 27)])⟩,
    ⟨none, (.ca (some 29) 25 [(.t 28)])⟩,
    ⟨none, (.mv (some 11) (.t 29))⟩])
  (.seq (.block 0 (.loop ⟨[(2, (.lf (.int .i64))), (3, (.lf (.int .i64))), (4, (.lf (.sl 9 .str))), (11, (.lf .str))], [], [10, 30, 31, 32, 33, 34, 35, 36, 37, 38, 39, 40, 41, 42, 43, 44, 45, 46, 47, 48, 49, 50, 51, 52, 53, 54, 55, 56, 57, 58].map .s⟩ (.seq (.seq (.reg [⟨none, (.mv (some 30) (.t 3))⟩,
    ⟨none, (.ar 31 .gtr (.t 30) (.v (.int .i64 1)))⟩])
  (.cond (.t 31)
    .skip
    (.exit 0)))
  (.jn ⟨[(4, (.lf (.sl 9 .str))), (11, (.lf .str))], [], [37, 38, 39, 40, 41, 42, 43, 44, 45, 46, 47, 48, 49, 50, 51, 52, 53, 54, 55, 56, 57, 58].map .s⟩ (.block 1 (.seq (.seq (.reg [⟨none, (.mv (some 37) (.t 2))⟩,
    ⟨none, (.ar 38 .xor (.t 37) (.v (.int .i64 1)))⟩,
    ⟨none, (.mv (some 39) (.t 3))⟩,
    ⟨none, (.ar 40 .geq (.t 38) (.t 39))⟩])
  (.cond (.t 40)
    (.exit 1)
    .skip))
  (.seq (.seq (.reg [⟨none, (.mv (some 41) (.t 4))⟩,
    ⟨none, (.ln 42 (some 9) (.t 41))⟩,
    ⟨none, (.ar 43 .eql (.t 42) (.v (.int .i64 0)))⟩])
  (.cond (.t 43)
    (.seq (.reg [⟨none, (.mv (some 10) (.v (.bool false)))⟩])
  .ret)
    .skip))
  (.seq (.seq (.reg [⟨none, (.mv (some 44) (.t 2))⟩,
    ⟨none, (.ar 45 .rem (.t 44) (.v (.int .i64 2)))⟩,
    ⟨none, (.ar 46 .eql (.t 45) (.v (.int .i64 1)))⟩])
  (.cond (.t 46)
    (.reg [⟨none, (.mv (some 47) (.t 4))⟩,
    ⟨none, (.ea 48 9 (.t 47) (.v (.int .i64 0)))⟩,
    ⟨none, (.ld 49 none (.t 48))⟩,
    ⟨none, (.mv (some 50) (.t 11))⟩,
    ⟨none, (.ca (some 51) 12 [(.t 49), (.t 50)])⟩,
    ⟨none, (.mv (some 11) (.t 51))⟩])
    (.reg [⟨none, (.mv (some 52) (.t 11))⟩,
    ⟨none, (.mv (some 53) (.t 4))⟩,
    ⟨none, (.ea 54 9 (.t 53) (.v (.int .i64 0)))⟩,
    ⟨none, (.ld 55 none (.t 54))⟩,
    ⟨none, (.ca (some 56) 12 [(.t 52), (.t 55)])⟩,
    ⟨none, (.mv (some 11) (.t 56))⟩])))
  (.reg [⟨none, (.mv (some 57) (.t 4))⟩,
    ⟨none, (.sc 58 (some 9) (.t 57) (some (.v (.int .i64 1))) none)⟩,
    ⟨none, (.mv (some 4) (.t 58))⟩])))))
  (.reg [⟨none, (.mv (some 32) (.t 3))⟩,
    ⟨none, (.ar 33 .add (.t 32) (.v (.int .i64 1)))⟩,
    ⟨none, (.ar 34 .quo (.t 33) (.v (.int .i64 2)))⟩,
    ⟨none, (.mv (some 35) (.t 2))⟩,
    ⟨none, (.ar 36 .quo (.t 35) (.v (.int .i64 2)))⟩,
    ⟨none, (.mv (some 3) (.t 34))⟩,
    ⟨none, (.mv (some 2) (.t 36))⟩])))))
  (.seq (.reg [⟨none, (.mv (some 59) (.t 4))⟩,
    ⟨none, (.ln 60 (some 9) (.t 59))⟩,
    ⟨none, (.ar 61 .eql (.t 60) (.v (.int .i64 0)))⟩,
    ⟨none, (.mv (some 62) (.t 61))⟩,
    ⟨(some (62, true)), (.mv (some 63) (.t 11))⟩,
    ⟨(some (62, true)), (.mv (some 64) (.t 0))⟩,
    ⟨(some (62, true)), (.ar 65 .eql (.t 63) (.t 64))⟩,
    ⟨none, (.pick 66 (.t 62) (.t 65) (.v (.bool false)))⟩,
    ⟨none, (.mv (some 10) (.t 66))⟩])
  .ret)))))
noncomputable def ent23 : TEnt := ⟨23, [.str, .str, (.int .i64), (.int .i64), (.sl 9 .str)], .bool, fun x => F23 x.1 x.2.1 x.2.2.1 x.2.2.2.1 x.2.2.2.2, .plain⟩
theorem eq23 (x : dens ent23.as) : ent23.F x = evF [ent12, ent25] SHF dc23 [(.tmp 10)] ent23.as ent23.rs x := by kernel_rfl
/-- library/libraryref06.Check -/
noncomputable def F24 (a0 : List UInt8) (a1 : List UInt8) (a2 : Int) (a3 : Int) (a4 : List (List UInt8)) : Option (Bool) :=
  cond (decide (a3 < (1 : Int)))
    (some false)
    (cond (decide ((4096 : Int) < a3))
      (some false)
      (cond (decide (a2 < (0 : Int)))
        (some false)
        (cond (decide (a3 ≤ a2))
          (some false)
          (gd (List.length ([48] : List UInt8) + List.length a1 ≤ big) <|
          bnd (([48] : List UInt8) ++ a1) fun x1 =>
          bindO (F13 x1) fun y2 =>
          loopK (σ := Int × Int × List UInt8 × Int) (fun p3 againp3 =>
            cond (decide ((1 : Int) < p3.2.1))
              (jn (σ := List UInt8 × Int) (fun nextj4 =>
                jn (σ := Bool) (fun nextj5 =>
                  gd ((2 : Int) ≠ 0) <|
                  bnd (Int.tmod p3.1 (2 : Int)) fun x6 =>
                  cond (decide (x6 = (1 : Int)))
                    (nextj5 true)
                    (bnd (IntKind.wrap .i64 (p3.1 + (1 : Int))) fun x7 =>
                    nextj5 (decide (x7 < p3.2.1)))) fun j5 =>
                cond (j5)
                  (cond (decide ((List.length a4 : Int) ≤ p3.2.2.2))
                    (some false)
                    (gd ((2 : Int) ≠ 0) <|
                    bnd (Int.tmod p3.1 (2 : Int)) fun x8 =>
                    cond (decide (x8 = (1 : Int)))
                      (gd (0 ≤ p3.2.2.2 ∧ p3.2.2.2 < (List.length a4 : Int)) <|
                      bindO (F14 (List.getD a4 (Int.toNat p3.2.2.2) []) p3.2.2.1) fun y9 =>
                      bnd (IntKind.wrap .i64 (p3.2.2.2 + (1 : Int))) fun x10 =>
                      nextj4 (y9, x10))
                      (gd (0 ≤ p3.2.2.2 ∧ p3.2.2.2 < (List.length a4 : Int)) <|
                      bindO (F14 p3.2.2.1 (List.getD a4 (Int.toNat p3.2.2.2) [])) fun y11 =>
                      bnd (IntKind.wrap .i64 (p3.2.2.2 + (1 : Int))) fun x12 =>
                      nextj4 (y11, x12))))
                  (nextj4 (p3.2.2.1, p3.2.2.2))) fun j4 =>
              gd ((2 : Int) ≠ 0) <|
              bnd (IntKind.wrap .i64 (Int.tdiv p3.1 (2 : Int))) fun x13 =>
              bnd (IntKind.wrap .i64 (p3.2.1 + (1 : Int))) fun x14 =>
              gd ((2 : Int) ≠ 0) <|
              bnd (IntKind.wrap .i64 (Int.tdiv x14 (2 : Int))) fun x15 =>
              againp3 (x13, x15, j4.1, j4.2))
              (cond (decide (p3.2.2.2 = (List.length a4 : Int)))
                (some (decide (p3.2.2.1 = a0)))
                (some false))) (a2, a3, y2, (0 : Int))))))
def dc24 : DC :=
  (.seq (.reg [⟨none, (.mv (some 10) (.v (.bool false)))⟩])
  (.seq (.seq (.reg [⟨none, (.mv (some 13) (.t 3))⟩,
    ⟨none, (.ar 14 .lss (.t 13) (.v (.int .i64 1)))⟩,
    ⟨none, (.mv (some 15) (.t 14))⟩,
    ⟨(some (15, false)), (.mv (some 16) (.t 3))⟩,
    ⟨(some (15, false)), (.ar 17 .gtr (.t 16) (.v (.int .i64 4096)))⟩,
    ⟨none, (.pick 18 (.t 15) (.v (.bool true)) (.t 17))⟩,
    ⟨none, (.mv (some 19) (.t 18))⟩,
    ⟨(some (19, false)), (.mv (some 20) (.t 2))⟩,
    ⟨(some (19, false)), (.ar 21 .lss (.t 20) (.v (.int .i64 0)))⟩,
    ⟨none, (.pick 22 (.t 19) (.v (.bool true)) (.t 21))⟩,
    ⟨none, (.mv (some 23) (.t 22))⟩,
    ⟨(some (23, false)), (.mv (some 24) (.t 2))⟩,
    ⟨(some (23, false)), (.mv (some 25) (.t 3))⟩,
    ⟨(some (23, false)), (.ar 26 .geq (.t 24) (.t 25))⟩,
    ⟨none, (.pick 27 (.t 23) (.v (.bool true)) (.t 26))⟩])
  (.cond (.t 27)
    (.seq (.reg [⟨none, (.mv (some 10) (.v (.bool false)))⟩])
  .ret)
    .skip))
  (.seq (.reg [⟨none, (.mv (some 28) (.t 1))⟩,
    ⟨none, (.ar 29 .add (.v (.str [48])) (.t 28))⟩,
    ⟨none, (.ca (some 30) 13 [(.t 29)])⟩,
    ⟨none, (.mv (some 11) (.t 30))⟩])
  (.seq (.reg [⟨none, (.mv (some 12) (.v (.int .i64 0)))⟩])
  (.seq (.block 0 (.loop ⟨[(2, (.lf (.int .i64))), (3, (.lf (.int .i64))), (11, (.lf .str)), (12, (.lf (.int .i64)))], [], [10, 31, 32, 33, 34, 35, 36, 37, 38, 39, 40, 41, 42, 43, 44, 45, 46, 47, 48, 49, 50, 51, 52, 53, 54, 55, 56, 57, 58, 59, 60, 61, 62, 63, 64, 65, 66, 67].map .s⟩ (.seq (.seq (.reg [⟨none, (.mv (some 31) (.t 3))⟩,
    ⟨none, (.ar 32 .gtr (.t 31) (.v (.int .i64 1)))⟩])
  (.cond (.t 32)
    .skip
    (.exit 0)))
  (.block 1 (.jn ⟨[(11, (.lf .str)), (12, (.lf (.int .i64)))], [], [33, 34, 35, 36, 37, 38, 39, 40, 41, 42, 43, 44, 45, 46, 47, 48, 49, 50, 51, 52, 53, 54, 55, 56, 57, 58, 59, 60, 61, 62].map .s⟩ (.jn ⟨[(41, (.lf .bool))], [], [33, 34, 35, 36, 37, 38, 39, 40].map .s⟩ (.reg [⟨none, (.mv (some 33) (.t 2))⟩,
    ⟨none, (.ar 34 .rem (.t 33) (.v (.int .i64 2)))⟩,
    ⟨none, (.ar 35 .eql (.t 34) (.v (.int .i64 1)))⟩,
    ⟨none, (.mv (some 36) (.t 35))⟩,
    ⟨(some (36, false)), (.mv (some 37) (.t 2))⟩,
    ⟨(some (36, false)), (.ar 38 .add (.t 37) (.v (.int .i64 1)))⟩,
    ⟨(some (36, false)), (.mv (some 39) (.t 3))⟩,
    ⟨(some (36, false)), (.ar 40 .lss (.t 38) (.t 39))⟩,
    ⟨none, (.pick 41 (.t 36) (.v (.bool true)) (.t 40))⟩])
  (.cond (.t 41)
    (.seq (.seq (.reg [⟨none, (.mv (some 42) (.t 12))⟩,
    ⟨none, (.mv (some 43) (.t 4))⟩,
    ⟨none, (.ln 44 (some 9) (.t 43))⟩,
    ⟨none, (.ar 45 .geq (.t 42) (.t 44))⟩])
  (.cond (.t 45)
    (.seq (.reg [⟨none, (.mv (some 10) (.v (.bool false)))⟩])
  .ret)
    .skip))
  (.seq (.seq (.reg [⟨none, (.mv (some 46) (.t 2))⟩,
    ⟨none, (.ar 47 .rem (.t 46) (.v (.int .i64 2)))⟩,
    ⟨none, (.ar 48 .eql (.t 47) (.v (.int .i64 1)))⟩])
  (.cond (.t 48)
    (.reg [⟨none, (.mv (some 49) (.t 4))⟩,
    ⟨none, (.mv (some 50) (.t 12))⟩,
    ⟨none, (.ea 51 9 (.t 49) (.t 50))⟩,
    ⟨none, (.ld 52 none (.t 51))⟩,
    ⟨none, (.mv (some 53) (.t 11))⟩,
    ⟨none, (.ca (some 54) 14 [(.t 52), (.t 53)])⟩,
    ⟨none, (.mv (some 11) (.t 54))⟩])
    (.reg [⟨none, (.mv (some 55) (.t 11))⟩,
    ⟨none, (.mv (some 56) (.t 4))⟩,
    ⟨none, (.mv (some 57) (.t 12))⟩,
    ⟨none, (.ea 58 9 (.t 56) (.t 57))⟩,
    ⟨none, (.ld 59 none (.t 58))⟩,
    ⟨none, (.ca (some 60) 14 [(.t 55), (.t 59)])⟩,
    ⟨none, (.mv (some 11) (.t 60))⟩])))
  (.reg [⟨none, (.mv (some 61) (.t 12))⟩,
    ⟨none, (.ar 62 .add (.t 61) (.v (.int .i64 1)))⟩,
    ⟨none, (.mv (some 12) (.t 62))⟩])))
    .skip))
  (.seq (.reg [⟨none, (.mv (some 63) (.t 2))⟩,
    ⟨none, (.ar 64 .quo (.t 63) (.v (.int .i64 2)))⟩,
    ⟨none, (.mv (some 2) (.t 64))⟩])
  (.reg [⟨none, (.mv (some 65) (.t 3))⟩,
    ⟨none, (.ar 66 .add (.t 65) (.v (.int .i64 1)))⟩,
    ⟨none, (.ar 67 .quo (.t 66) (.v (.int .i64 2)))⟩,
    ⟨none, (.mv (some 3) (.t 67))⟩])))))))
  (.seq (.reg [⟨none, (.mv (some 68) (.t 12))⟩,
    ⟨none, (.mv (some 69) (.t 4))⟩,
    ⟨none, (.ln 70 (some 9) (.t 69))⟩,
    ⟨none, (.ar 71 .eql (.t 68) (.t 70))⟩,
    ⟨none, (.mv (some 72) (.t 71))⟩,
    ⟨(some (72, true)), (.mv (some 73) (.t 11))⟩,
    ⟨(some (72, true)), (.mv (some 74) (.t 0))⟩,
    ⟨(some (72, true)), (.ar 75 .eql (.t 73) (.t 74))⟩,
    ⟨none, (.pick 76 (.t 72) (.t 75) (.v (.bool false)))⟩,
    ⟨none, (.mv (some 10) (.t 76))⟩])
  .ret))))))
noncomputable def ent24 : TEnt := ⟨24, [.str, .str, (.int .i64), (.int .i64), (.sl 9 .str)], .bool, fun x => F24 x.1 x.2.1 x.2.2.1 x.2.2.2.1 x.2.2.2.2, .plain⟩
theorem eq24 (x : dens ent24.as) : ent24.F x = evF [ent13, ent14] SHF dc24 [(.tmp 10)] ent24.as ent24.rs x := by kernel_rfl
/-- library/librarylaw06.alive -/
noncomputable def F10 : Option (Bool) :=
  bindO (F11 ([48, 120] : List UInt8)) fun y1 =>
  bindO (F11 ([48, 121] : List UInt8)) fun y2 =>
  bindO (F11 ([48, 122] : List UInt8)) fun y3 =>
  bindO (F20 [([120] : List UInt8), ([121] : List UInt8), ([122] : List UInt8)] (2 : Int)) fun y4 =>
  bindO (F20 [([120] : List UInt8), ([121] : List UInt8), ([122] : List UInt8)] (0 : Int)) fun y5 =>
  bindO (F20 [([120] : List UInt8)] (1 : Int)) fun y6 =>
  bindO (F15 ([48, 49, 50, 51, 52, 53, 54, 55, 56, 57, 97, 98, 99, 100, 101, 102] : List UInt8)) fun y7 =>
  cond (y7)
    (bindO (F15 ([48, 49, 50, 51, 52, 53, 54, 55, 56, 57, 65, 66, 67, 68, 69, 70] : List UInt8)) fun y8 =>
    cond (!y8)
      (bindO (F15 ([] : List UInt8)) fun y9 =>
      cond (!y9)
        (bindO (F11 ([] : List UInt8)) fun y10 =>
        bindO (F15 y10) fun y11 =>
        cond (y11)
          (bindO (F18 [([120] : List UInt8)]) fun y12 =>
          cond (decide (y12 = y1))
            (bindO (F18 [([120] : List UInt8), ([121] : List UInt8)]) fun y13 =>
            bindO (F12 y1 y2) fun y14 =>
            cond (decide (y13 = y14))
              (cond (decide (y4.2 = (0 : Int)))
                (bindO (F12 y1 y2) fun y15 =>
                bindO (F22 y4.1 [y15]) fun y16 =>
                cond (y16)
                  (cond (decide (y5.2 = (0 : Int)))
                    (bindO (F22 y5.1 [y2, y3]) fun y17 =>
                    cond (y17)
                      (some (decide (y6.2 = (2 : Int))))
                      (some false))
                    (some false))
                  (some false))
                (some false))
              (some false))
            (some false))
          (some false))
        (some false))
      (some false))
    (some false)
def dc10 : DC :=
  (.seq (.reg [⟨none, (.mv (some 0) (.v (.bool false)))⟩])
  (.seq (.reg [⟨none, (.ca (some 11) 11 [(.v (.str [48, 120]))])⟩,
    ⟨none, (.ca (some 12) 11 [(.v (.str [48, 121]))])⟩,
    ⟨none, (.ca (some 13) 11 [(.v (.str [48, 122]))])⟩,
    ⟨none, (.mv (some 1) (.t 11))⟩,
    ⟨none, (.mv (some 2) (.t 12))⟩,
    ⟨none, (.mv (some 3) (.t 13))⟩])
  (.seq (.reg [⟨none, (.bs 14 9 none [(.v (.str [120])), (.v (.str [121])), (.v (.str [122]))])⟩,
    ⟨none, (.mv (some 4) (.t 14))⟩])
  (.seq (.reg [⟨none, (.mv (some 16) (.t 4))⟩,
    ⟨none, (.ca (some 17) 20 [(.t 16), (.v (.int .i64 2))])⟩,
    ⟨none, (.mv (some 15) (.t 17))⟩,
    ⟨none, (.ex 18 0 (.t 15))⟩,
    ⟨none, (.ex 19 1 (.t 15))⟩,
    ⟨none, (.mv (some 5) (.t 18))⟩,
    ⟨none, (.mv (some 6) (.t 19))⟩])
  (.seq (.reg [⟨none, (.mv (some 21) (.t 4))⟩,
    ⟨none, (.ca (some 22) 20 [(.t 21), (.v (.int .i64 0))])⟩,
    ⟨none, (.mv (some 20) (.t 22))⟩,
    ⟨none, (.ex 23 0 (.t 20))⟩,
    ⟨none, (.ex 24 1 (.t 20))⟩,
    ⟨none, (.mv (some 7) (.t 23))⟩,
    ⟨none, (.mv (some 8) (.t 24))⟩])
  (.seq (.reg [⟨none, (.bs 26 9 none [(.v (.str [120]))])⟩,
    ⟨none, (.ca (some 27) 20 [(.t 26), (.v (.int .i64 1))])⟩,
    ⟨none, (.mv (some 25) (.t 27))⟩,
    ⟨none, (.ex 28 0 (.t 25))⟩,
    ⟨none, (.ex 29 1 (.t 25))⟩,
    ⟨none, (.mv (some 9) (.t 28))⟩,
    ⟨none, (.mv (some 10) (.t 29))⟩])
  (.seq (.reg [⟨none, (.ca (some 30) 15 [(.v (.str [48, 49, 50, 51, 52, 53, 54, 55, 56, 57, 97, 98, 99, 100, 101, 102]))])⟩,
    ⟨none, (.mv (some 31) (.t 30))⟩,
    ⟨(some (31, true)), (.ca (some 32) 15 [(.v (.str [48, 49, 50, 51, 52, 53, 54, 55, 56, 57, 65, 66, 67, 68, 69, 70]))])⟩,
    ⟨(some (31, true)), (.un 33 .not (.t 32))⟩,
    ⟨none, (.pick 34 (.t 31) (.t 33) (.v (.bool false)))⟩,
    ⟨none, (.mv (some 35) (.t 34))⟩,
    ⟨(some (35, true)), (.ca (some 36) 15 [(.v (.str []))])⟩,
    ⟨(some (35, true)), (.un 37 .not (.t 36))⟩,
    ⟨none, (.pick 38 (.t 35) (.t 37) (.v (.bool false)))⟩,
    ⟨none, (.mv (some 39) (.t 38))⟩,
    ⟨(some (39, true)), (.ca (some 40) 11 [(.v (.str []))])⟩,
    ⟨(some (39, true)), (.ca (some 41) 15 [(.t 40)])⟩,
    ⟨none, (.pick 42 (.t 39) (.t 41) (.v (.bool false)))⟩,
    ⟨none, (.mv (some 43) (.t 42))⟩,
    ⟨(some (43, true)), (.bs 44 9 none [(.v (.str [120]))])⟩,
    ⟨(some (43, true)), (.ca (some 45) 18 [(.t 44)])⟩,
    ⟨(some (43, true)), (.mv (some 46) (.t 1))⟩,
    ⟨(some (43, true)), (.ar 47 .eql (.t 45) (.t 46))⟩,
    ⟨none, (.pick 48 (.t 43) (.t 47) (.v (.bool false)))⟩,
    ⟨none, (.mv (some 49) (.t 48))⟩,
    ⟨(some (49, true)), (.bs 50 9 none [(.v (.str [120])), (.v (.str [121]))])⟩,
    ⟨(some (49, true)), (.ca (some 51) 18 [(.t 50)])⟩,
    ⟨(some (49, true)), (.mv (some 52) (.t 1))⟩,
    ⟨(some (49, true)), (.mv (some 53) (.t 2))⟩,
    ⟨(some (49, true)), (.ca (some 54) 12 [(.t 52), (.t 53)])⟩,
    ⟨(some (49, true)), (.ar 55 .eql (.t 51) (.t 54))⟩,
    ⟨none, (.pick 56 (.t 49) (.t 55) (.v (.bool false)))⟩,
    ⟨none, (.mv (some 57) (.t 56))⟩,
    ⟨(some (57, true)), (.mv (some 58) (.t 6))⟩,
    ⟨(some (57, true)), (.ar 59 .eql (.t 58) (.v (.int .i64 0)))⟩,
    ⟨none, (.pick 60 (.t 57) (.t 59) (.v (.bool false)))⟩,
    ⟨none, (.mv (some 61) (.t 60))⟩,
    ⟨(some (61, true)), (.mv (some 62) (.t 5))⟩,
    ⟨(some (61, true)), (.mv (some 63) (.t 1))⟩,
    ⟨(some (61, true)), (.mv (some 64) (.t 2))⟩,
    ⟨(some (61, true)), (.ca (some 65) 12 [(.t 63), (.t 64)])⟩,
    ⟨(some (61, true)), (.bs 66 9 none [(.t 65)])⟩,
    ⟨(some (61, true)), (.ca (some 67) 22 [(.t 62), (.t 66)])⟩,
    ⟨none, (.pick 68 (.t 61) (.t 67) (.v (.bool false)))⟩,
    ⟨none, (.mv (some 69) (.t 68))⟩,
    ⟨(some (69, true)), (.mv (some 70) (.t 8))⟩,
    ⟨(some (69, true)), (.ar 71 .eql (.t 70) (.v (.int .i64 0)))⟩,
    ⟨none, (.pick 72 (.t 69) (.t 71) (.v (.bool false)))⟩,
    ⟨none, (.mv (some 73) (.t 72))⟩,
    ⟨(some (73, true)), (.mv (some 74) (.t 7))⟩,
    ⟨(some (73, true)), (.mv (some 75) (.t 2))⟩,
    ⟨(some (73, true)), (.mv (some 76) (.t 3))⟩,
    ⟨(some (73, true)), (.bs 77 9 none [(.t 75), (.t 76)])⟩,
    ⟨(some (73, true)), (.ca (some 78) 22 [(.t 74), (.t 77)])⟩,
    ⟨none, (.pick 79 (.t 73) (.t 78) (.v (.bool false)))⟩,
    ⟨none, (.mv (some 80) (.t 79))⟩,
    ⟨(some (80, true)), (.mv (some 81) (.t 10))⟩,
    ⟨(some (80, true)), (.ar 82 .eql (.t 81) (.v (.int .i64 2)))⟩,
    ⟨none, (.pick 83 (.t 80) (.t 82) (.v (.bool false)))⟩,
    ⟨none, (.mv (some 0) (.t 83))⟩])
  .ret)))))))
noncomputable def ent10 : TEnt := ⟨10, [], .bool, fun _ => F10, .plain⟩
theorem eq10 (x : dens ent10.as) : ent10.F x = evF [ent11, ent12, ent15, ent18, ent20, ent22] SHF dc10 [(.tmp 0)] ent10.as ent10.rs x := by kernel_rfl
/-- library/librarylaw06.DigestSums -/
noncomputable def F3 (a0 : List UInt8) (a1 : List UInt8) : Option (Bool) :=
  bindO (F10) fun y1 =>
  cond (!y1)
    (some false)
    (cond (decide ((2000 : Int) < (List.length a0 : Int)))
      (some true)
      (cond (decide ((2000 : Int) < (List.length a1 : Int)))
        (some true)
        (bindO (F11 a0) fun y2 =>
        bindO (F12 a0 a1) fun y3 =>
        bindO (F13 a0) fun y4 =>
        cond (decide (y2 = y4))
          (bindO (F14 a0 a1) fun y5 =>
          cond (decide (y3 = y5))
            (bindO (F15 y2) fun y6 =>
            cond (y6)
              (bindO (F15 y3) fun y7 =>
              some y7)
              (some false))
            (some false))
          (some false))))
def dc3 : DC :=
  (.seq (.reg [⟨none, (.mv (some 4) (.v (.bool false)))⟩])
  (.seq (.seq (.reg [⟨none, (.ca (some 7) 10 [])⟩,
    ⟨none, (.un 8 .not (.t 7))⟩])
  (.cond (.t 8)
    (.seq (.reg [⟨none, (.mv (some 4) (.v (.bool false)))⟩])
  .ret)
    .skip))
  (.seq (.seq (.reg [⟨none, (.mv (some 9) (.t 0))⟩,
    ⟨none, (.ln 10 none (.t 9))⟩,
    ⟨none, (.ar 11 .gtr (.t 10) (.v (.int .i64 2000)))⟩,
    ⟨none, (.mv (some 12) (.t 11))⟩,
    ⟨(some (12, false)), (.mv (some 13) (.t 1))⟩,
    ⟨(some (12, false)), (.ln 14 none (.t 13))⟩,
    ⟨(some (12, false)), (.ar 15 .gtr (.t 14) (.v (.int .i64 2000)))⟩,
    ⟨none, (.pick 16 (.t 12) (.v (.bool true)) (.t 15))⟩])
  (.cond (.t 16)
    (.seq (.reg [⟨none, (.mv (some 4) (.v (.bool true)))⟩])
  .ret)
    .skip))
  (.seq (.reg [⟨none, (.mv (some 17) (.t 0))⟩,
    ⟨none, (.ca (some 18) 11 [(.t 17)])⟩,
    ⟨none, (.mv (some 19) (.t 0))⟩,
    ⟨none, (.mv (some 20) (.t 1))⟩,
    ⟨none, (.ca (some 21) 12 [(.t 19), (.t 20)])⟩,
    ⟨none, (.mv (some 5) (.t 18))⟩,
    ⟨none, (.mv (some 6) (.t 21))⟩])
  (.seq (.reg [⟨none, (.mv (some 22) (.t 5))⟩,
    ⟨none, (.mv (some 23) (.t 0))⟩,
    ⟨none, (.ca (some 24) 13 [(.t 23)])⟩,
    ⟨none, (.ar 25 .eql (.t 22) (.t 24))⟩,
    ⟨none, (.mv (some 26) (.t 25))⟩,
    ⟨(some (26, true)), (.mv (some 27) (.t 6))⟩,
    ⟨(some (26, true)), (.mv (some 28) (.t 0))⟩,
    ⟨(some (26, true)), (.mv (some 29) (.t 1))⟩,
    ⟨(some (26, true)), (.ca (some 30) 14 [(.t 28), (.t 29)])⟩,
    ⟨(some (26, true)), (.ar 31 .eql (.t 27) (.t 30))⟩,
    ⟨none, (.pick 32 (.t 26) (.t 31) (.v (.bool false)))⟩,
    ⟨none, (.mv (some 33) (.t 32))⟩,
    ⟨(some (33, true)), (.mv (some 34) (.t 5))⟩,
    ⟨(some (33, true)), (.ca (some 35) 15 [(.t 34)])⟩,
    ⟨none, (.pick 36 (.t 33) (.t 35) (.v (.bool false)))⟩,
    ⟨none, (.mv (some 37) (.t 36))⟩,
    ⟨(some (37, true)), (.mv (some 38) (.t 6))⟩,
    ⟨(some (37, true)), (.ca (some 39) 15 [(.t 38)])⟩,
    ⟨none, (.pick 40 (.t 37) (.t 39) (.v (.bool false)))⟩,
    ⟨none, (.mv (some 4) (.t 40))⟩])
  .ret)))))
noncomputable def ent3 : TEnt := ⟨3, [.str, .str], .bool, fun x => F3 x.1 x.2, .plain⟩
theorem eq3 (x : dens ent3.as) : ent3.F x = evF [ent10, ent11, ent12, ent13, ent14, ent15] SHF dc3 [(.tmp 4)] ent3.as ent3.rs x := by kernel_rfl
/-- library/librarylaw06.DigestRight -/
noncomputable def F4 (a0 : List UInt8) : Option (Bool) :=
  bindO (F10) fun y1 =>
  cond (y1)
    (bindO (F15 a0) fun y2 =>
    bindO (F16 a0) fun y3 =>
    some (y2 == y3))
    (some false)
def dc4 : DC :=
  (.seq (.reg [⟨none, (.mv (some 2) (.v (.bool false)))⟩])
  (.seq (.reg [⟨none, (.ca (some 3) 10 [])⟩,
    ⟨none, (.mv (some 4) (.t 3))⟩,
    ⟨(some (4, true)), (.mv (some 5) (.t 0))⟩,
    ⟨(some (4, true)), (.ca (some 6) 15 [(.t 5)])⟩,
    ⟨(some (4, true)), (.mv (some 7) (.t 0))⟩,
    ⟨(some (4, true)), (.ca (some 8) 16 [(.t 7)])⟩,
    ⟨(some (4, true)), (.eb 9 false (.t 6) (.t 8))⟩,
    ⟨none, (.pick 10 (.t 4) (.t 9) (.v (.bool false)))⟩,
    ⟨none, (.mv (some 2) (.t 10))⟩])
  .ret))
noncomputable def ent4 : TEnt := ⟨4, [.str], .bool, fun x => F4 x, .plain⟩
theorem eq4 (x : dens ent4.as) : ent4.F x = evF [ent10, ent15, ent16] SHF dc4 [(.tmp 2)] ent4.as ent4.rs x := by kernel_rfl
/-- library/librarylaw06.DigestRoots -/
noncomputable def F5 (a0 : List (List UInt8)) : Option (Bool) :=
  bindO (F10) fun y1 =>
  cond (!y1)
    (some false)
    (bindO (F17 a0) fun y2 =>
    cond (!y2)
      (some true)
      (bindO (F18 a0) fun y3 =>
      bindO (F19 a0) fun y4 =>
      some (decide (y3 = y4))))
def dc5 : DC :=
  (.seq (.reg [⟨none, (.mv (some 2) (.v (.bool false)))⟩])
  (.seq (.seq (.reg [⟨none, (.ca (some 3) 10 [])⟩,
    ⟨none, (.un 4 .not (.t 3))⟩])
  (.cond (.t 4)
    (.seq (.reg [⟨none, (.mv (some 2) (.v (.bool false)))⟩])
  .ret)
    .skip))
  (.seq (.reg [⟨none, (.mv (some 5) (.t 0))⟩,
    ⟨none, (.ca (some 6) 17 [(.t 5)])⟩,
    ⟨none, (.un 7 .not (.t 6))⟩,
    ⟨none, (.mv (some 8) (.t 7))⟩,
    ⟨(some (8, false)), (.mv (some 9) (.t 0))⟩,
    ⟨(some (8, false)), (.ca (some 10) 18 [(.t 9)])⟩,
    ⟨(some (8, false)), (.mv (some 11) (.t 0))⟩,
    ⟨(some (8, false)), (.ca (some 12) 19 [(.t 11)])⟩,
    ⟨(some (8, false)), (.ar 13 .eql (.t 10) (.t 12))⟩,
    ⟨none, (.pick 14 (.t 8) (.v (.bool true)) (.t 13))⟩,
    ⟨none, (.mv (some 2) (.t 14))⟩])
  .ret)))
noncomputable def ent5 : TEnt := ⟨5, [(.sl 9 .str)], .bool, fun x => F5 x, .plain⟩
theorem eq5 (x : dens ent5.as) : ent5.F x = evF [ent10, ent17, ent18, ent19] SHF dc5 [(.tmp 2)] ent5.as ent5.rs x := by kernel_rfl
/-- library/librarylaw06.DigestProofs -/
noncomputable def F6 (a0 : List (List UInt8)) (a1 : Int) : Option (Bool) :=
  bindO (F10) fun y1 =>
  cond (!y1)
    (some false)
    (bindO (F17 a0) fun y2 =>
    cond (!y2)
      (some true)
      (bindO (F20 a0 a1) fun y3 =>
      bindO (F21 a0 a1) fun y4 =>
      cond (decide (y3.2 = y4.2))
        (bindO (F22 y3.1 y4.1) fun y5 =>
        some y5)
        (some false)))
def dc6 : DC :=
  (.seq (.reg [⟨none, (.mv (some 4) (.v (.bool false)))⟩])
  (.seq (.seq (.reg [⟨none, (.ca (some 9) 10 [])⟩,
    ⟨none, (.un 10 .not (.t 9))⟩])
  (.cond (.t 10)
    (.seq (.reg [⟨none, (.mv (some 4) (.v (.bool false)))⟩])
  .ret)
    .skip))
  (.seq (.seq (.reg [⟨none, (.mv (some 11) (.t 0))⟩,
    ⟨none, (.ca (some 12) 17 [(.t 11)])⟩,
    ⟨none, (.un 13 .not (.t 12))⟩])
  (.cond (.t 13)
    (.seq (.reg [⟨none, (.mv (some 4) (.v (.bool true)))⟩])
  .ret)
    .skip))
  (.seq (.reg [⟨none, (.mv (some 15) (.t 0))⟩,
    ⟨none, (.mv (some 16) (.t 1))⟩,
    ⟨none, (.ca (some 17) 20 [(.t 15), (.t 16)])⟩,
    ⟨none, (.mv (some 14) (.t 17))⟩,
    ⟨none, (.ex 18 0 (.t 14))⟩,
    ⟨none, (.ex 19 1 (.t 14))⟩,
    ⟨none, (.mv (some 5) (.t 18))⟩,
    ⟨none, (.mv (some 6) (.t 19))⟩])
  (.seq (.reg [⟨none, (.mv (some 21) (.t 0))⟩,
    ⟨none, (.mv (some 22) (.t 1))⟩,
    ⟨none, (.ca (some 23) 21 [(.t 21), (.t 22)])⟩,
    ⟨none, (.mv (some 20) (.t 23))⟩,
    ⟨none, (.ex 24 0 (.t 20))⟩,
    ⟨none, (.ex 25 1 (.t 20))⟩,
    ⟨none, (.mv (some 7) (.t 24))⟩,
    ⟨none, (.mv (some 8) (.t 25))⟩])
  (.seq (.reg [⟨none, (.mv (some 26) (.t 6))⟩,
    ⟨none, (.mv (some 27) (.t 8))⟩,
    ⟨none, (.ar 28 .eql (.t 26) (.t 27))⟩,
    ⟨none, (.mv (some 29) (.t 28))⟩,
    ⟨(some (29, true)), (.mv (some 30) (.t 5))⟩,
    ⟨(some (29, true)), (.mv (some 31) (.t 7))⟩,
    ⟨(some (29, true)), (.ca (some 32) 22 [(.t 30), (.t 31)])⟩,
    ⟨none, (.pick 33 (.t 29) (.t 32) (.v (.bool false)))⟩,
    ⟨none, (.mv (some 4) (.t 33))⟩])
  .ret))))))
noncomputable def ent6 : TEnt := ⟨6, [(.sl 9 .str), (.int .i64)], .bool, fun x => F6 x.1 x.2, .plain⟩
theorem eq6 (x : dens ent6.as) : ent6.F x = evF [ent10, ent17, ent20, ent21, ent22] SHF dc6 [(.tmp 4)] ent6.as ent6.rs x := by kernel_rfl
/-- library/librarylaw06.DigestChecks -/
noncomputable def F7 (a0 : List UInt8 × List UInt8 × Int × Int × List (List UInt8)) : Option (Bool) :=
  bindO (F10) fun y1 =>
  cond (!y1)
    (some false)
    (bindO (F17 a0.2.2.2.2) fun y2 =>
    cond (!y2)
      (some true)
      (cond (decide ((1000 : Int) < (List.length a0.2.1 : Int)))
        (some true)
        (bindO (F23 a0.1 a0.2.1 a0.2.2.1 a0.2.2.2.1 a0.2.2.2.2) fun y3 =>
        bindO (F24 a0.1 a0.2.1 a0.2.2.1 a0.2.2.2.1 a0.2.2.2.2) fun y4 =>
        some (y3 == y4))))
def dc7 : DC :=
  (.seq (.reg [⟨none, (.bx 1 (some 36) (.t 0))⟩,
    ⟨none, (.mv (some 2) (.v (.bool false)))⟩])
  (.seq (.seq (.reg [⟨none, (.ca (some 3) 10 [])⟩,
    ⟨none, (.un 4 .not (.t 3))⟩])
  (.cond (.t 4)
    (.seq (.reg [⟨none, (.mv (some 2) (.v (.bool false)))⟩])
  .ret)
    .skip))
  (.seq (.seq (.reg [⟨none, (.fa 5 36 4 (.t 1))⟩,
    ⟨none, (.ld 6 none (.t 5))⟩,
    ⟨none, (.ca (some 7) 17 [(.t 6)])⟩,
    ⟨none, (.un 8 .not (.t 7))⟩,
    ⟨none, (.mv (some 9) (.t 8))⟩,
    ⟨(some (9, false)), (.fa 10 36 1 (.t 1))⟩,
    ⟨(some (9, false)), (.ld 11 none (.t 10))⟩,
    ⟨(some (9, false)), (.ln 12 none (.t 11))⟩,
    ⟨(some (9, false)), (.ar 13 .gtr (.t 12) (.v (.int .i64 1000)))⟩,
    ⟨none, (.pick 14 (.t 9) (.v (.bool true)) (.t 13))⟩])
  (.cond (.t 14)
    (.seq (.reg [⟨none, (.mv (some 2) (.v (.bool true)))⟩])
  .ret)
    .skip))
  (.seq (.reg [⟨none, (.fa 15 36 0 (.t 1))⟩,
    ⟨none, (.ld 16 none (.t 15))⟩,
    ⟨none, (.fa 17 36 1 (.t 1))⟩,
    ⟨none, (.ld 18 none (.t 17))⟩,
    ⟨none, (.fa 19 36 2 (.t 1))⟩,
    ⟨none, (.ld 20 none (.t 19))⟩,
    ⟨none, (.fa 21 36 3 (.t 1))⟩,
    ⟨none, (.ld 22 none (.t 21))⟩,
    ⟨none, (.fa 23 36 4 (.t 1))⟩,
    ⟨none, (.ld 24 none (.t 23))⟩,
    ⟨none, (.ca (some 25) 23 [(.t 16), (.t 18), (.t 20), (.t 22), (.t 24)])⟩,
    ⟨none, (.fa 26 36 0 (.t 1))⟩,
    ⟨none, (.ld 27 none (.t 26))⟩,
    ⟨none, (.fa 28 36 1 (.t 1))⟩,
    ⟨none, (.ld 29 none (.t 28))⟩,
    ⟨none, (.fa 30 36 2 (.t 1))⟩,
    ⟨none, (.ld 31 none (.t 30))⟩,
    ⟨none, (.fa 32 36 3 (.t 1))⟩,
    ⟨none, (.ld 33 none (.t 32))⟩,
    ⟨none, (.fa 34 36 4 (.t 1))⟩,
    ⟨none, (.ld 35 none (.t 34))⟩,
    ⟨none, (.ca (some 36) 24 [(.t 27), (.t 29), (.t 31), (.t 33), (.t 35)])⟩,
    ⟨none, (.eb 37 false (.t 25) (.t 36))⟩,
    ⟨none, (.mv (some 2) (.t 37))⟩])
  .ret))))
noncomputable def ent7 : TEnt := ⟨7, [(.agg 36 (.pair .str (.pair .str (.pair (.int .i64) (.pair (.int .i64) (.sl 9 .str))))))], .bool, fun x => F7 x, .plain⟩
theorem eq7 (x : dens ent7.as) : ent7.F x = evF [ent10, ent17, ent23, ent24] SHF dc7 [(.tmp 2)] ent7.as ent7.rs x := by kernel_rfl
/-- library/librarylaw06.DigestProves -/
noncomputable def F8 (a0 : List (List UInt8)) (a1 : Int) (a2 : List UInt8) : Option (Bool) :=
  bindO (F10) fun y1 =>
  cond (!y1)
    (some false)
    (bindO (F17 a0) fun y2 =>
    cond (!y2)
      (some true)
      (cond (decide ((1000 : Int) < (List.length a2 : Int)))
        (some true)
        (cond (decide (a1 < (0 : Int)))
          (some true)
          (cond (decide ((List.length a0 : Int) ≤ a1))
            (some true)
            (bindO (F18 a0) fun y3 =>
            bindO (F20 a0 a1) fun y4 =>
            gd (0 < List.length a0) <|
            gd (List.length a0 ≤ big) <|
            gd (0 ≤ a1 ∧ a1 < (List.length a0 : Int)) <|
            gd ((Int.toNat a1) < List.length a0) <|
            cond (decide (y4.2 = (0 : Int)))
              (gd (0 ≤ a1 ∧ a1 < (List.length a0 : Int)) <|
              bindO (F23 y3 (List.getD a0 (Int.toNat a1) []) a1 (List.length a0 : Int) y4.1) fun y5 =>
              cond (y5)
                (bindO (F23 y3 a2 a1 (List.length a0 : Int) y4.1) fun y6 =>
                bindO (F18 (List.set a0 (Int.toNat a1) a2)) fun y7 =>
                some (y6 == (decide (y7 = y3))))
                (some false))
              (some false))))))
def dc8 : DC :=
  (.seq (.reg [⟨none, (.mv (some 6) (.v (.bool false)))⟩])
  (.seq (.seq (.reg [⟨none, (.ca (some 11) 10 [])⟩,
    ⟨none, (.un 12 .not (.t 11))⟩])
  (.cond (.t 12)
    (.seq (.reg [⟨none, (.mv (some 6) (.v (.bool false)))⟩])
  .ret)
    .skip))
  (.seq (.seq (.reg [⟨none, (.mv (some 13) (.t 0))⟩,
    ⟨none, (.ca (some 14) 17 [(.t 13)])⟩,
    ⟨none, (.un 15 .not (.t 14))⟩,
    ⟨none, (.mv (some 16) (.t 15))⟩,
    ⟨(some (16, false)), (.mv (some 17) (.t 2))⟩,
    ⟨(some (16, false)), (.ln 18 none (.t 17))⟩,
    ⟨(some (16, false)), (.ar 19 .gtr (.t 18) (.v (.int .i64 1000)))⟩,
    ⟨none, (.pick 20 (.t 16) (.v (.bool true)) (.t 19))⟩,
    ⟨none, (.mv (some 21) (.t 20))⟩,
    ⟨(some (21, false)), (.mv (some 22) (.t 1))⟩,
    ⟨(some (21, false)), (.ar 23 .lss (.t 22) (.v (.int .i64 0)))⟩,
    ⟨none, (.pick 24 (.t 21) (.v (.bool true)) (.t 23))⟩,
    ⟨none, (.mv (some 25) (.t 24))⟩,
    ⟨(some (25, false)), (.mv (some 26) (.t 1))⟩,
    ⟨(some (25, false)), (.mv (some 27) (.t 0))⟩,
    ⟨(some (25, false)), (.ln 28 (some 9) (.t 27))⟩,
    ⟨(some (25, false)), (.ar 29 .geq (.t 26) (.t 28))⟩,
    ⟨none, (.pick 30 (.t 25) (.v (.bool true)) (.t 29))⟩])
  (.cond (.t 30)
    (.seq (.reg [⟨none, (.mv (some 6) (.v (.bool true)))⟩])
  .ret)
    .skip))
  (.seq (.reg [⟨none, (.mv (some 31) (.t 0))⟩,
    ⟨none, (.ca (some 32) 18 [(.t 31)])⟩,
    ⟨none, (.mv (some 7) (.t 32))⟩])
  (.seq (.reg [⟨none, (.mv (some 34) (.t 0))⟩,
    ⟨none, (.mv (some 35) (.t 1))⟩,
    ⟨none, (.ca (some 36) 20 [(.t 34), (.t 35)])⟩,
    ⟨none, (.mv (some 33) (.t 36))⟩,
    ⟨none, (.ex 37 0 (.t 33))⟩,
    ⟨none, (.ex 38 1 (.t 33))⟩,
    ⟨none, (.mv (some 8) (.t 37))⟩,
    ⟨none, (.mv (some 9) (.t 38))⟩])
  (.seq (.reg [⟨none, (.zs 39 9)⟩,
    ⟨none, (.mv (some 40) (.t 0))⟩,
    ⟨none, (.cx 41 9 (.t 39) (.t 40))⟩,
    ⟨none, (.mv (some 10) (.t 41))⟩])
  (.seq (.reg [⟨none, (.mv (some 42) (.t 10))⟩,
    ⟨none, (.mv (some 43) (.t 1))⟩,
    ⟨none, (.mv (some 44) (.t 2))⟩,
    ⟨none, (.ea 45 9 (.t 42) (.t 43))⟩,
    ⟨none, (.st none (.t 45) (.t 44))⟩])
  (.seq (.seq (.gh 41 [])
  (.reg [⟨none, (.mv (some 46) (.t 9))⟩,
    ⟨none, (.ar 47 .eql (.t 46) (.v (.int .i64 0)))⟩,
    ⟨none, (.mv (some 48) (.t 47))⟩,
    ⟨(some (48, true)), (.mv (some 49) (.t 7))⟩,
    ⟨(some (48, true)), (.mv (some 50) (.t 0))⟩,
    ⟨(some (48, true)), (.mv (some 51) (.t 1))⟩,
    ⟨(some (48, true)), (.ea 52 9 (.t 50) (.t 51))⟩,
    ⟨(some (48, true)), (.ld 53 none (.t 52))⟩,
    ⟨(some (48, true)), (.mv (some 54) (.t 1))⟩,
    ⟨(some (48, true)), (.mv (some 55) (.t 0))⟩,
    ⟨(some (48, true)), (.ln 56 (some 9) (.t 55))⟩,
    ⟨(some (48, true)), (.mv (some 57) (.t 8))⟩,
    ⟨(some (48, true)), (.ca (some 58) 23 [(.t 49), (.t 53), (.t 54), (.t 56), (.t 57)])⟩,
    ⟨none, (.pick 59 (.t 48) (.t 58) (.v (.bool false)))⟩,
    ⟨none, (.mv (some 60) (.t 59))⟩,
    ⟨(some (60, true)), (.mv (some 61) (.t 7))⟩,
    ⟨(some (60, true)), (.mv (some 62) (.t 2))⟩,
    ⟨(some (60, true)), (.mv (some 63) (.t 1))⟩,
    ⟨(some (60, true)), (.mv (some 64) (.t 0))⟩,
    ⟨(some (60, true)), (.ln 65 (some 9) (.t 64))⟩,
    ⟨(some (60, true)), (.mv (some 66) (.t 8))⟩,
    ⟨(some (60, true)), (.ca (some 67) 23 [(.t 61), (.t 62), (.t 63), (.t 65), (.t 66)])⟩,
    ⟨(some (60, true)), (.mv (some 68) (.t 10))⟩,
    ⟨(some (60, true)), (.ca (some 69) 18 [(.t 68)])⟩,
    ⟨(some (60, true)), (.mv (some 70) (.t 7))⟩,
    ⟨(some (60, true)), (.ar 71 .eql (.t 69) (.t 70))⟩,
    ⟨(some (60, true)), (.eb 72 false (.t 67) (.t 71))⟩,
    ⟨none, (.pick 73 (.t 60) (.t 72) (.v (.bool false)))⟩,
    ⟨none, (.mv (some 6) (.t 73))⟩]))
  .ret))))))))
noncomputable def ent8 : TEnt := ⟨8, [(.sl 9 .str), (.int .i64), .str], .bool, fun x => F8 x.1 x.2.1 x.2.2, .plain⟩
theorem eq8 (x : dens ent8.as) : ent8.F x = evF [ent10, ent17, ent18, ent20, ent23] SHF dc8 [(.tmp 6)] ent8.as ent8.rs x := by kernel_rfl
/-- library/librarylaw06.DigestLength -/
noncomputable def F9 (a0 : List (List UInt8)) (a1 : Int) (a2 : List UInt8) : Option (Bool) :=
  bindO (F10) fun y1 =>
  cond (!y1)
    (some false)
    (bindO (F17 a0) fun y2 =>
    cond (!y2)
      (some true)
      (cond (decide ((1000 : Int) < (List.length a2 : Int)))
        (some true)
        (cond (decide (a1 < (0 : Int)))
          (some true)
          (cond (decide ((List.length a0 : Int) ≤ a1))
            (some true)
            (bindO (F18 a0) fun y3 =>
            bindO (F20 a0 a1) fun y4 =>
            gdN (List.length ([] : List (List UInt8))) (List.length ([] : List (List UInt8))) <|
            gd (List.length ([] : List (List UInt8)) + List.length y4.1 ≤ big) <|
            bnd (([] : List (List UInt8)) ++ y4.1) fun l5 =>
            gdN (List.length l5) (List.length l5) <|
            gd (List.length l5 + List.length [a2] ≤ big) <|
            bnd (l5 ++ [a2]) fun l6 =>
            gd (0 ≤ a1 ∧ a1 < (List.length a0 : Int)) <|
            bindO (F23 y3 (List.getD a0 (Int.toNat a1) []) a1 (List.length a0 : Int) l6) fun y7 =>
            cond (y7)
              (some false)
              (gd (0 ≤ a1 ∧ a1 < (List.length a0 : Int)) <|
              bindO (F23 y3 (List.getD a0 (Int.toNat a1) []) (List.length a0 : Int) (List.length a0 : Int) y4.1) fun y8 =>
              cond (y8)
                (some false)
                (gd (0 ≤ a1 ∧ a1 < (List.length a0 : Int)) <|
                bindO (F23 y3 (List.getD a0 (Int.toNat a1) []) (-1 : Int) (List.length a0 : Int) y4.1) fun y9 =>
                cond (y9)
                  (some false)
                  (cond (decide ((List.length y4.1 : Int) = (0 : Int)))
                    (some true)
                    (gd (0 ≤ a1 ∧ a1 < (List.length a0 : Int)) <|
                    bnd (IntKind.wrap .i64 ((List.length y4.1 : Int) - (1 : Int))) fun x10 =>
                    gd (0 ≤ x10 ∧ x10 ≤ (List.length y4.1 : Int)) <|
                    bnd (List.take (Int.toNat x10) y4.1) fun x11 =>
                    bindO (F23 y3 (List.getD a0 (Int.toNat a1) []) a1 (List.length a0 : Int) x11) fun y12 =>
                    some (!y12))))))))))
def dc9 : DC :=
  (.seq (.reg [⟨none, (.mv (some 6) (.v (.bool false)))⟩])
  (.seq (.seq (.reg [⟨none, (.ca (some 11) 10 [])⟩,
    ⟨none, (.un 12 .not (.t 11))⟩])
  (.cond (.t 12)
    (.seq (.reg [⟨none, (.mv (some 6) (.v (.bool false)))⟩])
  .ret)
    .skip))
  (.seq (.seq (.reg [⟨none, (.mv (some 13) (.t 0))⟩,
    ⟨none, (.ca (some 14) 17 [(.t 13)])⟩,
    ⟨none, (.un 15 .not (.t 14))⟩,
    ⟨none, (.mv (some 16) (.t 15))⟩,
    ⟨(some (16, false)), (.mv (some 17) (.t 2))⟩,
    ⟨(some (16, false)), (.ln 18 none (.t 17))⟩,
    ⟨(some (16, false)), (.ar 19 .gtr (.t 18) (.v (.int .i64 1000)))⟩,
    ⟨none, (.pick 20 (.t 16) (.v (.bool true)) (.t 19))⟩,
    ⟨none, (.mv (some 21) (.t 20))⟩,
    ⟨(some (21, false)), (.mv (some 22) (.t 1))⟩,
    ⟨(some (21, false)), (.ar 23 .lss (.t 22) (.v (.int .i64 0)))⟩,
    ⟨none, (.pick 24 (.t 21) (.v (.bool true)) (.t 23))⟩,
    ⟨none, (.mv (some 25) (.t 24))⟩,
    ⟨(some (25, false)), (.mv (some 26) (.t 1))⟩,
    ⟨(some (25, false)), (.mv (some 27) (.t 0))⟩,
    ⟨(some (25, false)), (.ln 28 (some 9) (.t 27))⟩,
    ⟨(some (25, false)), (.ar 29 .geq (.t 26) (.t 28))⟩,
    ⟨none, (.pick 30 (.t 25) (.v (.bool true)) (.t 29))⟩])
  (.cond (.t 30)
    (.seq (.reg [⟨none, (.mv (some 6) (.v (.bool true)))⟩])
  .ret)
    .skip))
  (.seq (.reg [⟨none, (.mv (some 31) (.t 0))⟩,
    ⟨none, (.ca (some 32) 18 [(.t 31)])⟩,
    ⟨none, (.mv (some 7) (.t 32))⟩])
  (.seq (.reg [⟨none, (.mv (some 34) (.t 0))⟩,
    ⟨none, (.mv (some 35) (.t 1))⟩,
    ⟨none, (.ca (some 36) 20 [(.t 34), (.t 35)])⟩,
    ⟨none, (.mv (some 33) (.t 36))⟩,
    ⟨none, (.ex 37 0 (.t 33))⟩,
    ⟨none, (.ex 38 1 (.t 33))⟩,
    ⟨none, (.mv (some 8) (.t 37))⟩,
    ⟨none, (.mv (some 9) (.t 38))⟩])
  (.seq (.reg [⟨none, (.bs 39 9 none [])⟩,
    ⟨none, (.mv (some 40) (.t 8))⟩,
    ⟨none, (.ap 41 9 (.t 39) (.t 40))⟩,
    ⟨none, (.mv (some 42) (.t 2))⟩,
    ⟨none, (.bs 43 9 none [(.t 42)])⟩,
    ⟨none, (.ap 44 9 (.t 41) (.t 43))⟩,
    ⟨none, (.mv (some 10) (.t 44))⟩])
  (.seq (.seq (.reg [⟨none, (.mv (some 45) (.t 7))⟩,
    ⟨none, (.mv (some 46) (.t 0))⟩,
    ⟨none, (.mv (some 47) (.t 1))⟩,
    ⟨none, (.ea 48 9 (.t 46) (.t 47))⟩,
    ⟨none, (.ld 49 none (.t 48))⟩,
    ⟨none, (.mv (some 50) (.t 1))⟩,
    ⟨none, (.mv (some 51) (.t 0))⟩,
    ⟨none, (.ln 52 (some 9) (.t 51))⟩,
    ⟨none, (.mv (some 53) (.t 10))⟩,
    ⟨none, (.ca (some 54) 23 [(.t 45), (.t 49), (.t 50), (.t 52), (.t 53)])⟩,
    ⟨none, (.mv (some 55) (.t 54))⟩,
    ⟨(some (55, false)), (.mv (some 56) (.t 7))⟩,
    ⟨(some (55, false)), (.mv (some 57) (.t 0))⟩,
    ⟨(some (55, false)), (.mv (some 58) (.t 1))⟩,
    ⟨(some (55, false)), (.ea 59 9 (.t 57) (.t 58))⟩,
    ⟨(some (55, false)), (.ld 60 none (.t 59))⟩,
    ⟨(some (55, false)), (.mv (some 61) (.t 0))⟩,
    ⟨(some (55, false)), (.ln 62 (some 9) (.t 61))⟩,
    ⟨(some (55, false)), (.mv (some 63) (.t 0))⟩,
    ⟨(some (55, false)), (.ln 64 (some 9) (.t 63))⟩,
    ⟨(some (55, false)), (.mv (some 65) (.t 8))⟩,
    ⟨(some (55, false)), (.ca (some 66) 23 [(.t 56), (.t 60), (.t 62), (.t 64), (.t 65)])⟩,
    ⟨none, (.pick 67 (.t 55) (.v (.bool true)) (.t 66))⟩,
    ⟨none, (.mv (some 68) (.t 67))⟩,
    ⟨(some (68, false)), (.mv (some 69) (.t 7))⟩,
    ⟨(some (68, false)), (.mv (some 70) (.t 0))⟩,
    ⟨(some (68, false)), (.mv (some 71) (.t 1))⟩,
    ⟨(some (68, false)), (.ea 72 9 (.t 70) (.t 71))⟩,
    ⟨(some (68, false)), (.ld 73 none (.t 72))⟩,
    ⟨(some (68, false)), (.mv (some 74) (.t 0))⟩,
    ⟨(some (68, false)), (.ln 75 (some 9) (.t 74))⟩,
    ⟨(some (68, false)), (.mv (some 76) (.t 8))⟩,
    ⟨(some (68, false)), (.ca (some 77) 23 [(.t 69), (.t 73), (.v (.int .i64 (-1))), (.t 75), (.t 76)])⟩,
    ⟨none, (.pick 78 (.t 68) (.v (.bool true)) (.t 77))⟩])
  (.cond (.t 78)
    (.seq (.reg [⟨none, (.mv (some 6) (.v (.bool false)))⟩])
  .ret)
    .skip))
  (.seq (.reg [⟨none, (.mv (some 79) (.t 8))⟩,
    ⟨none, (.ln 80 (some 9) (.t 79))⟩,
    ⟨none, (.ar 81 .eql (.t 80) (.v (.int .i64 0)))⟩,
    ⟨none, (.mv (some 82) (.t 81))⟩,
    ⟨(some (82, false)), (.mv (some 83) (.t 7))⟩,
    ⟨(some (82, false)), (.mv (some 84) (.t 0))⟩,
    ⟨(some (82, false)), (.mv (some 85) (.t 1))⟩,
    ⟨(some (82, false)), (.ea 86 9 (.t 84) (.t 85))⟩,
    ⟨(some (82, false)), (.ld 87 none (.t 86))⟩,
    ⟨(some (82, false)), (.mv (some 88) (.t 1))⟩,
    ⟨(some (82, false)), (.mv (some 89) (.t 0))⟩,
    ⟨(some (82, false)), (.ln 90 (some 9) (.t 89))⟩,
    ⟨(some (82, false)), (.mv (some 91) (.t 8))⟩,
    ⟨(some (82, false)), (.mv (some 92) (.t 8))⟩,
    ⟨(some (82, false)), (.ln 93 (some 9) (.t 92))⟩,
    ⟨(some (82, false)), (.ar 94 .sub (.t 93) (.v (.int .i64 1)))⟩,
    ⟨(some (82, false)), (.sc 95 (some 9) (.t 91) none (some (.t 94)))⟩,
    ⟨(some (82, false)), (.ca (some 96) 23 [(.t 83), (.t 87), (.t 88), (.t 90), (.t 95)])⟩,
    ⟨(some (82, false)), (.un 97 .not (.t 96))⟩,
    ⟨none, (.pick 98 (.t 82) (.v (.bool true)) (.t 97))⟩,
    ⟨none, (.mv (some 6) (.t 98))⟩])
  .ret))))))))
noncomputable def ent9 : TEnt := ⟨9, [(.sl 9 .str), (.int .i64), .str], .bool, fun x => F9 x.1 x.2.1 x.2.2, .plain⟩
theorem eq9 (x : dens ent9.as) : ent9.F x = evF [ent10, ent17, ent18, ent20, ent23] SHF dc9 [(.tmp 6)] ent9.as ent9.rs x := by kernel_rfl
theorem mixedF : Tryd.prog.follows .mixedOrders = true := by kernel_rfl
section
variable {G : World → Prop} (hG : Keeps G)
include hG in
theorem ok66 : TEnt.Ok Tryd.prog G ent66 :=
  ent_ok hG mixedF (fn := Tryd.f66) (d := dc66) (crs := [(.tmp 2)]) (hint := []) (TT := []) (SH := SHF) rfl rfl (by kernel_rfl) (by decide) rfl trivial eq66
include hG in
theorem ok54 (h66 : TEnt.Ok Tryd.prog G ent66) (h67 : TEnt.Ok Tryd.prog G entTZ) : TEnt.Ok Tryd.prog G ent54 :=
  ent_ok hG mixedF (fn := Tryd.f54) (d := dc54) (crs := [(.tmp 10), (.tmp 11)]) (hint := [(30, 12)]) (TT := [ent66, entTZ]) (SH := SHF) rfl rfl (by kernel_rfl) (by decide) rfl ⟨h66, h67, trivial⟩ eq54
include hG in
theorem ok40 (h54 : TEnt.Ok Tryd.prog G ent54) : TEnt.Ok Tryd.prog G ent40 :=
  ent_ok hG mixedF (fn := Tryd.f40) (d := dc40) (crs := [(.tmp 4)]) (hint := []) (TT := [ent54]) (SH := SHF) rfl rfl (by kernel_rfl) (by decide) rfl ⟨h54, trivial⟩ eq40
include hG in
theorem ok31 (h40 : TEnt.Ok Tryd.prog G ent40) : TEnt.Ok Tryd.prog G ent31 :=
  ent_ok hG mixedF (fn := Tryd.f31) (d := dc31) (crs := [(.tmp 4)]) (hint := []) (TT := [ent40]) (SH := SHF) rfl rfl (by kernel_rfl) (by decide) rfl ⟨h40, trivial⟩ eq31
include hG in
theorem ok25 (h31 : TEnt.Ok Tryd.prog G ent31) (h32 : TEnt.Ok Tryd.prog G entRepeat) : TEnt.Ok Tryd.prog G ent25 :=
  ent_ok hG mixedF (fn := Tryd.f25) (d := dc25) (crs := [(.tmp 2)]) (hint := []) (TT := [ent31, entRepeat]) (SH := SHF) rfl rfl (by kernel_rfl) (by decide) rfl ⟨h31, h32, trivial⟩ eq25
include hG in
theorem ok11 (h25 : TEnt.Ok Tryd.prog G ent25) : TEnt.Ok Tryd.prog G ent11 :=
  ent_ok hG mixedF (fn := Tryd.f11) (d := dc11) (crs := [(.tmp 2)]) (hint := []) (TT := [ent25]) (SH := SHF) rfl rfl (by kernel_rfl) (by decide) rfl ⟨h25, trivial⟩ eq11
include hG in
theorem ok12 (h25 : TEnt.Ok Tryd.prog G ent25) : TEnt.Ok Tryd.prog G ent12 :=
  ent_ok hG mixedF (fn := Tryd.f12) (d := dc12) (crs := [(.tmp 4)]) (hint := []) (TT := [ent25]) (SH := SHF) rfl rfl (by kernel_rfl) (by decide) rfl ⟨h25, trivial⟩ eq12
include hG in
theorem ok13 : TEnt.Ok Tryd.prog G ent13 :=
  ent_ok hG mixedF (fn := Tryd.f13) (d := dc13) (crs := [(.tmp 2)]) (hint := []) (TT := []) (SH := SHF) rfl rfl (by kernel_rfl) (by decide) rfl trivial eq13
include hG in
theorem ok14 (h13 : TEnt.Ok Tryd.prog G ent13) : TEnt.Ok Tryd.prog G ent14 :=
  ent_ok hG mixedF (fn := Tryd.f14) (d := dc14) (crs := [(.tmp 4)]) (hint := []) (TT := [ent13]) (SH := SHF) rfl rfl (by kernel_rfl) (by decide) rfl ⟨h13, trivial⟩ eq14
include hG in
theorem ok15 (h26 : TEnt.Ok Tryd.prog G entTrim) : TEnt.Ok Tryd.prog G ent15 :=
  ent_ok hG mixedF (fn := Tryd.f15) (d := dc15) (crs := [(.tmp 2)]) (hint := []) (TT := [entTrim]) (SH := SHF) rfl rfl (by kernel_rfl) (by decide) rfl ⟨h26, trivial⟩ eq15
include hG in
theorem ok16 : TEnt.Ok Tryd.prog G ent16 :=
  ent_ok hG mixedF (fn := Tryd.f16) (d := dc16) (crs := [(.tmp 2)]) (hint := []) (TT := []) (SH := SHF) rfl rfl (by kernel_rfl) (by decide) rfl trivial eq16
include hG in
theorem ok17 : TEnt.Ok Tryd.prog G ent17 :=
  ent_ok hG mixedF (fn := Tryd.f17) (d := dc17) (crs := [(.tmp 2)]) (hint := []) (TT := []) (SH := SHF) rfl rfl (by kernel_rfl) (by decide) rfl trivial eq17
include hG in
theorem ok27 (h25 : TEnt.Ok Tryd.prog G ent25) : TEnt.Ok Tryd.prog G ent27 :=
  ent_ok hG mixedF (fn := Tryd.f27) (d := dc27) (crs := [(.tmp 2)]) (hint := [(7, 8)]) (TT := [ent25]) (SH := SHF) rfl rfl (by kernel_rfl) (by decide) rfl ⟨h25, trivial⟩ eq27
include hG in
theorem ok28 (h12 : TEnt.Ok Tryd.prog G ent12) : TEnt.Ok Tryd.prog G ent28 :=
  ent_ok hG mixedF (fn := Tryd.f28) (d := dc28) (crs := [(.tmp 2)]) (hint := []) (TT := [ent12]) (SH := SHF) rfl rfl (by kernel_rfl) (by decide) rfl ⟨h12, trivial⟩ eq28
include hG in
theorem ok29 (h13 : TEnt.Ok Tryd.prog G ent13) : TEnt.Ok Tryd.prog G ent29 :=
  ent_ok hG mixedF (fn := Tryd.f29) (d := dc29) (crs := [(.tmp 2)]) (hint := []) (TT := [ent13]) (SH := SHF) rfl rfl (by kernel_rfl) (by decide) rfl ⟨h13, trivial⟩ eq29
include hG in
theorem ok30 (h14 : TEnt.Ok Tryd.prog G ent14) : TEnt.Ok Tryd.prog G ent30 :=
  ent_ok hG mixedF (fn := Tryd.f30) (d := dc30) (crs := [(.tmp 2)]) (hint := []) (TT := [ent14]) (SH := SHF) rfl rfl (by kernel_rfl) (by decide) rfl ⟨h14, trivial⟩ eq30
include hG in
theorem ok18 (h11 : TEnt.Ok Tryd.prog G ent11) (h27 : TEnt.Ok Tryd.prog G ent27) (h28 : TEnt.Ok Tryd.prog G ent28) : TEnt.Ok Tryd.prog G ent18 :=
  ent_ok hG mixedF (fn := Tryd.f18) (d := dc18) (crs := [(.tmp 2)]) (hint := []) (TT := [ent11, ent27, ent28]) (SH := SHF) rfl rfl (by kernel_rfl) (by decide) rfl ⟨h11, h27, h28, trivial⟩ eq18
include hG in
theorem ok19 (h13 : TEnt.Ok Tryd.prog G ent13) (h29 : TEnt.Ok Tryd.prog G ent29) (h30 : TEnt.Ok Tryd.prog G ent30) : TEnt.Ok Tryd.prog G ent19 :=
  ent_ok hG mixedF (fn := Tryd.f19) (d := dc19) (crs := [(.tmp 2)]) (hint := []) (TT := [ent13, ent29, ent30]) (SH := SHF) rfl rfl (by kernel_rfl) (by decide) rfl ⟨h13, h29, h30, trivial⟩ eq19
include hG in
theorem ok20 (h27 : TEnt.Ok Tryd.prog G ent27) (h28 : TEnt.Ok Tryd.prog G ent28) : TEnt.Ok Tryd.prog G ent20 :=
  ent_ok hG mixedF (fn := Tryd.f20) (d := dc20) (crs := [(.tmp 4), (.tmp 5)]) (hint := []) (TT := [ent27, ent28]) (SH := SHF) rfl rfl (by kernel_rfl) (by decide) rfl ⟨h27, h28, trivial⟩ eq20
include hG in
theorem ok21 (h29 : TEnt.Ok Tryd.prog G ent29) (h30 : TEnt.Ok Tryd.prog G ent30) : TEnt.Ok Tryd.prog G ent21 :=
  ent_ok hG mixedF (fn := Tryd.f21) (d := dc21) (crs := [(.tmp 4), (.tmp 5)]) (hint := []) (TT := [ent29, ent30]) (SH := SHF) rfl rfl (by kernel_rfl) (by decide) rfl ⟨h29, h30, trivial⟩ eq21
include hG in
theorem ok22 : TEnt.Ok Tryd.prog G ent22 :=
  ent_ok hG mixedF (fn := Tryd.f22) (d := dc22) (crs := [(.tmp 4)]) (hint := []) (TT := []) (SH := SHF) rfl rfl (by kernel_rfl) (by decide) rfl trivial eq22
include hG in
theorem ok23 (h12 : TEnt.Ok Tryd.prog G ent12) (h25 : TEnt.Ok Tryd.prog G ent25) : TEnt.Ok Tryd.prog G ent23 :=
  ent_ok hG mixedF (fn := Tryd.f23) (d := dc23) (crs := [(.tmp 10)]) (hint := []) (TT := [ent12, ent25]) (SH := SHF) rfl rfl (by kernel_rfl) (by decide) rfl ⟨h12, h25, trivial⟩ eq23
include hG in
theorem ok24 (h13 : TEnt.Ok Tryd.prog G ent13) (h14 : TEnt.Ok Tryd.prog G ent14) : TEnt.Ok Tryd.prog G ent24 :=
  ent_ok hG mixedF (fn := Tryd.f24) (d := dc24) (crs := [(.tmp 10)]) (hint := []) (TT := [ent13, ent14]) (SH := SHF) rfl rfl (by kernel_rfl) (by decide) rfl ⟨h13, h14, trivial⟩ eq24
include hG in
theorem ok10 (h11 : TEnt.Ok Tryd.prog G ent11) (h12 : TEnt.Ok Tryd.prog G ent12) (h15 : TEnt.Ok Tryd.prog G ent15) (h18 : TEnt.Ok Tryd.prog G ent18) (h20 : TEnt.Ok Tryd.prog G ent20) (h22 : TEnt.Ok Tryd.prog G ent22) : TEnt.Ok Tryd.prog G ent10 :=
  ent_ok hG mixedF (fn := Tryd.f10) (d := dc10) (crs := [(.tmp 0)]) (hint := []) (TT := [ent11, ent12, ent15, ent18, ent20, ent22]) (SH := SHF) rfl rfl (by kernel_rfl) (by decide) rfl ⟨h11, h12, h15, h18, h20, h22, trivial⟩ eq10
include hG in
theorem ok3 (h10 : TEnt.Ok Tryd.prog G ent10) (h11 : TEnt.Ok Tryd.prog G ent11) (h12 : TEnt.Ok Tryd.prog G ent12) (h13 : TEnt.Ok Tryd.prog G ent13) (h14 : TEnt.Ok Tryd.prog G ent14) (h15 : TEnt.Ok Tryd.prog G ent15) : TEnt.Ok Tryd.prog G ent3 :=
  ent_ok hG mixedF (fn := Tryd.f3) (d := dc3) (crs := [(.tmp 4)]) (hint := []) (TT := [ent10, ent11, ent12, ent13, ent14, ent15]) (SH := SHF) rfl rfl (by kernel_rfl) (by decide) rfl ⟨h10, h11, h12, h13, h14, h15, trivial⟩ eq3
include hG in
theorem ok4 (h10 : TEnt.Ok Tryd.prog G ent10) (h15 : TEnt.Ok Tryd.prog G ent15) (h16 : TEnt.Ok Tryd.prog G ent16) : TEnt.Ok Tryd.prog G ent4 :=
  ent_ok hG mixedF (fn := Tryd.f4) (d := dc4) (crs := [(.tmp 2)]) (hint := []) (TT := [ent10, ent15, ent16]) (SH := SHF) rfl rfl (by kernel_rfl) (by decide) rfl ⟨h10, h15, h16, trivial⟩ eq4
include hG in
theorem ok5 (h10 : TEnt.Ok Tryd.prog G ent10) (h17 : TEnt.Ok Tryd.prog G ent17) (h18 : TEnt.Ok Tryd.prog G ent18) (h19 : TEnt.Ok Tryd.prog G ent19) : TEnt.Ok Tryd.prog G ent5 :=
  ent_ok hG mixedF (fn := Tryd.f5) (d := dc5) (crs := [(.tmp 2)]) (hint := []) (TT := [ent10, ent17, ent18, ent19]) (SH := SHF) rfl rfl (by kernel_rfl) (by decide) rfl ⟨h10, h17, h18, h19, trivial⟩ eq5
include hG in
theorem ok6 (h10 : TEnt.Ok Tryd.prog G ent10) (h17 : TEnt.Ok Tryd.prog G ent17) (h20 : TEnt.Ok Tryd.prog G ent20) (h21 : TEnt.Ok Tryd.prog G ent21) (h22 : TEnt.Ok Tryd.prog G ent22) : TEnt.Ok Tryd.prog G ent6 :=
  ent_ok hG mixedF (fn := Tryd.f6) (d := dc6) (crs := [(.tmp 4)]) (hint := []) (TT := [ent10, ent17, ent20, ent21, ent22]) (SH := SHF) rfl rfl (by kernel_rfl) (by decide) rfl ⟨h10, h17, h20, h21, h22, trivial⟩ eq6
include hG in
theorem ok7 (h10 : TEnt.Ok Tryd.prog G ent10) (h17 : TEnt.Ok Tryd.prog G ent17) (h23 : TEnt.Ok Tryd.prog G ent23) (h24 : TEnt.Ok Tryd.prog G ent24) : TEnt.Ok Tryd.prog G ent7 :=
  ent_ok hG mixedF (fn := Tryd.f7) (d := dc7) (crs := [(.tmp 2)]) (hint := []) (TT := [ent10, ent17, ent23, ent24]) (SH := SHF) rfl rfl (by kernel_rfl) (by decide) rfl ⟨h10, h17, h23, h24, trivial⟩ eq7
include hG in
theorem ok8 (h10 : TEnt.Ok Tryd.prog G ent10) (h17 : TEnt.Ok Tryd.prog G ent17) (h18 : TEnt.Ok Tryd.prog G ent18) (h20 : TEnt.Ok Tryd.prog G ent20) (h23 : TEnt.Ok Tryd.prog G ent23) : TEnt.Ok Tryd.prog G ent8 :=
  ent_ok hG mixedF (fn := Tryd.f8) (d := dc8) (crs := [(.tmp 6)]) (hint := [(30000000, 40000039), (30000000, 40000041), (9, 41)]) (TT := [ent10, ent17, ent18, ent20, ent23]) (SH := SHF) rfl rfl (by kernel_rfl) (by decide) rfl ⟨h10, h17, h18, h20, h23, trivial⟩ eq8
include hG in
theorem ok9 (h10 : TEnt.Ok Tryd.prog G ent10) (h17 : TEnt.Ok Tryd.prog G ent17) (h18 : TEnt.Ok Tryd.prog G ent18) (h20 : TEnt.Ok Tryd.prog G ent20) (h23 : TEnt.Ok Tryd.prog G ent23) : TEnt.Ok Tryd.prog G ent9 :=
  ent_ok hG mixedF (fn := Tryd.f9) (d := dc9) (crs := [(.tmp 6)]) (hint := []) (TT := [ent10, ent17, ent18, ent20, ent23]) (SH := SHF) rfl rfl (by kernel_rfl) (by decide) rfl ⟨h10, h17, h18, h20, h23, trivial⟩ eq9
end
end Go.Proofs.YtlgdcfelfifgfaaDoor
