/-
  THE FUNCTIONS AS PLAIN ONES (printed by a program of ours), and that they are what the code's runs give.
-/
import Derived.Test.YthpgkpcnajookaaGreatDoorG
namespace Go.Proofs.YthpgkpcnajookaaGreatDoor
open Go Go.Nu
set_option maxRecDepth 100000
set_option linter.unusedVariables false
def SHF : List (TypeId × Sh) := [(3, (.int .i64)), (5, .byte), (9, .str), (39, (.agg 39 (.pair .str .str))), (85, (.agg 85 (.pair .str .str))), (89, (.arr 89 .bool)), (90, (.arr 90 .bool)), (111, (.arr 111 .byte)), (132, (.arr 132 (.int .u64))), (133, (.arr 133 .byte)), (143, (.arr 143 .byte)), (146, (.arr 146 (.agg 145 (.pair .byte .byte)))), (153, (.arr 153 .byte)), (154, (.arr 154 .byte))]
/-- internal/strconv.isPowerOfTwo -/
noncomputable def F117 (a0 : Int) : Option (Bool) :=
  bnd (IntKind.wrap .i64 (a0 - (1 : Int))) fun x1 =>
  bnd (andI .i64 a0 x1) fun x2 =>
  some (decide (x2 = (0 : Int)))
def dc117 : DC :=
  (.seq (.reg [⟨none, (.mv (some 2) (.v (.bool false)))⟩])
  (.seq (.reg [⟨none, (.mv (some 3) (.t 0))⟩,
    ⟨none, (.mv (some 4) (.t 0))⟩,
    ⟨none, (.ar 5 .sub (.t 4) (.v (.int .i64 1)))⟩,
    ⟨none, (.ar 6 .and (.t 3) (.t 5))⟩,
    ⟨none, (.ar 7 .eql (.t 6) (.v (.int .i64 0)))⟩,
    ⟨none, (.mv (some 2) (.t 7))⟩])
  .ret))
noncomputable def ent117 : TEnt := ⟨117, [(.int .i64)], .bool, fun x => F117 x, .plain⟩
theorem eq117 (x : dens ent117.as) : ent117.F x = evF [] SHF dc117 [(.tmp 2)] ent117.as ent117.rs x := by kernel_rfl
/-- internal/strconv.formatBits -/
noncomputable def F96 (a0 : List (UInt8)) (a1 : Int) (a2 : Int) (a3 : Bool) (a4 : Bool) : Option (List (UInt8) × List UInt8) :=
  cond (decide (a2 < (2 : Int)))
    (none)
    (cond (decide (a2 = (10 : Int)))
      (none)
      (cond (decide ((36 : Int) < a2))
        (none)
        (jn (σ := Int) (fun nextj1 =>
          cond (a3)
            (bnd (IntKind.wrap .u64 (0 - a1)) fun x2 =>
            nextj1 x2)
            (nextj1 a1)) fun j1 =>
        jn (σ := Int × List (UInt8)) (fun nextj3 =>
          bindO (F117 a2) fun y4 =>
          cond (y4)
            (bindO (fTZ (IntKind.wrap .u64 a2)) fun y5 =>
            bnd (IntKind.wrap .u64 ((IntKind.wrap .u64 a2) - (1 : Int))) fun x6 =>
            loopK (σ := Int × Int × List (UInt8)) (fun p7 againp7 =>
              cond (decide ((IntKind.wrap .u64 a2) ≤ p7.1))
                (bnd (IntKind.wrap .i64 (p7.2.1 - (1 : Int))) fun x8 =>
                bnd (andI .u64 p7.1 x6) fun x9 =>
                gd (0 ≤ x9 ∧ x9 < (List.length ([48, 49, 50, 51, 52, 53, 54, 55, 56, 57, 97, 98, 99, 100, 101, 102, 103, 104, 105, 106, 107, 108, 109, 110, 111, 112, 113, 114, 115, 116, 117, 118, 119, 120, 121, 122] : List UInt8) : Int)) <|
                gd (0 ≤ x8 ∧ x8 < (List.length p7.2.2 : Int)) <|
                gd ((Int.toNat x8) < List.length p7.2.2) <|
                gd (0 ≤ (IntKind.wrap .u64 y5)) <|
                bnd (shrI .u64 p7.1 (IntKind.wrap .u64 y5)) fun x10 =>
                againp7 (x10, x8, (List.set p7.2.2 (Int.toNat x8) (List.getD ([48, 49, 50, 51, 52, 53, 54, 55, 56, 57, 97, 98, 99, 100, 101, 102, 103, 104, 105, 106, 107, 108, 109, 110, 111, 112, 113, 114, 115, 116, 117, 118, 119, 120, 121, 122] : List UInt8) (Int.toNat x9) 0))))
                (bnd (IntKind.wrap .i64 (p7.2.1 - (1 : Int))) fun x11 =>
                gd (0 ≤ p7.1 ∧ p7.1 < (List.length ([48, 49, 50, 51, 52, 53, 54, 55, 56, 57, 97, 98, 99, 100, 101, 102, 103, 104, 105, 106, 107, 108, 109, 110, 111, 112, 113, 114, 115, 116, 117, 118, 119, 120, 121, 122] : List UInt8) : Int)) <|
                gd (0 ≤ x11 ∧ x11 < (List.length p7.2.2 : Int)) <|
                gd ((Int.toNat x11) < List.length p7.2.2) <|
                nextj3 (x11, (List.set p7.2.2 (Int.toNat x11) (List.getD ([48, 49, 50, 51, 52, 53, 54, 55, 56, 57, 97, 98, 99, 100, 101, 102, 103, 104, 105, 106, 107, 108, 109, 110, 111, 112, 113, 114, 115, 116, 117, 118, 119, 120, 121, 122] : List UInt8) (Int.toNat p7.1) 0))))) (j1, (65 : Int), (List.replicate 65 (UInt8.ofNat (Int.toNat (0 : Int))))))
            (loopK (σ := Int × Int × List (UInt8)) (fun p12 againp12 =>
              cond (decide ((IntKind.wrap .u64 a2) ≤ p12.1))
                (bnd (IntKind.wrap .i64 (p12.2.1 - (1 : Int))) fun x13 =>
                gd ((IntKind.wrap .u64 a2) ≠ 0) <|
                bnd (IntKind.wrap .u64 (Int.tdiv p12.1 (IntKind.wrap .u64 a2))) fun x14 =>
                bnd (IntKind.wrap .u64 (x14 * (IntKind.wrap .u64 a2))) fun x15 =>
                bnd (IntKind.wrap .u64 (p12.1 - x15)) fun x16 =>
                gd (0 ≤ x16 ∧ x16 < (List.length ([48, 49, 50, 51, 52, 53, 54, 55, 56, 57, 97, 98, 99, 100, 101, 102, 103, 104, 105, 106, 107, 108, 109, 110, 111, 112, 113, 114, 115, 116, 117, 118, 119, 120, 121, 122] : List UInt8) : Int)) <|
                gd (0 ≤ x13 ∧ x13 < (List.length p12.2.2 : Int)) <|
                gd ((Int.toNat x13) < List.length p12.2.2) <|
                againp12 (x14, x13, (List.set p12.2.2 (Int.toNat x13) (List.getD ([48, 49, 50, 51, 52, 53, 54, 55, 56, 57, 97, 98, 99, 100, 101, 102, 103, 104, 105, 106, 107, 108, 109, 110, 111, 112, 113, 114, 115, 116, 117, 118, 119, 120, 121, 122] : List UInt8) (Int.toNat x16) 0))))
                (bnd (IntKind.wrap .i64 (p12.2.1 - (1 : Int))) fun x17 =>
                gd (0 ≤ p12.1 ∧ p12.1 < (List.length ([48, 49, 50, 51, 52, 53, 54, 55, 56, 57, 97, 98, 99, 100, 101, 102, 103, 104, 105, 106, 107, 108, 109, 110, 111, 112, 113, 114, 115, 116, 117, 118, 119, 120, 121, 122] : List UInt8) : Int)) <|
                gd (0 ≤ x17 ∧ x17 < (List.length p12.2.2 : Int)) <|
                gd ((Int.toNat x17) < List.length p12.2.2) <|
                nextj3 (x17, (List.set p12.2.2 (Int.toNat x17) (List.getD ([48, 49, 50, 51, 52, 53, 54, 55, 56, 57, 97, 98, 99, 100, 101, 102, 103, 104, 105, 106, 107, 108, 109, 110, 111, 112, 113, 114, 115, 116, 117, 118, 119, 120, 121, 122] : List UInt8) (Int.toNat p12.1) 0))))) (j1, (65 : Int), (List.replicate 65 (UInt8.ofNat (Int.toNat (0 : Int))))))) fun j3 =>
        jn (σ := Int × List (UInt8)) (fun nextj18 =>
          cond (a3)
            (bnd (IntKind.wrap .i64 (j3.1 - (1 : Int))) fun x19 =>
            gd (0 ≤ x19 ∧ x19 < (List.length j3.2 : Int)) <|
            gd ((Int.toNat x19) < List.length j3.2) <|
            gd ((0 : Int) ≤ (45 : Int) ∧ (45 : Int) < (256 : Int)) <|
            nextj18 (x19, (List.set j3.2 (Int.toNat x19) (UInt8.ofNat (Int.toNat (45 : Int))))))
            (nextj18 (j3.1, j3.2))) fun j18 =>
        cond (a4)
          (none)
          (gd (0 ≤ j18.1 ∧ j18.1 ≤ (List.length j18.2 : Int)) <|
          bnd (List.drop (Int.toNat j18.1) j18.2) fun x20 =>
          some (([] : List (UInt8)), x20)))))
def dc96 : DC :=
  (.seq (.reg [⟨none, (.nl 10 5)⟩,
    ⟨none, (.mv (some 11) (.v (.str [])))⟩])
  (.seq (.seq (.reg [⟨none, (.mv (some 19) (.t 2))⟩,
    ⟨none, (.ar 20 .lss (.t 19) (.v (.int .i64 2)))⟩,
    ⟨none, (.mv (some 21) (.t 20))⟩,
    ⟨(some (21, false)), (.mv (some 22) (.t 2))⟩,
    ⟨(some (21, false)), (.ar 23 .eql (.t 22) (.v (.int .i64 10)))⟩,
    ⟨none, (.pick 24 (.t 21) (.v (.bool true)) (.t 23))⟩,
    ⟨none, (.mv (some 25) (.t 24))⟩,
    ⟨(some (25, false)), (.mv (some 26) (.t 2))⟩,
    ⟨(some (25, false)), (.ar 27 .gtr (.t 26) (.v (.int .i64 36)))⟩,
    ⟨none, (.pick 28 (.t 25) (.v (.bool true)) (.t 27))⟩])
  (.cond (.t 28)
    (.reg [⟨none, (.mi 29 9 (.v (.str [115, 116, 114, 99, 111, 110, 118, 58, 32, 105, 108, 108, 101, 103, 97, 108, 32, 65, 112, 112, 101, 110, 100, 73, 110, 116, 47, 70, 111, 114, 109, 97, 116, 73, 110, 116, 32, 98, 97, 115, 101])))⟩,
    ⟨none, (.no none)⟩])
    .skip))
  (.seq (.reg [⟨none, (.al 12 (.agg 133 (List.replicate 65 (.int .u8 0))))⟩])
  (.seq (.reg [⟨none, (.mv (some 13) (.v (.int .i64 65)))⟩])
  (.jn ⟨[(1, (.lf (.int .u64)))], [], [30, 31, 32].map .s⟩ (.seq (.reg [⟨none, (.mv (some 30) (.t 3))⟩])
  (.cond (.t 30)
    (.reg [⟨none, (.mv (some 31) (.t 1))⟩,
    ⟨none, (.un 32 .neg (.t 31))⟩,
    ⟨none, (.mv (some 1) (.t 32))⟩])
    .skip))
  (.jn ⟨[(13, (.lf (.int .i64)))], [(12, (.lf (.arr 133 .byte)))], [1, 14, 15, 16, 17, 18, 33, 34, 35, 36, 37, 38, 39, 40, 41, 42, 43, 44, 45, 46, 47, 48, 49, 50, 51, 52, 53, 54, 55, 56, 57, 58, 59, 60, 61, 62, 63, 64, 65, 66, 67, 68, 69, 70, 71, 72, 73, 74, 75, 76, 77, 78, 79, 80, 81, 82, 83, 84, 85, 86, 87, 88].map .s⟩ (.seq (.reg [⟨none, (.mv (some 33) (.t 2))⟩,
    ⟨none, (.ca (some 34) 117 [(.t 33)])⟩])
  (.cond (.t 34)
    (.seq (.reg [⟨none, (.mv (some 35) (.t 2))⟩,
    ⟨none, (.cvi 36 .u64 (.t 35))⟩,
    ⟨none, (.ca (some 37) 118 [(.t 36)])⟩,
    ⟨none, (.cvi 38 .u64 (.t 37))⟩,
    ⟨none, (.mv (some 14) (.t 38))⟩])
  (.seq (.reg [⟨none, (.mv (some 39) (.t 2))⟩,
    ⟨none, (.cvi 40 .u64 (.t 39))⟩,
    ⟨none, (.mv (some 15) (.t 40))⟩])
  (.seq (.reg [⟨none, (.mv (some 41) (.t 2))⟩,
    ⟨none, (.cvi 42 .u64 (.t 41))⟩,
    ⟨none, (.ar 43 .sub (.t 42) (.v (.int .u64 1)))⟩,
    ⟨none, (.mv (some 16) (.t 43))⟩])
  (.seq (.block 0 (.loop ⟨[(1, (.lf (.int .u64))), (13, (.lf (.int .i64)))], [(12, (.lf (.arr 133 .byte)))], [44, 45, 46, 47, 48, 49, 50, 51, 52, 53, 54, 55, 56, 57].map .s⟩ (.seq (.seq (.reg [⟨none, (.mv (some 44) (.t 1))⟩,
    ⟨none, (.mv (some 45) (.t 15))⟩,
    ⟨none, (.ar 46 .geq (.t 44) (.t 45))⟩])
  (.cond (.t 46)
    .skip
    (.exit 0)))
  (.block 1 (.seq (.reg [⟨none, (.mv (some 47) (.t 13))⟩,
    ⟨none, (.ar 48 .sub (.t 47) (.v (.int .i64 1)))⟩,
    ⟨none, (.mv (some 13) (.t 48))⟩])
  (.seq (.reg [⟨none, (.mv (some 49) (.t 13))⟩,
    ⟨none, (.mv (some 50) (.t 1))⟩,
    ⟨none, (.mv (some 51) (.t 16))⟩,
    ⟨none, (.ar 52 .and (.t 50) (.t 51))⟩,
    ⟨none, (.ix 53 (.v (.str [48, 49, 50, 51, 52, 53, 54, 55, 56, 57, 97, 98, 99, 100, 101, 102, 103, 104, 105, 106, 107, 108, 109, 110, 111, 112, 113, 114, 115, 116, 117, 118, 119, 120, 121, 122])) (.t 52))⟩,
    ⟨none, (.aa 54 133 (.t 12) (.t 49))⟩,
    ⟨none, (.st none (.t 54) (.t 53))⟩])
  (.reg [⟨none, (.mv (some 55) (.t 1))⟩,
    ⟨none, (.mv (some 56) (.t 14))⟩,
    ⟨none, (.ar 57 .shr (.t 55) (.t 56))⟩,
    ⟨none, (.mv (some 1) (.t 57))⟩])))))))
  (.seq (.reg [⟨none, (.mv (some 58) (.t 13))⟩,
    ⟨none, (.ar 59 .sub (.t 58) (.v (.int .i64 1)))⟩,
    ⟨none, (.mv (some 13) (.t 59))⟩])
  (.reg [⟨none, (.mv (some 60) (.t 13))⟩,
    ⟨none, (.mv (some 61) (.t 1))⟩,
    ⟨none, (.ix 62 (.v (.str [48, 49, 50, 51, 52, 53, 54, 55, 56, 57, 97, 98, 99, 100, 101, 102, 103, 104, 105, 106, 107, 108, 109, 110, 111, 112, 113, 114, 115, 116, 117, 118, 119, 120, 121, 122])) (.t 61))⟩,
    ⟨none, (.aa 63 133 (.t 12) (.t 60))⟩,
    ⟨none, (.st none (.t 63) (.t 62))⟩]))))))
    (.seq (.reg [⟨none, (.mv (some 64) (.t 2))⟩,
    ⟨none, (.cvi 65 .u64 (.t 64))⟩,
    ⟨none, (.mv (some 17) (.t 65))⟩])
  (.seq (.block 2 (.loop ⟨[(1, (.lf (.int .u64))), (13, (.lf (.int .i64)))], [(12, (.lf (.arr 133 .byte)))], [18, 66, 67, 68, 69, 70, 71, 72, 73, 74, 75, 76, 77, 78, 79, 80, 81, 82].map .s⟩ (.seq (.seq (.reg [⟨none, (.mv (some 66) (.t 1))⟩,
    ⟨none, (.mv (some 67) (.t 17))⟩,
    ⟨none, (.ar 68 .geq (.t 66) (.t 67))⟩])
  (.cond (.t 68)
    .skip
    (.exit 2)))
  (.block 3 (.seq (.reg [⟨none, (.mv (some 69) (.t 13))⟩,
    ⟨none, (.ar 70 .sub (.t 69) (.v (.int .i64 1)))⟩,
    ⟨none, (.mv (some 13) (.t 70))⟩])
  (.seq (.reg [⟨none, (.mv (some 71) (.t 1))⟩,
    ⟨none, (.mv (some 72) (.t 17))⟩,
    ⟨none, (.ar 73 .quo (.t 71) (.t 72))⟩,
    ⟨none, (.mv (some 18) (.t 73))⟩])
  (.seq (.reg [⟨none, (.mv (some 74) (.t 13))⟩,
    ⟨none, (.mv (some 75) (.t 1))⟩,
    ⟨none, (.mv (some 76) (.t 18))⟩,
    ⟨none, (.mv (some 77) (.t 17))⟩,
    ⟨none, (.ar 78 .mul (.t 76) (.t 77))⟩,
    ⟨none, (.ar 79 .sub (.t 75) (.t 78))⟩,
    ⟨none, (.ix 80 (.v (.str [48, 49, 50, 51, 52, 53, 54, 55, 56, 57, 97, 98, 99, 100, 101, 102, 103, 104, 105, 106, 107, 108, 109, 110, 111, 112, 113, 114, 115, 116, 117, 118, 119, 120, 121, 122])) (.t 79))⟩,
    ⟨none, (.aa 81 133 (.t 12) (.t 74))⟩,
    ⟨none, (.st none (.t 81) (.t 80))⟩])
  (.reg [⟨none, (.mv (some 82) (.t 18))⟩,
    ⟨none, (.mv (some 1) (.t 82))⟩]))))))))
  (.seq (.reg [⟨none, (.mv (some 83) (.t 13))⟩,
    ⟨none, (.ar 84 .sub (.t 83) (.v (.int .i64 1)))⟩,
    ⟨none, (.mv (some 13) (.t 84))⟩])
  (.reg [⟨none, (.mv (some 85) (.t 13))⟩,
    ⟨none, (.mv (some 86) (.t 1))⟩,
    ⟨none, (.ix 87 (.v (.str [48, 49, 50, 51, 52, 53, 54, 55, 56, 57, 97, 98, 99, 100, 101, 102, 103, 104, 105, 106, 107, 108, 109, 110, 111, 112, 113, 114, 115, 116, 117, 118, 119, 120, 121, 122])) (.t 86))⟩,
    ⟨none, (.aa 88 133 (.t 12) (.t 85))⟩,
    ⟨none, (.st none (.t 88) (.t 87))⟩]))))))
  (.jn ⟨[(13, (.lf (.int .i64)))], [(12, (.lf (.arr 133 .byte)))], [89, 90, 91, 92, 93].map .s⟩ (.seq (.reg [⟨none, (.mv (some 89) (.t 3))⟩])
  (.cond (.t 89)
    (.seq (.reg [⟨none, (.mv (some 90) (.t 13))⟩,
    ⟨none, (.ar 91 .sub (.t 90) (.v (.int .i64 1)))⟩,
    ⟨none, (.mv (some 13) (.t 91))⟩])
  (.reg [⟨none, (.mv (some 92) (.t 13))⟩,
    ⟨none, (.aa 93 133 (.t 12) (.t 92))⟩,
    ⟨none, (.st none (.t 93) (.v (.int .u8 45)))⟩]))
    .skip))
  (.seq (.seq (.reg [⟨none, (.mv (some 94) (.t 4))⟩])
  (.cond (.t 94)
    (.seq (.reg [⟨none, (.mv (some 95) (.t 0))⟩,
    ⟨none, (.mv (some 96) (.t 13))⟩,
    ⟨none, (.sa 97 133 5 (.t 12) (some (.t 96)) none)⟩,
    ⟨none, (.ap 98 5 (.t 95) (.t 97))⟩,
    ⟨none, (.mv (some 10) (.t 98))⟩])
  .ret)
    .skip))
  (.seq (.seq (.gh 12 [])
  (.reg [⟨none, (.mv (some 99) (.t 13))⟩,
    ⟨none, (.sa 100 133 5 (.t 12) (some (.t 99)) none)⟩,
    ⟨none, (.cvb 101 (.t 100))⟩,
    ⟨none, (.mv (some 11) (.t 101))⟩]))
  .ret)))))))))
noncomputable def ent96 : TEnt := ⟨96, [(.sl 5 .byte), (.int .u64), (.int .i64), .bool, .bool], (.tup (.pair (.sl 5 .byte) .str)), fun x => F96 x.1 x.2.1 x.2.2.1 x.2.2.2.1 x.2.2.2.2, .plain⟩
theorem eq96 (x : dens ent96.as) : ent96.F x = evF [ent117, entTZ] SHF dc96 [(.tmp 10), (.tmp 11)] ent96.as ent96.rs x := by kernel_rfl
/-- internal/strconv.FormatUint -/
noncomputable def F81 (a0 : Int) (a1 : Int) : Option (List UInt8) :=
  cond (decide (a1 = (10 : Int)))
    (cond (decide (a0 < (100 : Int)))
      (none)
      (none))
    (bindO (F96 ([] : List (UInt8)) a0 a1 false false) fun y1 =>
    some y1.2)
def dc81 : DC :=
  (.seq (.reg [⟨none, (.mv (some 4) (.v (.str [])))⟩])
  (.seq (.seq (.reg [⟨none, (.mv (some 9) (.t 1))⟩,
    ⟨none, (.ar 10 .eql (.t 9) (.v (.int .i64 10)))⟩])
  (.cond (.t 10)
    (.seq (.seq (.reg [⟨none, (.mv (some 11) (.t 0))⟩,
    ⟨none, (.ar 12 .lss (.t 11) (.v (.int .u64 100)))⟩])
  (.cond (.t 12)
    (.seq (.reg [⟨none, (.mv (some 13) (.t 0))⟩,
    ⟨none, (.cvi 14 .i64 (.t 13))⟩,
    ⟨none, (.ca (some 15) 93 [(.t 14)])⟩,
    ⟨none, (.mv (some 4) (.t 15))⟩])
  .ret)
    .skip))
  (.seq (.reg [⟨none, (.al 5 (.agg 111 [(.int .u8 0), (.int .u8 0), (.int .u8 0), (.int .u8 0), (.int .u8 0), (.int .u8 0), (.int .u8 0), (.int .u8 0), (.int .u8 0), (.int .u8 0), (.int .u8 0), (.int .u8 0), (.int .u8 0), (.int .u8 0), (.int .u8 0), (.int .u8 0), (.int .u8 0), (.int .u8 0), (.int .u8 0), (.int .u8 0), (.int .u8 0), (.int .u8 0), (.int .u8 0), (.int .u8 0)]))⟩])
  (.seq (.reg [⟨none, (.mv (some 16) (.t 0))⟩,
    ⟨none, (.ca (some 17) 94 [(.t 16)])⟩,
    ⟨none, (.mv (some 6) (.t 17))⟩])
  (.seq (.reg [⟨none, (.mv (some 18) (.t 6))⟩,
    ⟨none, (.sa 19 111 5 (.t 5) none (some (.t 18)))⟩,
    ⟨none, (.mv (some 20) (.t 0))⟩,
    ⟨none, (.cb (some 21) 95 [(.t 19), (.t 20)])⟩])
  (.seq (.reg [⟨none, (.mv (some 22) (.t 6))⟩,
    ⟨none, (.sa 23 111 5 (.t 5) none (some (.t 22)))⟩,
    ⟨none, (.cvb 24 (.t 23))⟩,
    ⟨none, (.mv (some 4) (.t 24))⟩])
  .ret)))))
    .skip))
  (.seq (.reg [⟨none, (.mv (some 26) (.t 0))⟩,
    ⟨none, (.mv (some 27) (.t 1))⟩,
    ⟨none, (.ca (some 28) 96 [(.v (.sl none 0 [])), (.t 26), (.t 27), (.v (.bool false)), (.v (.bool false))])⟩,
    ⟨none, (.mv (some 25) (.t 28))⟩,
    ⟨none, (.ex 29 0 (.t 25))⟩,
    ⟨none, (.ex 30 1 (.t 25))⟩,
    ⟨none, (.mv (some 7) (.t 29))⟩,
    ⟨none, (.mv (some 8) (.t 30))⟩])
  (.seq (.reg [⟨none, (.mv (some 31) (.t 8))⟩,
    ⟨none, (.mv (some 4) (.t 31))⟩])
  .ret))))
noncomputable def ent81 : TEnt := ⟨81, [(.int .u64), (.int .i64)], .str, fun x => F81 x.1 x.2, .plain⟩
theorem eq81 (x : dens ent81.as) : ent81.F x = evF [ent96] SHF dc81 [(.tmp 4)] ent81.as ent81.rs x := by kernel_rfl
/-- strconv.FormatUint -/
noncomputable def F63 (a0 : Int) (a1 : Int) : Option (List UInt8) :=
  bindO (F81 a0 a1) fun y1 =>
  some y1
def dc63 : DC :=
  (.seq (.reg [⟨none, (.mv (some 4) (.v (.str [])))⟩])
  (.seq (.reg [⟨none, (.mv (some 5) (.t 0))⟩,
    ⟨none, (.mv (some 6) (.t 1))⟩,
    ⟨none, (.ca (some 7) 81 [(.t 5), (.t 6)])⟩,
    ⟨none, (.mv (some 4) (.t 7))⟩])
  .ret))
noncomputable def ent63 : TEnt := ⟨63, [(.int .u64), (.int .i64)], .str, fun x => F63 x.1 x.2, .plain⟩
theorem eq63 (x : dens ent63.as) : ent63.F x = evF [ent81] SHF dc63 [(.tmp 4)] ent63.as ent63.rs x := by kernel_rfl
/-- library/digest.sum -/
noncomputable def F48 (a0 : List (List UInt8)) : Option (List UInt8) :=
  loopK (σ := Int × Int) (fun p1 againp1 =>
    cond (decide (p1.2 < (List.length a0 : Int)))
      (gd (0 ≤ p1.2 ∧ p1.2 < (List.length a0 : Int)) <|
      loopK (σ := Int × Int) (fun p2 againp2 =>
        cond (decide (p2.2 < (List.length (List.getD a0 (Int.toNat p1.2) []) : Int)))
          (gd (0 ≤ p2.2 ∧ p2.2 < (List.length (List.getD a0 (Int.toNat p1.2) []) : Int)) <|
          bnd (xorI .u64 p2.1 (IntKind.wrap .u64 (UInt8.toNat (List.getD (List.getD a0 (Int.toNat p1.2) []) (Int.toNat p2.2) 0) : Int))) fun x3 =>
          bnd (IntKind.wrap .u64 (x3 * (1099511628211 : Int))) fun x4 =>
          bnd (IntKind.wrap .i64 (p2.2 + (1 : Int))) fun x5 =>
          againp2 (x4, x5))
          (bnd (IntKind.wrap .i64 (p1.2 + (1 : Int))) fun x6 =>
          againp1 (p2.1, x6))) (p1.1, (0 : Int)))
      (gd (0 ≤ (33 : Int)) <|
      bnd (shrI .u64 p1.1 (33 : Int)) fun x7 =>
      bnd (xorI .u64 p1.1 x7) fun x8 =>
      bnd (IntKind.wrap .u64 (x8 * (18397679294719823053 : Int))) fun x9 =>
      gd (0 ≤ (33 : Int)) <|
      bnd (shrI .u64 x9 (33 : Int)) fun x10 =>
      bnd (xorI .u64 x9 x10) fun x11 =>
      bnd (IntKind.wrap .u64 (x11 * (14181476777654086739 : Int))) fun x12 =>
      gd (0 ≤ (33 : Int)) <|
      bnd (shrI .u64 x12 (33 : Int)) fun x13 =>
      bnd (xorI .u64 x12 x13) fun x14 =>
      bindO (F63 x14 (16 : Int)) fun y15 =>
      bnd (IntKind.wrap .i64 ((16 : Int) - (List.length y15 : Int))) fun x16 =>
      bindO (fRepeat ([48] : List UInt8) x16) fun y17 =>
      gd (List.length y17 + List.length y15 ≤ big) <|
      bnd (y17 ++ y15) fun x18 =>
      some x18)) ((14695981039346656037 : Int), (0 : Int))
def dc48 : DC :=
  (.seq (.reg [⟨none, (.mv (some 2) (.v (.str [])))⟩])
  (.seq (.reg [⟨none, (.mv (some 3) (.v (.int .u64 14695981039346656037)))⟩])
  (.seq (.seq (.reg [⟨none, (.mv (some 8) (.t 0))⟩,
    ⟨none, (.ln 9 (some 9) (.t 8))⟩,
    ⟨none, (.mv (some 10) (.v (.int .i64 0)))⟩])
  (.block 0 (.loop ⟨[(3, (.lf (.int .u64))), (10, (.lf (.int .i64)))], [], [5, 6, 11, 12, 13, 14, 15, 16, 17, 18, 19, 20, 21, 22, 23, 24, 25, 26, 27].map .s⟩ (.seq (.reg [⟨none, (.ar 11 .lss (.t 10) (.t 9))⟩])
  (.seq (.cond (.t 11)
    .skip
    (.exit 0))
  (.seq (.block 1 (.seq (.reg [⟨none, (.ea 12 9 (.t 8) (.t 10))⟩,
    ⟨none, (.ld 13 none (.t 12))⟩,
    ⟨none, (.mv (some 5) (.t 13))⟩])
  (.seq (.reg [⟨none, (.mv (some 14) (.t 5))⟩,
    ⟨none, (.ln 15 none (.t 14))⟩,
    ⟨none, (.mv (some 16) (.v (.int .i64 0)))⟩])
  (.block 2 (.loop ⟨[(3, (.lf (.int .u64))), (16, (.lf (.int .i64)))], [], [6, 17, 18, 19, 20, 21, 22, 23, 24, 25, 26].map .s⟩ (.seq (.reg [⟨none, (.ar 17 .lss (.t 16) (.t 15))⟩])
  (.seq (.cond (.t 17)
    .skip
    (.exit 2))
  (.seq (.block 3 (.seq (.reg [⟨none, (.mv (some 18) (.t 16))⟩,
    ⟨none, (.mv (some 6) (.t 18))⟩])
  (.reg [⟨none, (.mv (some 19) (.t 3))⟩,
    ⟨none, (.mv (some 20) (.t 5))⟩,
    ⟨none, (.mv (some 21) (.t 6))⟩,
    ⟨none, (.ix 22 (.t 20) (.t 21))⟩,
    ⟨none, (.cvi 23 .u64 (.t 22))⟩,
    ⟨none, (.ar 24 .xor (.t 19) (.t 23))⟩,
    ⟨none, (.ar 25 .mul (.t 24) (.v (.int .u64 1099511628211)))⟩,
    ⟨none, (.mv (some 3) (.t 25))⟩])))
  (.reg [⟨none, (.ar 26 .add (.t 16) (.v (.int .i64 1)))⟩,
    ⟨none, (.mv (some 16) (.t 26))⟩])))))))))
  (.reg [⟨none, (.ar 27 .add (.t 10) (.v (.int .i64 1)))⟩,
    ⟨none, (.mv (some 10) (.t 27))⟩])))))))
  (.seq (.reg [⟨none, (.mv (some 28) (.t 3))⟩,
    ⟨none, (.mv (some 29) (.t 3))⟩,
    ⟨none, (.ar 30 .shr (.t 29) (.v (.int .u64 33)))⟩,
    ⟨none, (.ar 31 .xor (.t 28) (.t 30))⟩,
    ⟨none, (.mv (some 3) (.t 31))⟩])
  (.seq (.reg [⟨none, (.mv (some 32) (.t 3))⟩,
    ⟨none, (.ar 33 .mul (.t 32) (.v (.int .u64 18397679294719823053)))⟩,
    ⟨none, (.mv (some 3) (.t 33))⟩])
  (.seq (.reg [⟨none, (.mv (some 34) (.t 3))⟩,
    ⟨none, (.mv (some 35) (.t 3))⟩,
    ⟨none, (.ar 36 .shr (.t 35) (.v (.int .u64 33)))⟩,
    ⟨none, (.ar 37 .xor (.t 34) (.t 36))⟩,
    ⟨none, (.mv (some 3) (.t 37))⟩])
  (.seq (.reg [⟨none, (.mv (some 38) (.t 3))⟩,
    ⟨none, (.ar 39 .mul (.t 38) (.v (.int .u64 14181476777654086739)))⟩,
    ⟨none, (.mv (some 3) (.t 39))⟩])
  (.seq (.reg [⟨none, (.mv (some 40) (.t 3))⟩,
    ⟨none, (.mv (some 41) (.t 3))⟩,
    ⟨none, (.ar 42 .shr (.t 41) (.v (.int .u64 33)))⟩,
    ⟨none, (.ar 43 .xor (.t 40) (.t 42))⟩,
    ⟨none, (.mv (some 3) (.t 43))⟩])
  (.seq (.reg [⟨none, (.mv (some 44) (.t 3))⟩,
    ⟨none, (.ca (some 45) 63 [(.t 44), (.v (.int .i64 16))])⟩,
    ⟨none, (.mv (some 7) (.t 45))⟩])
  (.seq (.reg [⟨none, (.mv (some 46) (.t 7))⟩,
    ⟨none, (.ln 47 none (.t 46))⟩,
    ⟨none, (.ar 48 .sub (.v (.int .i64 16)) (.t 47))⟩,
    ⟨none, (.ca (some 49) 64 [(.v (.str [48])), (.t 48)])⟩,
    ⟨none, (.mv (some 50) (.t 7))⟩,
    ⟨none, (.ar 51 .add (.t 49) (.t 50))⟩,
    ⟨none, (.mv (some 2) (.t 51))⟩])
  .ret))))))))))
noncomputable def ent48 : TEnt := ⟨48, [(.sl 9 .str)], .str, fun x => F48 x, .plain⟩
theorem eq48 (x : dens ent48.as) : ent48.F x = evF [ent63, entRepeat] SHF dc48 [(.tmp 2)] ent48.as ent48.rs x := by kernel_rfl
/-- library/digest.Sum -/
noncomputable def F27 (a0 : List UInt8) : Option (List UInt8) :=
  bindO (F48 [a0]) fun y1 =>
  some y1
def dc27 : DC :=
  (.seq (.reg [⟨none, (.mv (some 2) (.v (.str [])))⟩])
  (.seq (.reg [⟨none, (.mv (some 3) (.t 0))⟩,
    ⟨none, (.bs 4 9 none [(.t 3)])⟩,
    ⟨none, (.ca (some 5) 48 [(.t 4)])⟩,
    ⟨none, (.mv (some 2) (.t 5))⟩])
  .ret))
noncomputable def ent27 : TEnt := ⟨27, [.str], .str, fun x => F27 x, .plain⟩
theorem eq27 (x : dens ent27.as) : ent27.F x = evF [ent48] SHF dc27 [(.tmp 2)] ent27.as ent27.rs x := by kernel_rfl
/-- library/digest.Join -/
noncomputable def F73 (a0 : List UInt8) (a1 : List UInt8) : Option (List UInt8) :=
  bindO (F48 [([49] : List UInt8), a0, a1]) fun y1 =>
  some y1
def dc73 : DC :=
  (.seq (.reg [⟨none, (.mv (some 4) (.v (.str [])))⟩])
  (.seq (.reg [⟨none, (.mv (some 5) (.t 0))⟩,
    ⟨none, (.mv (some 6) (.t 1))⟩,
    ⟨none, (.bs 7 9 none [(.v (.str [49])), (.t 5), (.t 6)])⟩,
    ⟨none, (.ca (some 8) 48 [(.t 7)])⟩,
    ⟨none, (.mv (some 4) (.t 8))⟩])
  .ret))
noncomputable def ent73 : TEnt := ⟨73, [.str, .str], .str, fun x => F73 x.1 x.2, .plain⟩
theorem eq73 (x : dens ent73.as) : ent73.F x = evF [ent48] SHF dc73 [(.tmp 4)] ent73.as ent73.rs x := by kernel_rfl
/-- library/libraryref06.Sum -/
noncomputable def F32 (a0 : List UInt8) : Option (List UInt8) :=
  loopK (σ := Int × Int) (fun p1 againp1 =>
    cond (decide (p1.2 < (List.length a0 : Int)))
      (gd (0 ≤ p1.2 ∧ p1.2 < (List.length a0 : Int)) <|
      bnd (xorI .u64 p1.1 (IntKind.wrap .u64 (UInt8.toNat (List.getD a0 (Int.toNat p1.2) 0) : Int))) fun x2 =>
      bnd (IntKind.wrap .u64 (x2 * (1099511628211 : Int))) fun x3 =>
      bnd (IntKind.wrap .i64 (p1.2 + (1 : Int))) fun x4 =>
      againp1 (x3, x4))
      (gd (0 ≤ (33 : Int)) <|
      bnd (shrI .u64 p1.1 (33 : Int)) fun x5 =>
      bnd (xorI .u64 p1.1 x5) fun x6 =>
      bnd (IntKind.wrap .u64 (x6 * (18397679294719823053 : Int))) fun x7 =>
      gd (0 ≤ (33 : Int)) <|
      bnd (shrI .u64 x7 (33 : Int)) fun x8 =>
      bnd (xorI .u64 x7 x8) fun x9 =>
      bnd (IntKind.wrap .u64 (x9 * (14181476777654086739 : Int))) fun x10 =>
      gd (0 ≤ (33 : Int)) <|
      bnd (shrI .u64 x10 (33 : Int)) fun x11 =>
      bnd (xorI .u64 x10 x11) fun x12 =>
      loopK (σ := Int × List (UInt8) × Int) (fun p13 againp13 =>
        cond (decide (p13.2.2 < (16 : Int)))
          (gd ((16 : Int) ≠ 0) <|
          bnd (Int.tmod p13.1 (16 : Int)) fun x14 =>
          gd (0 ≤ x14 ∧ x14 < (List.length ([48, 49, 50, 51, 52, 53, 54, 55, 56, 57, 97, 98, 99, 100, 101, 102] : List UInt8) : Int)) <|
          gdN (List.length [(List.getD ([48, 49, 50, 51, 52, 53, 54, 55, 56, 57, 97, 98, 99, 100, 101, 102] : List UInt8) (Int.toNat x14) 0)]) (List.length [(List.getD ([48, 49, 50, 51, 52, 53, 54, 55, 56, 57, 97, 98, 99, 100, 101, 102] : List UInt8) (Int.toNat x14) 0)]) <|
          gd (List.length [(List.getD ([48, 49, 50, 51, 52, 53, 54, 55, 56, 57, 97, 98, 99, 100, 101, 102] : List UInt8) (Int.toNat x14) 0)] + List.length p13.2.1 ≤ big) <|
          bnd ([(List.getD ([48, 49, 50, 51, 52, 53, 54, 55, 56, 57, 97, 98, 99, 100, 101, 102] : List UInt8) (Int.toNat x14) 0)] ++ p13.2.1) fun l15 =>
          gd ((16 : Int) ≠ 0) <|
          bnd (IntKind.wrap .u64 (Int.tdiv p13.1 (16 : Int))) fun x16 =>
          bnd (IntKind.wrap .i64 (p13.2.2 + (1 : Int))) fun x17 =>
          againp13 (x16, l15, x17))
          (some p13.2.1)) (x12, ([] : List (UInt8)), (0 : Int)))) ((14695981039346656037 : Int), (0 : Int))
def dc32 : DC :=
  (.seq (.reg [⟨none, (.mv (some 2) (.v (.str [])))⟩])
  (.seq (.reg [⟨none, (.mv (some 3) (.v (.int .u64 14695981039346656037)))⟩])
  (.seq (.seq (.reg [⟨none, (.mv (some 4) (.v (.int .i64 0)))⟩])
  (.block 0 (.loop ⟨[(3, (.lf (.int .u64))), (4, (.lf (.int .i64)))], [], [7, 8, 9, 10, 11, 12, 13, 14, 15, 16, 17, 18, 19].map .s⟩ (.seq (.seq (.reg [⟨none, (.mv (some 7) (.t 4))⟩,
    ⟨none, (.mv (some 8) (.t 0))⟩,
    ⟨none, (.ln 9 none (.t 8))⟩,
    ⟨none, (.ar 10 .lss (.t 7) (.t 9))⟩])
  (.cond (.t 10)
    .skip
    (.exit 0)))
  (.seq (.block 1 (.reg [⟨none, (.mv (some 13) (.t 3))⟩,
    ⟨none, (.mv (some 14) (.t 0))⟩,
    ⟨none, (.mv (some 15) (.t 4))⟩,
    ⟨none, (.ix 16 (.t 14) (.t 15))⟩,
    ⟨none, (.cvi 17 .u64 (.t 16))⟩,
    ⟨none, (.ar 18 .xor (.t 13) (.t 17))⟩,
    ⟨none, (.ar 19 .mul (.t 18) (.v (.int .u64 1099511628211)))⟩,
    ⟨none, (.mv (some 3) (.t 19))⟩]))
  (.reg [⟨none, (.mv (some 11) (.t 4))⟩,
    ⟨none, (.ar 12 .add (.t 11) (.v (.int .i64 1)))⟩,
    ⟨none, (.mv (some 4) (.t 12))⟩]))))))
  (.seq (.reg [⟨none, (.mv (some 20) (.t 3))⟩,
    ⟨none, (.mv (some 21) (.t 3))⟩,
    ⟨none, (.ar 22 .shr (.t 21) (.v (.int .u64 33)))⟩,
    ⟨none, (.ar 23 .xor (.t 20) (.t 22))⟩,
    ⟨none, (.mv (some 3) (.t 23))⟩])
  (.seq (.reg [⟨none, (.mv (some 24) (.t 3))⟩,
    ⟨none, (.ar 25 .mul (.t 24) (.v (.int .u64 18397679294719823053)))⟩,
    ⟨none, (.mv (some 3) (.t 25))⟩])
  (.seq (.reg [⟨none, (.mv (some 26) (.t 3))⟩,
    ⟨none, (.mv (some 27) (.t 3))⟩,
    ⟨none, (.ar 28 .shr (.t 27) (.v (.int .u64 33)))⟩,
    ⟨none, (.ar 29 .xor (.t 26) (.t 28))⟩,
    ⟨none, (.mv (some 3) (.t 29))⟩])
  (.seq (.reg [⟨none, (.mv (some 30) (.t 3))⟩,
    ⟨none, (.ar 31 .mul (.t 30) (.v (.int .u64 14181476777654086739)))⟩,
    ⟨none, (.mv (some 3) (.t 31))⟩])
  (.seq (.reg [⟨none, (.mv (some 32) (.t 3))⟩,
    ⟨none, (.mv (some 33) (.t 3))⟩,
    ⟨none, (.ar 34 .shr (.t 33) (.v (.int .u64 33)))⟩,
    ⟨none, (.ar 35 .xor (.t 32) (.t 34))⟩,
    ⟨none, (.mv (some 3) (.t 35))⟩])
  (.seq (.reg [⟨none, (.bs 36 5 none [])⟩,
    ⟨none, (.mv (some 5) (.t 36))⟩])
  (.seq (.seq (.reg [⟨none, (.mv (some 6) (.v (.int .i64 0)))⟩])
  (.block 2 (.loop ⟨[(3, (.lf (.int .u64))), (5, (.lf (.sl 5 .byte))), (6, (.lf (.int .i64)))], [], [37, 38, 39, 40, 41, 42, 43, 44, 45, 46, 47, 48].map .s ++ [44].map .f⟩ (.seq (.seq (.reg [⟨none, (.mv (some 37) (.t 6))⟩,
    ⟨none, (.ar 38 .lss (.t 37) (.v (.int .i64 16)))⟩])
  (.cond (.t 38)
    .skip
    (.exit 2)))
  (.seq (.block 3 (.seq (.reg [⟨none, (.mv (some 41) (.t 3))⟩,
    ⟨none, (.ar 42 .rem (.t 41) (.v (.int .u64 16)))⟩,
    ⟨none, (.ix 43 (.v (.str [48, 49, 50, 51, 52, 53, 54, 55, 56, 57, 97, 98, 99, 100, 101, 102])) (.t 42))⟩,
    ⟨none, (.bs 44 5 none [(.t 43)])⟩,
    ⟨none, (.mv (some 45) (.t 5))⟩,
    ⟨none, (.ap 46 5 (.t 44) (.t 45))⟩,
    ⟨none, (.mv (some 5) (.t 46))⟩])
  (.reg [⟨none, (.mv (some 47) (.t 3))⟩,
    ⟨none, (.ar 48 .quo (.t 47) (.v (.int .u64 16)))⟩,
    ⟨none, (.mv (some 3) (.t 48))⟩])))
  (.reg [⟨none, (.mv (some 39) (.t 6))⟩,
    ⟨none, (.ar 40 .add (.t 39) (.v (.int .i64 1)))⟩,
    ⟨none, (.mv (some 6) (.t 40))⟩]))))))
  (.seq (.reg [⟨none, (.mv (some 49) (.t 5))⟩,
    ⟨none, (.cvb 50 (.t 49))⟩,
    ⟨none, (.mv (some 2) (.t 50))⟩])
  .ret)))))))))))
noncomputable def ent32 : TEnt := ⟨32, [.str], .str, fun x => F32 x, .plain⟩
theorem eq32 (x : dens ent32.as) : ent32.F x = evF [] SHF dc32 [(.tmp 2)] ent32.as ent32.rs x := by kernel_rfl
/-- library/libraryref06.Join -/
noncomputable def F74 (a0 : List UInt8) (a1 : List UInt8) : Option (List UInt8) :=
  gd (List.length ([49] : List UInt8) + List.length a0 ≤ big) <|
  bnd (([49] : List UInt8) ++ a0) fun x1 =>
  gd (List.length x1 + List.length a1 ≤ big) <|
  bnd (x1 ++ a1) fun x2 =>
  bindO (F32 x2) fun y3 =>
  some y3
def dc74 : DC :=
  (.seq (.reg [⟨none, (.mv (some 4) (.v (.str [])))⟩])
  (.seq (.reg [⟨none, (.mv (some 5) (.t 0))⟩,
    ⟨none, (.ar 6 .add (.v (.str [49])) (.t 5))⟩,
    ⟨none, (.mv (some 7) (.t 1))⟩,
    ⟨none, (.ar 8 .add (.t 6) (.t 7))⟩,
    ⟨none, (.ca (some 9) 32 [(.t 8)])⟩,
    ⟨none, (.mv (some 4) (.t 9))⟩])
  .ret))
noncomputable def ent74 : TEnt := ⟨74, [.str, .str], .str, fun x => F74 x.1 x.2, .plain⟩
theorem eq74 (x : dens ent74.as) : ent74.F x = evF [ent32] SHF dc74 [(.tmp 4)] ent74.as ent74.rs x := by kernel_rfl
/-- library/digest.Right -/
noncomputable def F57 (a0 : List UInt8) : Option (Bool) :=
  cond (decide ((List.length a0 : Int) = (16 : Int)))
    (bindO (fTrim a0 ([48, 49, 50, 51, 52, 53, 54, 55, 56, 57, 97, 98, 99, 100, 101, 102] : List UInt8)) fun y1 =>
    some (decide (y1 = ([] : List UInt8))))
    (some false)
def dc57 : DC :=
  (.seq (.reg [⟨none, (.mv (some 2) (.v (.bool false)))⟩])
  (.seq (.reg [⟨none, (.mv (some 3) (.t 0))⟩,
    ⟨none, (.ln 4 none (.t 3))⟩,
    ⟨none, (.ar 5 .eql (.t 4) (.v (.int .i64 16)))⟩,
    ⟨none, (.mv (some 6) (.t 5))⟩,
    ⟨(some (6, true)), (.mv (some 7) (.t 0))⟩,
    ⟨(some (6, true)), (.ca (some 8) 49 [(.t 7), (.v (.str [48, 49, 50, 51, 52, 53, 54, 55, 56, 57, 97, 98, 99, 100, 101, 102]))])⟩,
    ⟨(some (6, true)), (.ar 9 .eql (.t 8) (.v (.str [])))⟩,
    ⟨none, (.pick 10 (.t 6) (.t 9) (.v (.bool false)))⟩,
    ⟨none, (.mv (some 2) (.t 10))⟩])
  .ret))
noncomputable def ent57 : TEnt := ⟨57, [.str], .bool, fun x => F57 x, .plain⟩
theorem eq57 (x : dens ent57.as) : ent57.F x = evF [entTrim] SHF dc57 [(.tmp 2)] ent57.as ent57.rs x := by kernel_rfl
/-- library/libraryref06.Right -/
noncomputable def F58 (a0 : List UInt8) : Option (Bool) :=
  cond (!decide ((List.length a0 : Int) = (16 : Int)))
    (some false)
    (loopK (σ := Int) (fun p1 againp1 =>
      cond (decide (p1 < (16 : Int)))
        (gd (0 ≤ p1 ∧ p1 < (List.length a0 : Int)) <|
        cond (decide ((48 : Int) ≤ (UInt8.toNat (List.getD a0 (Int.toNat p1) 0) : Int)))
          (gd (0 ≤ p1 ∧ p1 < (List.length a0 : Int)) <|
          cond (decide ((UInt8.toNat (List.getD a0 (Int.toNat p1) 0) : Int) ≤ (57 : Int)))
            (bnd (IntKind.wrap .i64 (p1 + (1 : Int))) fun x2 =>
            againp1 x2)
            (gd (0 ≤ p1 ∧ p1 < (List.length a0 : Int)) <|
            cond (decide ((97 : Int) ≤ (UInt8.toNat (List.getD a0 (Int.toNat p1) 0) : Int)))
              (gd (0 ≤ p1 ∧ p1 < (List.length a0 : Int)) <|
              cond (!(decide ((UInt8.toNat (List.getD a0 (Int.toNat p1) 0) : Int) ≤ (102 : Int))))
                (some false)
                (bnd (IntKind.wrap .i64 (p1 + (1 : Int))) fun x3 =>
                againp1 x3))
              (some false)))
          (gd (0 ≤ p1 ∧ p1 < (List.length a0 : Int)) <|
          cond (decide ((97 : Int) ≤ (UInt8.toNat (List.getD a0 (Int.toNat p1) 0) : Int)))
            (gd (0 ≤ p1 ∧ p1 < (List.length a0 : Int)) <|
            cond (!(decide ((UInt8.toNat (List.getD a0 (Int.toNat p1) 0) : Int) ≤ (102 : Int))))
              (some false)
              (bnd (IntKind.wrap .i64 (p1 + (1 : Int))) fun x4 =>
              againp1 x4))
            (some false)))
        (some true)) (0 : Int))
def dc58 : DC :=
  (.seq (.reg [⟨none, (.mv (some 2) (.v (.bool false)))⟩])
  (.seq (.seq (.reg [⟨none, (.mv (some 4) (.t 0))⟩,
    ⟨none, (.ln 5 none (.t 4))⟩,
    ⟨none, (.ar 6 .neq (.t 5) (.v (.int .i64 16)))⟩])
  (.cond (.t 6)
    (.seq (.reg [⟨none, (.mv (some 2) (.v (.bool false)))⟩])
  .ret)
    .skip))
  (.seq (.seq (.reg [⟨none, (.mv (some 3) (.v (.int .i64 0)))⟩])
  (.block 0 (.loop ⟨[(3, (.lf (.int .i64)))], [], [2, 7, 8, 9, 10, 11, 12, 13, 14, 15, 16, 17, 18, 19, 20, 21, 22, 23, 24, 25, 26, 27, 28, 29, 30, 31, 32, 33].map .s⟩ (.seq (.seq (.reg [⟨none, (.mv (some 7) (.t 3))⟩,
    ⟨none, (.ar 8 .lss (.t 7) (.v (.int .i64 16)))⟩])
  (.cond (.t 8)
    .skip
    (.exit 0)))
  (.seq (.block 1 (.seq (.reg [⟨none, (.mv (some 11) (.t 0))⟩,
    ⟨none, (.mv (some 12) (.t 3))⟩,
    ⟨none, (.ix 13 (.t 11) (.t 12))⟩,
    ⟨none, (.ar 14 .geq (.t 13) (.v (.int .u8 48)))⟩,
    ⟨none, (.mv (some 15) (.t 14))⟩,
    ⟨(some (15, true)), (.mv (some 16) (.t 0))⟩,
    ⟨(some (15, true)), (.mv (some 17) (.t 3))⟩,
    ⟨(some (15, true)), (.ix 18 (.t 16) (.t 17))⟩,
    ⟨(some (15, true)), (.ar 19 .leq (.t 18) (.v (.int .u8 57)))⟩,
    ⟨none, (.pick 20 (.t 15) (.t 19) (.v (.bool false)))⟩,
    ⟨none, (.mv (some 21) (.t 20))⟩,
    ⟨(some (21, false)), (.mv (some 22) (.t 0))⟩,
    ⟨(some (21, false)), (.mv (some 23) (.t 3))⟩,
    ⟨(some (21, false)), (.ix 24 (.t 22) (.t 23))⟩,
    ⟨(some (21, false)), (.ar 25 .geq (.t 24) (.v (.int .u8 97)))⟩,
    ⟨(some (21, false)), (.mv (some 26) (.t 25))⟩,
    ⟨(some (26, true)), (.mv (some 27) (.t 0))⟩,
    ⟨(some (26, true)), (.mv (some 28) (.t 3))⟩,
    ⟨(some (26, true)), (.ix 29 (.t 27) (.t 28))⟩,
    ⟨(some (26, true)), (.ar 30 .leq (.t 29) (.v (.int .u8 102)))⟩,
    ⟨(some (21, false)), (.pick 31 (.t 26) (.t 30) (.v (.bool false)))⟩,
    ⟨none, (.pick 32 (.t 21) (.v (.bool true)) (.t 31))⟩,
    ⟨none, (.un 33 .not (.t 32))⟩])
  (.cond (.t 33)
    (.seq (.reg [⟨none, (.mv (some 2) (.v (.bool false)))⟩])
  .ret)
    .skip)))
  (.reg [⟨none, (.mv (some 9) (.t 3))⟩,
    ⟨none, (.ar 10 .add (.t 9) (.v (.int .i64 1)))⟩,
    ⟨none, (.mv (some 3) (.t 10))⟩]))))))
  (.seq (.reg [⟨none, (.mv (some 2) (.v (.bool true)))⟩])
  .ret))))
noncomputable def ent58 : TEnt := ⟨58, [.str], .bool, fun x => F58 x, .plain⟩
theorem eq58 (x : dens ent58.as) : ent58.F x = evF [] SHF dc58 [(.tmp 2)] ent58.as ent58.rs x := by kernel_rfl
/-- library/digest.leaves -/
noncomputable def F52 (a0 : List (List UInt8)) : Option (List (List UInt8)) :=
  gd (0 ≤ (List.length a0 : Int) ∧ (List.length a0 : Int) = (List.length a0 : Int) ∧ (List.length a0 : Int) ≤ (big : Int)) <|
  loopK (σ := Int × List (List UInt8)) (fun p1 againp1 =>
    cond (decide (p1.1 < (List.length a0 : Int)))
      (gd (0 ≤ p1.1 ∧ p1.1 < (List.length a0 : Int)) <|
      bindO (F48 [([48] : List UInt8), (List.getD a0 (Int.toNat p1.1) [])]) fun y2 =>
      gd (0 ≤ p1.1 ∧ p1.1 < (List.length p1.2 : Int)) <|
      gd ((Int.toNat p1.1) < List.length p1.2) <|
      bnd (IntKind.wrap .i64 (p1.1 + (1 : Int))) fun x3 =>
      againp1 (x3, (List.set p1.2 (Int.toNat p1.1) y2)))
      (some p1.2)) ((0 : Int), (List.replicate (Int.toNat (List.length a0 : Int)) ([] : List UInt8) : List (List UInt8)))
def dc52 : DC :=
  (.seq (.reg [⟨none, (.nl 2 9)⟩])
  (.seq (.reg [⟨none, (.mv (some 6) (.t 0))⟩,
    ⟨none, (.ln 7 (some 9) (.t 6))⟩,
    ⟨none, (.mm 8 9 (.str []) (.t 7) (.t 7))⟩,
    ⟨none, (.mv (some 3) (.t 8))⟩])
  (.seq (.seq (.reg [⟨none, (.mv (some 9) (.t 0))⟩,
    ⟨none, (.ln 10 (some 9) (.t 9))⟩,
    ⟨none, (.mv (some 11) (.v (.int .i64 0)))⟩])
  (.block 0 (.loop ⟨[(11, (.lf (.int .i64)))], [(8, (.lf (.arr 1000009 .str)))], [4, 5, 12, 13, 14, 15, 16, 17, 18, 19, 20, 21, 22].map .s ++ [19].map .f⟩ (.seq (.reg [⟨none, (.ar 12 .lss (.t 11) (.t 10))⟩])
  (.seq (.cond (.t 12)
    .skip
    (.exit 0))
  (.seq (.block 1 (.seq (.reg [⟨none, (.mv (some 13) (.t 11))⟩,
    ⟨none, (.ea 14 9 (.t 9) (.t 11))⟩,
    ⟨none, (.ld 15 none (.t 14))⟩,
    ⟨none, (.mv (some 4) (.t 13))⟩,
    ⟨none, (.mv (some 5) (.t 15))⟩])
  (.reg [⟨none, (.mv (some 16) (.t 3))⟩,
    ⟨none, (.mv (some 17) (.t 4))⟩,
    ⟨none, (.mv (some 18) (.t 5))⟩,
    ⟨none, (.bs 19 9 none [(.v (.str [48])), (.t 18)])⟩,
    ⟨none, (.ca (some 20) 48 [(.t 19)])⟩,
    ⟨none, (.ea 21 9 (.t 16) (.t 17))⟩,
    ⟨none, (.st none (.t 21) (.t 20))⟩])))
  (.reg [⟨none, (.ar 22 .add (.t 11) (.v (.int .i64 1)))⟩,
    ⟨none, (.mv (some 11) (.t 22))⟩])))))))
  (.seq (.seq (.gh 8 [])
  (.reg [⟨none, (.mv (some 23) (.t 3))⟩,
    ⟨none, (.mv (some 2) (.t 23))⟩]))
  .ret))))
noncomputable def ent52 : TEnt := ⟨52, [(.sl 9 .str)], (.sl 9 .str), fun x => F52 x, .plain⟩
theorem eq52 (x : dens ent52.as) : ent52.F x = evF [ent48] SHF dc52 [(.tmp 2)] ent52.as ent52.rs x := by kernel_rfl
/-- library/digest.above -/
noncomputable def F53 (a0 : List (List UInt8)) : Option (List (List UInt8)) :=
  gdN (List.length ([] : List (List UInt8))) (List.length ([] : List (List UInt8))) <|
  loopK (σ := List (List UInt8) × Int) (fun p1 againp1 =>
    cond (decide (p1.2 < (List.length a0 : Int)))
      (bnd (IntKind.wrap .i64 (p1.2 + (1 : Int))) fun x2 =>
      cond (decide (x2 = (List.length a0 : Int)))
        (gd (0 ≤ p1.2 ∧ p1.2 < (List.length a0 : Int)) <|
        gdN (List.length p1.1) (List.length p1.1) <|
        gd (List.length p1.1 + List.length [(List.getD a0 (Int.toNat p1.2) [])] ≤ big) <|
        bnd (p1.1 ++ [(List.getD a0 (Int.toNat p1.2) [])]) fun l3 =>
        bnd (IntKind.wrap .i64 (p1.2 + (2 : Int))) fun x4 =>
        gdN (List.length l3) (List.length l3) <|
        againp1 (l3, x4))
        (gd (0 ≤ p1.2 ∧ p1.2 < (List.length a0 : Int)) <|
        bnd (IntKind.wrap .i64 (p1.2 + (1 : Int))) fun x5 =>
        gd (0 ≤ x5 ∧ x5 < (List.length a0 : Int)) <|
        bindO (F73 (List.getD a0 (Int.toNat p1.2) []) (List.getD a0 (Int.toNat x5) [])) fun y6 =>
        gdN (List.length p1.1) (List.length p1.1) <|
        gd (List.length p1.1 + List.length [y6] ≤ big) <|
        bnd (p1.1 ++ [y6]) fun l7 =>
        bnd (IntKind.wrap .i64 (p1.2 + (2 : Int))) fun x8 =>
        gdN (List.length l7) (List.length l7) <|
        againp1 (l7, x8)))
      (some p1.1)) (([] : List (List UInt8)), (0 : Int))
def dc53 : DC :=
  (.seq (.reg [⟨none, (.nl 2 9)⟩])
  (.seq (.reg [⟨none, (.nl 3 9)⟩])
  (.seq (.seq (.reg [⟨none, (.mv (some 4) (.v (.int .i64 0)))⟩])
  (.block 0 (.loop ⟨[(3, (.row 3 9 .str)), (4, (.lf (.int .i64)))], [], [5, 6, 7, 8, 9, 10, 11, 12, 13, 14, 15, 16, 17, 18, 19, 20, 21, 22, 23, 24, 25, 26, 27, 28, 29, 30, 31, 32, 33, 34, 35].map .s ++ [21, 34].map .f⟩ (.seq (.seq (.reg [⟨none, (.mv (some 5) (.t 4))⟩,
    ⟨none, (.mv (some 6) (.t 0))⟩,
    ⟨none, (.ln 7 (some 9) (.t 6))⟩,
    ⟨none, (.ar 8 .lss (.t 5) (.t 7))⟩])
  (.cond (.t 8)
    .skip
    (.exit 0)))
  (.seq (.block 1 (.seq (.reg [⟨none, (.mv (some 11) (.t 4))⟩,
    ⟨none, (.ar 12 .add (.t 11) (.v (.int .i64 1)))⟩,
    ⟨none, (.mv (some 13) (.t 0))⟩,
    ⟨none, (.ln 14 (some 9) (.t 13))⟩,
    ⟨none, (.ar 15 .eql (.t 12) (.t 14))⟩])
  (.cond (.t 15)
    (.reg [⟨none, (.mv (some 16) (.t 3))⟩,
    ⟨none, (.mv (some 17) (.t 0))⟩,
    ⟨none, (.mv (some 18) (.t 4))⟩,
    ⟨none, (.ea 19 9 (.t 17) (.t 18))⟩,
    ⟨none, (.ld 20 none (.t 19))⟩,
    ⟨none, (.bs 21 9 none [(.t 20)])⟩,
    ⟨none, (.ap 22 9 (.t 16) (.t 21))⟩,
    ⟨none, (.mv (some 3) (.t 22))⟩])
    (.reg [⟨none, (.mv (some 23) (.t 3))⟩,
    ⟨none, (.mv (some 24) (.t 0))⟩,
    ⟨none, (.mv (some 25) (.t 4))⟩,
    ⟨none, (.ea 26 9 (.t 24) (.t 25))⟩,
    ⟨none, (.ld 27 none (.t 26))⟩,
    ⟨none, (.mv (some 28) (.t 0))⟩,
    ⟨none, (.mv (some 29) (.t 4))⟩,
    ⟨none, (.ar 30 .add (.t 29) (.v (.int .i64 1)))⟩,
    ⟨none, (.ea 31 9 (.t 28) (.t 30))⟩,
    ⟨none, (.ld 32 none (.t 31))⟩,
    ⟨none, (.ca (some 33) 73 [(.t 27), (.t 32)])⟩,
    ⟨none, (.bs 34 9 none [(.t 33)])⟩,
    ⟨none, (.ap 35 9 (.t 23) (.t 34))⟩,
    ⟨none, (.mv (some 3) (.t 35))⟩]))))
  (.reg [⟨none, (.mv (some 9) (.t 4))⟩,
    ⟨none, (.ar 10 .add (.t 9) (.v (.int .i64 2)))⟩,
    ⟨none, (.mv (some 4) (.t 10))⟩]))))))
  (.seq (.reg [⟨none, (.mv (some 36) (.t 3))⟩,
    ⟨none, (.mv (some 2) (.t 36))⟩])
  .ret))))
noncomputable def ent53 : TEnt := ⟨53, [(.sl 9 .str)], (.sl 9 .str), fun x => F53 x, .plain⟩
theorem eq53 (x : dens ent53.as) : ent53.F x = evF [ent73] SHF dc53 [(.tmp 2)] ent53.as ent53.rs x := by kernel_rfl
/-- library/libraryref06.Leaves -/
noncomputable def F54 (a0 : List (List UInt8)) : Option (List (List UInt8)) :=
  gdN (List.length ([] : List (List UInt8))) (List.length ([] : List (List UInt8))) <|
  loopK (σ := List (List UInt8) × Int) (fun p1 againp1 =>
    cond (decide (p1.2 < (List.length a0 : Int)))
      (gd (0 ≤ p1.2 ∧ p1.2 < (List.length a0 : Int)) <|
      gd (List.length ([48] : List UInt8) + List.length (List.getD a0 (Int.toNat p1.2) []) ≤ big) <|
      bnd (([48] : List UInt8) ++ (List.getD a0 (Int.toNat p1.2) [])) fun x2 =>
      bindO (F32 x2) fun y3 =>
      gdN (List.length p1.1) (List.length p1.1) <|
      gd (List.length p1.1 + List.length [y3] ≤ big) <|
      bnd (p1.1 ++ [y3]) fun l4 =>
      bnd (IntKind.wrap .i64 (p1.2 + (1 : Int))) fun x5 =>
      gdN (List.length l4) (List.length l4) <|
      againp1 (l4, x5))
      (some p1.1)) (([] : List (List UInt8)), (0 : Int))
def dc54 : DC :=
  (.seq (.reg [⟨none, (.nl 2 9)⟩])
  (.seq (.reg [⟨none, (.bs 5 9 none [])⟩,
    ⟨none, (.mv (some 3) (.t 5))⟩])
  (.seq (.seq (.reg [⟨none, (.mv (some 4) (.v (.int .i64 0)))⟩])
  (.block 0 (.loop ⟨[(3, (.row 5 9 .str)), (4, (.lf (.int .i64)))], [], [6, 7, 8, 9, 10, 11, 12, 13, 14, 15, 16, 17, 18, 19, 20].map .s ++ [19].map .f⟩ (.seq (.seq (.reg [⟨none, (.mv (some 6) (.t 4))⟩,
    ⟨none, (.mv (some 7) (.t 0))⟩,
    ⟨none, (.ln 8 (some 9) (.t 7))⟩,
    ⟨none, (.ar 9 .lss (.t 6) (.t 8))⟩])
  (.cond (.t 9)
    .skip
    (.exit 0)))
  (.seq (.block 1 (.reg [⟨none, (.mv (some 12) (.t 3))⟩,
    ⟨none, (.mv (some 13) (.t 0))⟩,
    ⟨none, (.mv (some 14) (.t 4))⟩,
    ⟨none, (.ea 15 9 (.t 13) (.t 14))⟩,
    ⟨none, (.ld 16 none (.t 15))⟩,
    ⟨none, (.ar 17 .add (.v (.str [48])) (.t 16))⟩,
    ⟨none, (.ca (some 18) 32 [(.t 17)])⟩,
    ⟨none, (.bs 19 9 none [(.t 18)])⟩,
    ⟨none, (.ap 20 9 (.t 12) (.t 19))⟩,
    ⟨none, (.mv (some 3) (.t 20))⟩]))
  (.reg [⟨none, (.mv (some 10) (.t 4))⟩,
    ⟨none, (.ar 11 .add (.t 10) (.v (.int .i64 1)))⟩,
    ⟨none, (.mv (some 4) (.t 11))⟩]))))))
  (.seq (.reg [⟨none, (.mv (some 21) (.t 3))⟩,
    ⟨none, (.mv (some 2) (.t 21))⟩])
  .ret))))
noncomputable def ent54 : TEnt := ⟨54, [(.sl 9 .str)], (.sl 9 .str), fun x => F54 x, .plain⟩
theorem eq54 (x : dens ent54.as) : ent54.F x = evF [ent32] SHF dc54 [(.tmp 2)] ent54.as ent54.rs x := by kernel_rfl
/-- library/libraryref06.Next -/
noncomputable def F55 (a0 : List (List UInt8)) : Option (List (List UInt8)) :=
  gdN (List.length ([] : List (List UInt8))) (List.length ([] : List (List UInt8))) <|
  loopK (σ := List (List UInt8) × Int) (fun p1 againp1 =>
    cond (decide (p1.2 < (List.length a0 : Int)))
      (bnd (IntKind.wrap .i64 (p1.2 + (1 : Int))) fun x2 =>
      cond (decide (x2 < (List.length a0 : Int)))
        (gd (0 ≤ p1.2 ∧ p1.2 < (List.length a0 : Int)) <|
        bnd (IntKind.wrap .i64 (p1.2 + (1 : Int))) fun x3 =>
        gd (0 ≤ x3 ∧ x3 < (List.length a0 : Int)) <|
        bindO (F74 (List.getD a0 (Int.toNat p1.2) []) (List.getD a0 (Int.toNat x3) [])) fun y4 =>
        gdN (List.length p1.1) (List.length p1.1) <|
        gd (List.length p1.1 + List.length [y4] ≤ big) <|
        bnd (p1.1 ++ [y4]) fun l5 =>
        bnd (IntKind.wrap .i64 (p1.2 + (2 : Int))) fun x6 =>
        gdN (List.length l5) (List.length l5) <|
        againp1 (l5, x6))
        (gd (0 ≤ p1.2 ∧ p1.2 < (List.length a0 : Int)) <|
        gdN (List.length p1.1) (List.length p1.1) <|
        gd (List.length p1.1 + List.length [(List.getD a0 (Int.toNat p1.2) [])] ≤ big) <|
        bnd (p1.1 ++ [(List.getD a0 (Int.toNat p1.2) [])]) fun l7 =>
        bnd (IntKind.wrap .i64 (p1.2 + (2 : Int))) fun x8 =>
        gdN (List.length l7) (List.length l7) <|
        againp1 (l7, x8)))
      (some p1.1)) (([] : List (List UInt8)), (0 : Int))
def dc55 : DC :=
  (.seq (.reg [⟨none, (.nl 2 9)⟩])
  (.seq (.reg [⟨none, (.bs 5 9 none [])⟩,
    ⟨none, (.mv (some 3) (.t 5))⟩])
  (.seq (.seq (.reg [⟨none, (.mv (some 4) (.v (.int .i64 0)))⟩])
  (.block 0 (.loop ⟨[(3, (.row 5 9 .str)), (4, (.lf (.int .i64)))], [], [6, 7, 8, 9, 10, 11, 12, 13, 14, 15, 16, 17, 18, 19, 20, 21, 22, 23, 24, 25, 26, 27, 28, 29, 30, 31, 32, 33, 34, 35, 36].map .s ++ [28, 35].map .f⟩ (.seq (.seq (.reg [⟨none, (.mv (some 6) (.t 4))⟩,
    ⟨none, (.mv (some 7) (.t 0))⟩,
    ⟨none, (.ln 8 (some 9) (.t 7))⟩,
    ⟨none, (.ar 9 .lss (.t 6) (.t 8))⟩])
  (.cond (.t 9)
    .skip
    (.exit 0)))
  (.seq (.block 1 (.seq (.reg [⟨none, (.mv (some 12) (.t 4))⟩,
    ⟨none, (.ar 13 .add (.t 12) (.v (.int .i64 1)))⟩,
    ⟨none, (.mv (some 14) (.t 0))⟩,
    ⟨none, (.ln 15 (some 9) (.t 14))⟩,
    ⟨none, (.ar 16 .lss (.t 13) (.t 15))⟩])
  (.cond (.t 16)
    (.reg [⟨none, (.mv (some 17) (.t 3))⟩,
    ⟨none, (.mv (some 18) (.t 0))⟩,
    ⟨none, (.mv (some 19) (.t 4))⟩,
    ⟨none, (.ea 20 9 (.t 18) (.t 19))⟩,
    ⟨none, (.ld 21 none (.t 20))⟩,
    ⟨none, (.mv (some 22) (.t 0))⟩,
    ⟨none, (.mv (some 23) (.t 4))⟩,
    ⟨none, (.ar 24 .add (.t 23) (.v (.int .i64 1)))⟩,
    ⟨none, (.ea 25 9 (.t 22) (.t 24))⟩,
    ⟨none, (.ld 26 none (.t 25))⟩,
    ⟨none, (.ca (some 27) 74 [(.t 21), (.t 26)])⟩,
    ⟨none, (.bs 28 9 none [(.t 27)])⟩,
    ⟨none, (.ap 29 9 (.t 17) (.t 28))⟩,
    ⟨none, (.mv (some 3) (.t 29))⟩])
    (.reg [⟨none, (.mv (some 30) (.t 3))⟩,
    ⟨none, (.mv (some 31) (.t 0))⟩,
    ⟨none, (.mv (some 32) (.t 4))⟩,
    ⟨none, (.ea 33 9 (.t 31) (.t 32))⟩,
    ⟨none, (.ld 34 none (.t 33))⟩,
    ⟨none, (.bs 35 9 none [(.t 34)])⟩,
    ⟨none, (.ap 36 9 (.t 30) (.t 35))⟩,
    ⟨none, (.mv (some 3) (.t 36))⟩]))))
  (.reg [⟨none, (.mv (some 10) (.t 4))⟩,
    ⟨none, (.ar 11 .add (.t 10) (.v (.int .i64 2)))⟩,
    ⟨none, (.mv (some 4) (.t 11))⟩]))))))
  (.seq (.reg [⟨none, (.mv (some 37) (.t 3))⟩,
    ⟨none, (.mv (some 2) (.t 37))⟩])
  .ret))))
noncomputable def ent55 : TEnt := ⟨55, [(.sl 9 .str)], (.sl 9 .str), fun x => F55 x, .plain⟩
theorem eq55 (x : dens ent55.as) : ent55.F x = evF [ent74] SHF dc55 [(.tmp 2)] ent55.as ent55.rs x := by kernel_rfl
/-- library/digest.Root -/
noncomputable def F31 (a0 : List (List UInt8)) : Option (List UInt8) :=
  cond (decide ((List.length a0 : Int) = (0 : Int)))
    (bindO (F27 ([] : List UInt8)) fun y1 =>
    some y1)
    (bindO (F52 a0) fun y2 =>
    loopK (σ := List (List UInt8)) (fun p3 againp3 =>
      cond (decide ((1 : Int) < (List.length p3 : Int)))
        (bindO (F53 p3) fun y4 =>
        againp3 y4)
        (gd (0 ≤ (0 : Int) ∧ (0 : Int) < (List.length p3 : Int)) <|
        some (List.getD p3 (Int.toNat (0 : Int)) []))) y2)
def dc31 : DC :=
  (.seq (.reg [⟨none, (.mv (some 2) (.v (.str [])))⟩])
  (.seq (.seq (.reg [⟨none, (.mv (some 4) (.t 0))⟩,
    ⟨none, (.ln 5 (some 9) (.t 4))⟩,
    ⟨none, (.ar 6 .eql (.t 5) (.v (.int .i64 0)))⟩])
  (.cond (.t 6)
    (.seq (.reg [⟨none, (.ca (some 7) 27 [(.v (.str []))])⟩,
    ⟨none, (.mv (some 2) (.t 7))⟩])
  .ret)
    .skip))
  (.seq (.reg [⟨none, (.mv (some 8) (.t 0))⟩,
    ⟨none, (.ca (some 9) 52 [(.t 8)])⟩,
    ⟨none, (.mv (some 3) (.t 9))⟩])
  (.seq (.block 0 (.loop ⟨[(3, (.lf (.sl 9 .str)))], [], [10, 11, 12, 13, 14].map .s⟩ (.seq (.seq (.reg [⟨none, (.mv (some 10) (.t 3))⟩,
    ⟨none, (.ln 11 (some 9) (.t 10))⟩,
    ⟨none, (.ar 12 .gtr (.t 11) (.v (.int .i64 1)))⟩])
  (.cond (.t 12)
    .skip
    (.exit 0)))
  (.block 1 (.reg [⟨none, (.mv (some 13) (.t 3))⟩,
    ⟨none, (.ca (some 14) 53 [(.t 13)])⟩,
    ⟨none, (.mv (some 3) (.t 14))⟩])))))
  (.seq (.reg [⟨none, (.mv (some 15) (.t 3))⟩,
    ⟨none, (.ea 16 9 (.t 15) (.v (.int .i64 0)))⟩,
    ⟨none, (.ld 17 none (.t 16))⟩,
    ⟨none, (.mv (some 2) (.t 17))⟩])
  .ret)))))
noncomputable def ent31 : TEnt := ⟨31, [(.sl 9 .str)], .str, fun x => F31 x, .plain⟩
theorem eq31 (x : dens ent31.as) : ent31.F x = evF [ent27, ent52, ent53] SHF dc31 [(.tmp 2)] ent31.as ent31.rs x := by kernel_rfl
/-- library/libraryref06.Root -/
noncomputable def F33 (a0 : List (List UInt8)) : Option (List UInt8) :=
  cond (decide ((List.length a0 : Int) = (0 : Int)))
    (bindO (F32 ([] : List UInt8)) fun y1 =>
    some y1)
    (bindO (F54 a0) fun y2 =>
    loopK (σ := List (List UInt8)) (fun p3 againp3 =>
      cond (decide ((1 : Int) < (List.length p3 : Int)))
        (bindO (F55 p3) fun y4 =>
        againp3 y4)
        (gd (0 ≤ (0 : Int) ∧ (0 : Int) < (List.length p3 : Int)) <|
        some (List.getD p3 (Int.toNat (0 : Int)) []))) y2)
def dc33 : DC :=
  (.seq (.reg [⟨none, (.mv (some 2) (.v (.str [])))⟩])
  (.seq (.seq (.reg [⟨none, (.mv (some 4) (.t 0))⟩,
    ⟨none, (.ln 5 (some 9) (.t 4))⟩,
    ⟨none, (.ar 6 .eql (.t 5) (.v (.int .i64 0)))⟩])
  (.cond (.t 6)
    (.seq (.reg [⟨none, (.ca (some 7) 32 [(.v (.str []))])⟩,
    ⟨none, (.mv (some 2) (.t 7))⟩])
  .ret)
    .skip))
  (.seq (.reg [⟨none, (.mv (some 8) (.t 0))⟩,
    ⟨none, (.ca (some 9) 54 [(.t 8)])⟩,
    ⟨none, (.mv (some 3) (.t 9))⟩])
  (.seq (.block 0 (.loop ⟨[(3, (.lf (.sl 9 .str)))], [], [10, 11, 12, 13, 14].map .s⟩ (.seq (.seq (.reg [⟨none, (.mv (some 10) (.t 3))⟩,
    ⟨none, (.ln 11 (some 9) (.t 10))⟩,
    ⟨none, (.ar 12 .gtr (.t 11) (.v (.int .i64 1)))⟩])
  (.cond (.t 12)
    .skip
    (.exit 0)))
  (.block 1 (.reg [⟨none, (.mv (some 13) (.t 3))⟩,
    ⟨none, (.ca (some 14) 55 [(.t 13)])⟩,
    ⟨none, (.mv (some 3) (.t 14))⟩])))))
  (.seq (.reg [⟨none, (.mv (some 15) (.t 3))⟩,
    ⟨none, (.ea 16 9 (.t 15) (.v (.int .i64 0)))⟩,
    ⟨none, (.ld 17 none (.t 16))⟩,
    ⟨none, (.mv (some 2) (.t 17))⟩])
  .ret)))))
noncomputable def ent33 : TEnt := ⟨33, [(.sl 9 .str)], .str, fun x => F33 x, .plain⟩
theorem eq33 (x : dens ent33.as) : ent33.F x = evF [ent32, ent54, ent55] SHF dc33 [(.tmp 2)] ent33.as ent33.rs x := by kernel_rfl
/-- library/bag.path -/
noncomputable def F29 (a0 : List UInt8) : Option (Bool) :=
  cond (decide ((List.length a0 : Int) < (1 : Int)))
    (some false)
    (cond (decide ((60 : Int) < (List.length a0 : Int)))
      (some false)
      (bindO (fTrim a0 ([97, 98, 99, 100, 101, 102, 103, 104, 105, 106, 107, 108, 109, 110, 111, 112, 113, 114, 115, 116, 117, 118, 119, 120, 121, 122, 48, 49, 50, 51, 52, 53, 54, 55, 56, 57, 46, 95, 45, 47] : List UInt8)) fun y1 =>
      cond (!decide (y1 = ([] : List UInt8)))
        (some false)
        (bindO (fSplit a0 ([47] : List UInt8)) fun y2 =>
        loopK (σ := Int) (fun p3 againp3 =>
          cond (decide (p3 < (List.length y2 : Int)))
            (gd (0 ≤ p3 ∧ p3 < (List.length y2 : Int)) <|
            cond (decide ((List.getD y2 (Int.toNat p3) []) = ([] : List UInt8)))
              (some false)
              (cond (decide ((List.getD y2 (Int.toNat p3) []) = ([46] : List UInt8)))
                (some false)
                (cond (decide ((List.getD y2 (Int.toNat p3) []) = ([46, 46] : List UInt8)))
                  (some false)
                  (bnd (IntKind.wrap .i64 (p3 + (1 : Int))) fun x4 =>
                  againp3 x4))))
            (some true)) (0 : Int))))
def dc29 : DC :=
  (.seq (.reg [⟨none, (.mv (some 2) (.v (.bool false)))⟩])
  (.seq (.seq (.reg [⟨none, (.mv (some 5) (.t 0))⟩,
    ⟨none, (.ln 6 none (.t 5))⟩,
    ⟨none, (.ar 7 .lss (.t 6) (.v (.int .i64 1)))⟩,
    ⟨none, (.mv (some 8) (.t 7))⟩,
    ⟨(some (8, false)), (.mv (some 9) (.t 0))⟩,
    ⟨(some (8, false)), (.ln 10 none (.t 9))⟩,
    ⟨(some (8, false)), (.ar 11 .gtr (.t 10) (.v (.int .i64 60)))⟩,
    ⟨none, (.pick 12 (.t 8) (.v (.bool true)) (.t 11))⟩,
    ⟨none, (.mv (some 13) (.t 12))⟩,
    ⟨(some (13, false)), (.mv (some 14) (.t 0))⟩,
    ⟨(some (13, false)), (.ca (some 15) 49 [(.t 14), (.v (.str [97, 98, 99, 100, 101, 102, 103, 104, 105, 106, 107, 108, 109, 110, 111, 112, 113, 114, 115, 116, 117, 118, 119, 120, 121, 122, 48, 49, 50, 51, 52, 53, 54, 55, 56, 57, 46, 95, 45, 47]))])⟩,
    ⟨(some (13, false)), (.ar 16 .neq (.t 15) (.v (.str [])))⟩,
    ⟨none, (.pick 17 (.t 13) (.v (.bool true)) (.t 16))⟩])
  (.cond (.t 17)
    (.seq (.reg [⟨none, (.mv (some 2) (.v (.bool false)))⟩])
  .ret)
    .skip))
  (.seq (.seq (.reg [⟨none, (.mv (some 18) (.t 0))⟩,
    ⟨none, (.ca (some 19) 50 [(.t 18), (.v (.str [47]))])⟩,
    ⟨none, (.ln 20 (some 9) (.t 19))⟩,
    ⟨none, (.mv (some 21) (.v (.int .i64 0)))⟩])
  (.block 0 (.loop ⟨[(21, (.lf (.int .i64)))], [], [2, 4, 22, 23, 24, 25, 26, 27, 28, 29, 30, 31, 32, 33, 34, 35].map .s⟩ (.seq (.reg [⟨none, (.ar 22 .lss (.t 21) (.t 20))⟩])
  (.seq (.cond (.t 22)
    .skip
    (.exit 0))
  (.seq (.block 1 (.seq (.reg [⟨none, (.ea 23 9 (.t 19) (.t 21))⟩,
    ⟨none, (.ld 24 none (.t 23))⟩,
    ⟨none, (.mv (some 4) (.t 24))⟩])
  (.seq (.reg [⟨none, (.mv (some 25) (.t 4))⟩,
    ⟨none, (.ar 26 .eql (.t 25) (.v (.str [])))⟩,
    ⟨none, (.mv (some 27) (.t 26))⟩,
    ⟨(some (27, false)), (.mv (some 28) (.t 4))⟩,
    ⟨(some (27, false)), (.ar 29 .eql (.t 28) (.v (.str [46])))⟩,
    ⟨none, (.pick 30 (.t 27) (.v (.bool true)) (.t 29))⟩,
    ⟨none, (.mv (some 31) (.t 30))⟩,
    ⟨(some (31, false)), (.mv (some 32) (.t 4))⟩,
    ⟨(some (31, false)), (.ar 33 .eql (.t 32) (.v (.str [46, 46])))⟩,
    ⟨none, (.pick 34 (.t 31) (.v (.bool true)) (.t 33))⟩])
  (.cond (.t 34)
    (.seq (.reg [⟨none, (.mv (some 2) (.v (.bool false)))⟩])
  .ret)
    .skip))))
  (.reg [⟨none, (.ar 35 .add (.t 21) (.v (.int .i64 1)))⟩,
    ⟨none, (.mv (some 21) (.t 35))⟩])))))))
  (.seq (.reg [⟨none, (.mv (some 2) (.v (.bool true)))⟩])
  .ret))))
noncomputable def ent29 : TEnt := ⟨29, [.str], .bool, fun x => F29 x, .plain⟩
theorem eq29 (x : dens ent29.as) : ent29.F x = evF [entTrim, entSplit] SHF dc29 [(.tmp 2)] ent29.as ent29.rs x := by kernel_rfl
/-- library/bag.Right -/
noncomputable def F13 (a0 : List (List UInt8 × List UInt8)) : Option (Int) :=
  cond (decide ((List.length a0 : Int) = (0 : Int)))
    (some (8 : Int))
    (cond (decide ((16 : Int) < (List.length a0 : Int)))
      (some (13 : Int))
      (loopK (σ := Int) (fun p1 againp1 =>
        cond (decide (p1 < (List.length a0 : Int)))
          (gd (0 ≤ p1 ∧ p1 < (List.length a0 : Int)) <|
          bindO (F29 ((List.getD a0 (Int.toNat p1) ([], [])).1)) fun y2 =>
          cond (!y2)
            (some (3 : Int))
            (jn (σ := Bool) (fun nextj3 =>
              cond (decide ((0 : Int) < p1))
                (bnd (IntKind.wrap .i64 (p1 - (1 : Int))) fun x4 =>
                gd (0 ≤ x4 ∧ x4 < (List.length a0 : Int)) <|
                nextj3 (Op.bytesLess ((List.getD a0 (Int.toNat p1) ([], [])).1) ((List.getD a0 (Int.toNat x4) ([], [])).1) || decide ((List.getD a0 (Int.toNat p1) ([], [])).1 = (List.getD a0 (Int.toNat x4) ([], [])).1)))
                (nextj3 false)) fun j3 =>
            cond (j3)
              (some (7 : Int))
              (cond (decide ((2000 : Int) < (List.length ((List.getD a0 (Int.toNat p1) ([], [])).2) : Int)))
                (some (4 : Int))
                (bnd (IntKind.wrap .i64 (p1 + (1 : Int))) fun x5 =>
                againp1 x5))))
          (some (0 : Int))) (0 : Int)))
def dc13 : DC :=
  (.seq (.reg [⟨none, (.mv (some 2) (.v (.int .i64 0)))⟩])
  (.seq (.seq (.reg [⟨none, (.mv (some 5) (.t 0))⟩,
    ⟨none, (.ln 6 (some 39) (.t 5))⟩,
    ⟨none, (.ar 7 .eql (.t 6) (.v (.int .i64 0)))⟩])
  (.cond (.t 7)
    (.seq (.reg [⟨none, (.mv (some 2) (.v (.int .i64 8)))⟩])
  .ret)
    .skip))
  (.seq (.seq (.reg [⟨none, (.mv (some 8) (.t 0))⟩,
    ⟨none, (.ln 9 (some 39) (.t 8))⟩,
    ⟨none, (.ar 10 .gtr (.t 9) (.v (.int .i64 16)))⟩])
  (.cond (.t 10)
    (.seq (.reg [⟨none, (.mv (some 2) (.v (.int .i64 13)))⟩])
  .ret)
    .skip))
  (.seq (.seq (.reg [⟨none, (.mv (some 11) (.t 0))⟩,
    ⟨none, (.ln 12 (some 39) (.t 11))⟩,
    ⟨none, (.mv (some 13) (.v (.int .i64 0)))⟩])
  (.block 0 (.loop ⟨[(13, (.lf (.int .i64)))], [], [2, 3, 4, 14, 15, 16, 17, 18, 19, 20, 21, 22, 23, 24, 25, 26, 27, 28, 29, 30, 31, 32, 33, 34, 35, 36, 37, 38, 39, 40, 41, 42].map .s ++ [4].map .b⟩ (.seq (.reg [⟨none, (.ar 14 .lss (.t 13) (.t 12))⟩])
  (.seq (.cond (.t 14)
    .skip
    (.exit 0))
  (.seq (.block 1 (.seq (.reg [⟨none, (.mv (some 15) (.t 13))⟩,
    ⟨none, (.ea 16 39 (.t 11) (.t 13))⟩,
    ⟨none, (.ld 17 (some 39) (.t 16))⟩,
    ⟨none, (.al 4 (.agg 39 [(.str []), (.str [])]))⟩,
    ⟨none, (.mv (some 3) (.t 15))⟩,
    ⟨none, (.st (some 39) (.t 4) (.t 17))⟩])
  (.block 2 (.seq (.reg [⟨none, (.fa 19 39 0 (.t 4))⟩,
    ⟨none, (.ld 20 none (.t 19))⟩,
    ⟨none, (.ca (some 21) 29 [(.t 20)])⟩,
    ⟨none, (.un 22 .not (.t 21))⟩,
    ⟨none, (.mv (some 18) (.t 22))⟩])
  (.cond (.t 18)
    (.seq (.reg [⟨none, (.mv (some 2) (.v (.int .i64 3)))⟩])
  .ret)
    (.jn ⟨[(23, (.lf .bool))], [], [24, 25, 26, 27, 28, 29, 30, 31, 32, 33, 34, 35, 36].map .s⟩ (.reg [⟨none, (.mv (some 24) (.t 3))⟩,
    ⟨none, (.ar 25 .gtr (.t 24) (.v (.int .i64 0)))⟩,
    ⟨none, (.mv (some 26) (.t 25))⟩,
    ⟨(some (26, true)), (.fa 27 39 0 (.t 4))⟩,
    ⟨(some (26, true)), (.ld 28 none (.t 27))⟩,
    ⟨(some (26, true)), (.mv (some 29) (.t 0))⟩,
    ⟨(some (26, true)), (.mv (some 30) (.t 3))⟩,
    ⟨(some (26, true)), (.ar 31 .sub (.t 30) (.v (.int .i64 1)))⟩,
    ⟨(some (26, true)), (.ea 32 39 (.t 29) (.t 31))⟩,
    ⟨(some (26, true)), (.fa 33 39 0 (.t 32))⟩,
    ⟨(some (26, true)), (.ld 34 none (.t 33))⟩,
    ⟨(some (26, true)), (.ar 35 .leq (.t 28) (.t 34))⟩,
    ⟨none, (.pick 36 (.t 26) (.t 35) (.v (.bool false)))⟩,
    ⟨none, (.mv (some 23) (.t 36))⟩])
  (.cond (.t 23)
    (.seq (.reg [⟨none, (.mv (some 2) (.v (.int .i64 7)))⟩])
  .ret)
    (.seq (.reg [⟨none, (.fa 38 39 1 (.t 4))⟩,
    ⟨none, (.ld 39 none (.t 38))⟩,
    ⟨none, (.ln 40 none (.t 39))⟩,
    ⟨none, (.ar 41 .gtr (.t 40) (.v (.int .i64 2000)))⟩,
    ⟨none, (.mv (some 37) (.t 41))⟩])
  (.cond (.t 37)
    (.seq (.reg [⟨none, (.mv (some 2) (.v (.int .i64 4)))⟩])
  .ret)
    .skip)))))))))
  (.reg [⟨none, (.ar 42 .add (.t 13) (.v (.int .i64 1)))⟩,
    ⟨none, (.mv (some 13) (.t 42))⟩])))))))
  (.seq (.reg [⟨none, (.mv (some 2) (.v (.int .i64 0)))⟩])
  .ret)))))
noncomputable def ent13 : TEnt := ⟨13, [(.sl 39 (.agg 39 (.pair .str .str)))], (.int .i64), fun x => F13 x, .plain⟩
theorem eq13 (x : dens ent13.as) : ent13.F x = evF [ent29] SHF dc13 [(.tmp 2)] ent13.as ent13.rs x := by kernel_rfl
/-- library/bag.Root -/
noncomputable def F15 (a0 : List (List UInt8 × List UInt8)) : Option (List UInt8) :=
  gdN (List.length ([] : List (List UInt8))) (List.length ([] : List (List UInt8))) <|
  loopK (σ := List (List UInt8) × Int) (fun p1 againp1 =>
    cond (decide (p1.2 < (List.length a0 : Int)))
      (gd (0 ≤ p1.2 ∧ p1.2 < (List.length a0 : Int)) <|
      gd (List.length ((List.getD a0 (Int.toNat p1.2) ([], [])).1) + List.length ([0] : List UInt8) ≤ big) <|
      bnd (((List.getD a0 (Int.toNat p1.2) ([], [])).1) ++ ([0] : List UInt8)) fun x2 =>
      gd (List.length x2 + List.length ((List.getD a0 (Int.toNat p1.2) ([], [])).2) ≤ big) <|
      bnd (x2 ++ ((List.getD a0 (Int.toNat p1.2) ([], [])).2)) fun x3 =>
      bindO (F27 x3) fun y4 =>
      gdN (List.length p1.1) (List.length p1.1) <|
      gd (List.length p1.1 + List.length [y4] ≤ big) <|
      bnd (p1.1 ++ [y4]) fun l5 =>
      bnd (IntKind.wrap .i64 (p1.2 + (1 : Int))) fun x6 =>
      gdN (List.length l5) (List.length l5) <|
      againp1 (l5, x6))
      (bindO (F31 p1.1) fun y7 =>
      some y7)) (([] : List (List UInt8)), (0 : Int))
def dc15 : DC :=
  (.seq (.reg [⟨none, (.mv (some 2) (.v (.str [])))⟩])
  (.seq (.reg [⟨none, (.nl 3 9)⟩])
  (.seq (.seq (.reg [⟨none, (.mv (some 6) (.t 0))⟩,
    ⟨none, (.ln 7 (some 39) (.t 6))⟩,
    ⟨none, (.mv (some 8) (.v (.int .i64 0)))⟩])
  (.block 0 (.loop ⟨[(3, (.row 3 9 .str)), (8, (.lf (.int .i64)))], [], [5, 9, 10, 11, 12, 13, 14, 15, 16, 17, 18, 19, 20, 21, 22].map .s ++ [5].map .b ++ [20].map .f⟩ (.seq (.reg [⟨none, (.ar 9 .lss (.t 8) (.t 7))⟩])
  (.seq (.cond (.t 9)
    .skip
    (.exit 0))
  (.seq (.block 1 (.seq (.reg [⟨none, (.ea 10 39 (.t 6) (.t 8))⟩,
    ⟨none, (.ld 11 (some 39) (.t 10))⟩,
    ⟨none, (.al 5 (.agg 39 [(.str []), (.str [])]))⟩,
    ⟨none, (.st (some 39) (.t 5) (.t 11))⟩])
  (.reg [⟨none, (.mv (some 12) (.t 3))⟩,
    ⟨none, (.fa 13 39 0 (.t 5))⟩,
    ⟨none, (.ld 14 none (.t 13))⟩,
    ⟨none, (.ar 15 .add (.t 14) (.v (.str [0])))⟩,
    ⟨none, (.fa 16 39 1 (.t 5))⟩,
    ⟨none, (.ld 17 none (.t 16))⟩,
    ⟨none, (.ar 18 .add (.t 15) (.t 17))⟩,
    ⟨none, (.ca (some 19) 27 [(.t 18)])⟩,
    ⟨none, (.bs 20 9 none [(.t 19)])⟩,
    ⟨none, (.ap 21 9 (.t 12) (.t 20))⟩,
    ⟨none, (.mv (some 3) (.t 21))⟩])))
  (.reg [⟨none, (.ar 22 .add (.t 8) (.v (.int .i64 1)))⟩,
    ⟨none, (.mv (some 8) (.t 22))⟩])))))))
  (.seq (.reg [⟨none, (.mv (some 23) (.t 3))⟩,
    ⟨none, (.ca (some 24) 31 [(.t 23)])⟩,
    ⟨none, (.mv (some 2) (.t 24))⟩])
  .ret))))
noncomputable def ent15 : TEnt := ⟨15, [(.sl 39 (.agg 39 (.pair .str .str)))], .str, fun x => F15 x, .plain⟩
theorem eq15 (x : dens ent15.as) : ent15.F x = evF [ent27, ent31] SHF dc15 [(.tmp 2)] ent15.as ent15.rs x := by kernel_rfl
/-- library/bag.Manifest -/
noncomputable def F17 (a0 : List (List UInt8 × List UInt8)) : Option (List UInt8 × Int) :=
  bindO (F13 a0) fun y1 =>
  cond (!decide (y1 = (0 : Int)))
    (some (([] : List UInt8), y1))
    (gdN (0) (List.length ([] : List UInt8)) <|
    loopK (σ := Int × List UInt8) (fun p2 againp2 =>
      cond (decide (p2.1 < (List.length a0 : Int)))
        (gd (0 ≤ p2.1 ∧ p2.1 < (List.length a0 : Int)) <|
        bindO (F27 ((List.getD a0 (Int.toNat p2.1) ([], [])).2)) fun y3 =>
        gd (List.length y3 + List.length ([32] : List UInt8) ≤ big) <|
        bnd (y3 ++ ([32] : List UInt8)) fun x4 =>
        gd (List.length x4 + List.length ((List.getD a0 (Int.toNat p2.1) ([], [])).1) ≤ big) <|
        bnd (x4 ++ ((List.getD a0 (Int.toNat p2.1) ([], [])).1)) fun x5 =>
        gd (List.length x5 + List.length ([10] : List UInt8) ≤ big) <|
        bnd (x5 ++ ([10] : List UInt8)) fun x6 =>
        gdN (List.length p2.2) (List.length p2.2) <|
        gd (List.length p2.2 + List.length x6 ≤ big) <|
        bnd (p2.2 ++ x6) fun b7 =>
        bnd (IntKind.wrap .i64 (p2.1 + (1 : Int))) fun x8 =>
        gdN (List.length b7) (List.length b7) <|
        againp2 (x8, b7))
        (gdN (List.length p2.2) (List.length p2.2) <|
        some (p2.2, (0 : Int)))) ((0 : Int), ([] : List UInt8)))
def dc17 : DC :=
  (.seq (.reg [⟨none, (.mv (some 2) (.v (.str [])))⟩,
    ⟨none, (.mv (some 3) (.v (.int .i64 0)))⟩])
  (.seq (.seq (.reg [⟨none, (.mv (some 8) (.t 0))⟩,
    ⟨none, (.ca (some 9) 13 [(.t 8)])⟩,
    ⟨none, (.mv (some 4) (.t 9))⟩])
  (.seq (.reg [⟨none, (.mv (some 10) (.t 4))⟩,
    ⟨none, (.ar 11 .neq (.t 10) (.v (.int .i64 0)))⟩])
  (.cond (.t 11)
    (.seq (.reg [⟨none, (.mv (some 12) (.t 4))⟩,
    ⟨none, (.mv (some 2) (.v (.str [])))⟩,
    ⟨none, (.mv (some 3) (.t 12))⟩])
  .ret)
    .skip)))
  (.seq (.reg [⟨none, (.ab 5 50 5)⟩])
  (.seq (.seq (.reg [⟨none, (.mv (some 13) (.t 0))⟩,
    ⟨none, (.ln 14 (some 39) (.t 13))⟩,
    ⟨none, (.mv (some 15) (.v (.int .i64 0)))⟩])
  (.block 0 (.loop ⟨[(15, (.lf (.int .i64)))], [(5, (.bld 3000005 50 5))], [7, 16, 17, 18, 19, 20, 21, 22, 23, 24, 25, 26, 27, 28].map .s ++ [7].map .b⟩ (.seq (.reg [⟨none, (.ar 16 .lss (.t 15) (.t 14))⟩])
  (.seq (.cond (.t 16)
    .skip
    (.exit 0))
  (.seq (.block 1 (.seq (.reg [⟨none, (.ea 17 39 (.t 13) (.t 15))⟩,
    ⟨none, (.ld 18 (some 39) (.t 17))⟩,
    ⟨none, (.al 7 (.agg 39 [(.str []), (.str [])]))⟩,
    ⟨none, (.st (some 39) (.t 7) (.t 18))⟩])
  (.reg [⟨none, (.fa 19 39 1 (.t 7))⟩,
    ⟨none, (.ld 20 none (.t 19))⟩,
    ⟨none, (.ca (some 21) 27 [(.t 20)])⟩,
    ⟨none, (.ar 22 .add (.t 21) (.v (.str [32])))⟩,
    ⟨none, (.fa 23 39 0 (.t 7))⟩,
    ⟨none, (.ld 24 none (.t 23))⟩,
    ⟨none, (.ar 25 .add (.t 22) (.t 24))⟩,
    ⟨none, (.ar 26 .add (.t 25) (.v (.str [10])))⟩,
    ⟨none, (.cw (some 27) 34 .wstr [(.t 5), (.t 26)])⟩])))
  (.reg [⟨none, (.ar 28 .add (.t 15) (.v (.int .i64 1)))⟩,
    ⟨none, (.mv (some 15) (.t 28))⟩])))))))
  (.seq (.reg [⟨none, (.cw (some 29) 35 .str [(.t 5)])⟩,
    ⟨none, (.mv (some 2) (.t 29))⟩,
    ⟨none, (.mv (some 3) (.v (.int .i64 0)))⟩])
  .ret)))))
noncomputable def ent17 : TEnt := ⟨17, [(.sl 39 (.agg 39 (.pair .str .str)))], (.tup (.pair .str (.int .i64))), fun x => F17 x, .plain⟩
theorem eq17 (x : dens ent17.as) : ent17.F x = evF [ent13, ent27, entWriteString, entString] SHF dc17 [(.tmp 2), (.tmp 3)] ent17.as ent17.rs x := by kernel_rfl
/-- library/bag.Pack -/
noncomputable def F22 (a0 : List (List UInt8 × List UInt8)) : Option (List UInt8 × Int) :=
  bindO (F13 a0) fun y1 =>
  cond (!decide (y1 = (0 : Int)))
    (some (([] : List UInt8), y1))
    (bindO (fItoa (List.length a0 : Int)) fun y2 =>
    gd (List.length ([66, 65, 71, 49, 10] : List UInt8) + List.length y2 ≤ big) <|
    bnd (([66, 65, 71, 49, 10] : List UInt8) ++ y2) fun x3 =>
    gd (List.length x3 + List.length ([10] : List UInt8) ≤ big) <|
    bnd (x3 ++ ([10] : List UInt8)) fun x4 =>
    gdN (0) (List.length ([] : List UInt8)) <|
    gd (List.length ([] : List UInt8) + List.length x4 ≤ big) <|
    bnd (([] : List UInt8) ++ x4) fun b5 =>
    gdN (List.length b5) (List.length b5) <|
    loopK (σ := Int × List UInt8) (fun p6 againp6 =>
      cond (decide (p6.1 < (List.length a0 : Int)))
        (gd (0 ≤ p6.1 ∧ p6.1 < (List.length a0 : Int)) <|
        bindO (fItoa (List.length ((List.getD a0 (Int.toNat p6.1) ([], [])).2) : Int)) fun y7 =>
        gd (List.length y7 + List.length ([32] : List UInt8) ≤ big) <|
        bnd (y7 ++ ([32] : List UInt8)) fun x8 =>
        gd (List.length x8 + List.length ((List.getD a0 (Int.toNat p6.1) ([], [])).1) ≤ big) <|
        bnd (x8 ++ ((List.getD a0 (Int.toNat p6.1) ([], [])).1)) fun x9 =>
        gd (List.length x9 + List.length ([10] : List UInt8) ≤ big) <|
        bnd (x9 ++ ([10] : List UInt8)) fun x10 =>
        gdN (List.length p6.2) (List.length p6.2) <|
        gd (List.length p6.2 + List.length x10 ≤ big) <|
        bnd (p6.2 ++ x10) fun b11 =>
        bnd (IntKind.wrap .i64 (p6.1 + (1 : Int))) fun x12 =>
        gdN (List.length b11) (List.length b11) <|
        againp6 (x12, b11))
        (gdN (List.length p6.2) (List.length p6.2) <|
        loopK (σ := Int × List UInt8) (fun p13 againp13 =>
          cond (decide (p13.1 < (List.length a0 : Int)))
            (gd (0 ≤ p13.1 ∧ p13.1 < (List.length a0 : Int)) <|
            gdN (List.length p13.2) (List.length p13.2) <|
            gd (List.length p13.2 + List.length ((List.getD a0 (Int.toNat p13.1) ([], [])).2) ≤ big) <|
            bnd (p13.2 ++ ((List.getD a0 (Int.toNat p13.1) ([], [])).2)) fun b14 =>
            bnd (IntKind.wrap .i64 (p13.1 + (1 : Int))) fun x15 =>
            gdN (List.length b14) (List.length b14) <|
            againp13 (x15, b14))
            (bindO (F15 a0) fun y16 =>
            gdN (List.length p13.2) (List.length p13.2) <|
            gd (List.length p13.2 + List.length y16 ≤ big) <|
            bnd (p13.2 ++ y16) fun b17 =>
            gdN (List.length b17) (List.length b17) <|
            some (b17, (0 : Int)))) ((0 : Int), p6.2))) ((0 : Int), b5))
def dc22 : DC :=
  (.seq (.reg [⟨none, (.mv (some 2) (.v (.str [])))⟩,
    ⟨none, (.mv (some 3) (.v (.int .i64 0)))⟩])
  (.seq (.seq (.reg [⟨none, (.mv (some 10) (.t 0))⟩,
    ⟨none, (.ca (some 11) 13 [(.t 10)])⟩,
    ⟨none, (.mv (some 4) (.t 11))⟩])
  (.seq (.reg [⟨none, (.mv (some 12) (.t 4))⟩,
    ⟨none, (.ar 13 .neq (.t 12) (.v (.int .i64 0)))⟩])
  (.cond (.t 13)
    (.seq (.reg [⟨none, (.mv (some 14) (.t 4))⟩,
    ⟨none, (.mv (some 2) (.v (.str [])))⟩,
    ⟨none, (.mv (some 3) (.t 14))⟩])
  .ret)
    .skip)))
  (.seq (.reg [⟨none, (.ab 5 50 5)⟩])
  (.seq (.reg [⟨none, (.mv (some 15) (.t 0))⟩,
    ⟨none, (.ln 16 (some 39) (.t 15))⟩,
    ⟨none, (.ca (some 17) 40 [(.t 16)])⟩,
    ⟨none, (.ar 18 .add (.v (.str [66, 65, 71, 49, 10])) (.t 17))⟩,
    ⟨none, (.ar 19 .add (.t 18) (.v (.str [10])))⟩,
    ⟨none, (.cw (some 20) 34 .wstr [(.t 5), (.t 19)])⟩])
  (.seq (.seq (.reg [⟨none, (.mv (some 21) (.t 0))⟩,
    ⟨none, (.ln 22 (some 39) (.t 21))⟩,
    ⟨none, (.mv (some 23) (.v (.int .i64 0)))⟩])
  (.block 0 (.loop ⟨[(23, (.lf (.int .i64)))], [(5, (.bld 3000005 50 5))], [7, 24, 25, 26, 27, 28, 29, 30, 31, 32, 33, 34, 35, 36, 37].map .s ++ [7].map .b⟩ (.seq (.reg [⟨none, (.ar 24 .lss (.t 23) (.t 22))⟩])
  (.seq (.cond (.t 24)
    .skip
    (.exit 0))
  (.seq (.block 1 (.seq (.reg [⟨none, (.ea 25 39 (.t 21) (.t 23))⟩,
    ⟨none, (.ld 26 (some 39) (.t 25))⟩,
    ⟨none, (.al 7 (.agg 39 [(.str []), (.str [])]))⟩,
    ⟨none, (.st (some 39) (.t 7) (.t 26))⟩])
  (.reg [⟨none, (.fa 27 39 1 (.t 7))⟩,
    ⟨none, (.ld 28 none (.t 27))⟩,
    ⟨none, (.ln 29 none (.t 28))⟩,
    ⟨none, (.ca (some 30) 40 [(.t 29)])⟩,
    ⟨none, (.ar 31 .add (.t 30) (.v (.str [32])))⟩,
    ⟨none, (.fa 32 39 0 (.t 7))⟩,
    ⟨none, (.ld 33 none (.t 32))⟩,
    ⟨none, (.ar 34 .add (.t 31) (.t 33))⟩,
    ⟨none, (.ar 35 .add (.t 34) (.v (.str [10])))⟩,
    ⟨none, (.cw (some 36) 34 .wstr [(.t 5), (.t 35)])⟩])))
  (.reg [⟨none, (.ar 37 .add (.t 23) (.v (.int .i64 1)))⟩,
    ⟨none, (.mv (some 23) (.t 37))⟩])))))))
  (.seq (.seq (.reg [⟨none, (.mv (some 38) (.t 0))⟩,
    ⟨none, (.ln 39 (some 39) (.t 38))⟩,
    ⟨none, (.mv (some 40) (.v (.int .i64 0)))⟩])
  (.block 2 (.loop ⟨[(40, (.lf (.int .i64)))], [(5, (.bld 3000005 50 5))], [9, 41, 42, 43, 44, 45, 46, 47].map .s ++ [9].map .b⟩ (.seq (.reg [⟨none, (.ar 41 .lss (.t 40) (.t 39))⟩])
  (.seq (.cond (.t 41)
    .skip
    (.exit 2))
  (.seq (.block 3 (.seq (.reg [⟨none, (.ea 42 39 (.t 38) (.t 40))⟩,
    ⟨none, (.ld 43 (some 39) (.t 42))⟩,
    ⟨none, (.al 9 (.agg 39 [(.str []), (.str [])]))⟩,
    ⟨none, (.st (some 39) (.t 9) (.t 43))⟩])
  (.reg [⟨none, (.fa 44 39 1 (.t 9))⟩,
    ⟨none, (.ld 45 none (.t 44))⟩,
    ⟨none, (.cw (some 46) 34 .wstr [(.t 5), (.t 45)])⟩])))
  (.reg [⟨none, (.ar 47 .add (.t 40) (.v (.int .i64 1)))⟩,
    ⟨none, (.mv (some 40) (.t 47))⟩])))))))
  (.seq (.reg [⟨none, (.mv (some 48) (.t 0))⟩,
    ⟨none, (.ca (some 49) 15 [(.t 48)])⟩,
    ⟨none, (.cw (some 50) 34 .wstr [(.t 5), (.t 49)])⟩])
  (.seq (.reg [⟨none, (.cw (some 51) 35 .str [(.t 5)])⟩,
    ⟨none, (.mv (some 2) (.t 51))⟩,
    ⟨none, (.mv (some 3) (.v (.int .i64 0)))⟩])
  .ret))))))))
noncomputable def ent22 : TEnt := ⟨22, [(.sl 39 (.agg 39 (.pair .str .str)))], (.tup (.pair .str (.int .i64))), fun x => F22 x, .plain⟩
theorem eq22 (x : dens ent22.as) : ent22.F x = evF [ent13, ent15, entWriteString, entString, entItoa] SHF dc22 [(.tmp 2), (.tmp 3)] ent22.as ent22.rs x := by kernel_rfl
/-- library/bag.number -/
noncomputable def F44 (a0 : List UInt8) (a1 : Int) : Option (Int × Bool) :=
  bindO (fAtoi a0) fun y1 =>
  cond ((Option.isNone y1.2))
    (cond (decide ((0 : Int) ≤ y1.1))
      (cond (decide (y1.1 ≤ a1))
        (bindO (fItoa y1.1) fun y2 =>
        some (y1.1, decide (y2 = a0)))
        (some (y1.1, false)))
      (some (y1.1, false)))
    (some (y1.1, false))
def dc44 : DC :=
  (.seq (.reg [⟨none, (.mv (some 4) (.v (.int .i64 0)))⟩,
    ⟨none, (.mv (some 5) (.v (.bool false)))⟩])
  (.seq (.reg [⟨none, (.mv (some 9) (.t 0))⟩,
    ⟨none, (.ca (some 10) 62 [(.t 9)])⟩,
    ⟨none, (.mv (some 8) (.t 10))⟩,
    ⟨none, (.ex 11 0 (.t 8))⟩,
    ⟨none, (.ex 12 1 (.t 8))⟩,
    ⟨none, (.mv (some 6) (.t 11))⟩,
    ⟨none, (.mv (some 7) (.t 12))⟩])
  (.seq (.reg [⟨none, (.mv (some 13) (.t 6))⟩,
    ⟨none, (.mv (some 14) (.t 7))⟩,
    ⟨none, (.se 15 .ifc false (.t 14) (.v .nili))⟩,
    ⟨none, (.mv (some 16) (.t 15))⟩,
    ⟨(some (16, true)), (.mv (some 17) (.t 6))⟩,
    ⟨(some (16, true)), (.ar 18 .geq (.t 17) (.v (.int .i64 0)))⟩,
    ⟨none, (.pick 19 (.t 16) (.t 18) (.v (.bool false)))⟩,
    ⟨none, (.mv (some 20) (.t 19))⟩,
    ⟨(some (20, true)), (.mv (some 21) (.t 6))⟩,
    ⟨(some (20, true)), (.mv (some 22) (.t 1))⟩,
    ⟨(some (20, true)), (.ar 23 .leq (.t 21) (.t 22))⟩,
    ⟨none, (.pick 24 (.t 20) (.t 23) (.v (.bool false)))⟩,
    ⟨none, (.mv (some 25) (.t 24))⟩,
    ⟨(some (25, true)), (.mv (some 26) (.t 6))⟩,
    ⟨(some (25, true)), (.ca (some 27) 40 [(.t 26)])⟩,
    ⟨(some (25, true)), (.mv (some 28) (.t 0))⟩,
    ⟨(some (25, true)), (.ar 29 .eql (.t 27) (.t 28))⟩,
    ⟨none, (.pick 30 (.t 25) (.t 29) (.v (.bool false)))⟩,
    ⟨none, (.mv (some 4) (.t 13))⟩,
    ⟨none, (.mv (some 5) (.t 30))⟩])
  .ret)))
noncomputable def ent44 : TEnt := ⟨44, [.str, (.int .i64)], (.tup (.pair (.int .i64) .bool)), fun x => F44 x.1 x.2, .plain⟩
theorem eq44 (x : dens ent44.as) : ent44.F x = evF [entItoa, entAtoi] SHF dc44 [(.tmp 4), (.tmp 5)] ent44.as ent44.rs x := by kernel_rfl
/-- library/bag.Unpack -/
noncomputable def F24 (a0 : List UInt8) : Option ((List (List UInt8 × List UInt8)) × Int) :=
  jn (σ := Unit) (fun nextj1 =>
    nextj1 ()) fun j1 =>
  bindO (fCutP a0 ([66, 65, 71, 49, 10] : List UInt8)) fun y2 =>
  bindO (fCut y2.1 ([10] : List UInt8)) fun y3 =>
  bindO (F44 y3.1 (16 : Int)) fun y4 =>
  cond (!y2.2)
    (some (([] : List (List UInt8 × List UInt8)), (3 : Int)))
    (cond (!y3.2.2)
      (some (([] : List (List UInt8 × List UInt8)), (3 : Int)))
      (cond (!y4.2)
        (some (([] : List (List UInt8 × List UInt8)), (3 : Int)))
        (gdN (List.length ([] : List (List UInt8 × List UInt8))) (List.length ([] : List (List UInt8 × List UInt8))) <|
        gdN (List.length ([] : List (Int))) (List.length ([] : List (Int))) <|
        loopK (σ := List UInt8 × (List (List UInt8 × List UInt8)) × List (Int) × Int) (fun p5 againp5 =>
          cond (decide (p5.2.2.2 < y4.1))
            (bindO (fCut p5.1 ([10] : List UInt8)) fun y6 =>
            bindO (fCut y6.1 ([32] : List UInt8)) fun y7 =>
            bindO (F44 y7.1 (2000 : Int)) fun y8 =>
            cond (!y6.2.2)
              (some (([] : List (List UInt8 × List UInt8)), (3 : Int)))
              (cond (!y7.2.2)
                (some (([] : List (List UInt8 × List UInt8)), (3 : Int)))
                (cond (!y8.2)
                  (some (([] : List (List UInt8 × List UInt8)), (3 : Int)))
                  (gdN (List.length p5.2.1) (List.length p5.2.1) <|
                  gd (List.length p5.2.1 + List.length [(y7.2.1, ([] : List UInt8))] ≤ big) <|
                  bnd (p5.2.1 ++ [(y7.2.1, ([] : List UInt8))]) fun l9 =>
                  gdN (List.length p5.2.2.1) (List.length p5.2.2.1) <|
                  gd (List.length p5.2.2.1 + List.length [y8.1] ≤ big) <|
                  bnd (p5.2.2.1 ++ [y8.1]) fun l10 =>
                  bnd (IntKind.wrap .i64 (p5.2.2.2 + (1 : Int))) fun x11 =>
                  gdN (List.length l9) (List.length l9) <|
                  gdN (List.length l10) (List.length l10) <|
                  againp5 (y6.2.1, l9, l10, x11)))))
            (cond (List.isEmpty p5.2.1)
              (loopK (σ := Unit) (fun p12 againp12 =>
                cond (decide ((0 : Int) < (List.length p5.2.2.1 : Int)))
                  (gd (0 ≤ (0 : Int) ∧ (0 : Int) < (List.length p5.2.2.1 : Int)) <|
                  cond (decide ((List.length p5.1 : Int) < (List.getD p5.2.2.1 (Int.toNat (0 : Int)) 0)))
                    (some (([] : List (List UInt8 × List UInt8)), (3 : Int)))
                    (gd (0 ≤ (List.getD p5.2.2.1 (Int.toNat (0 : Int)) 0) ∧ (List.getD p5.2.2.1 (Int.toNat (0 : Int)) 0) ≤ (List.length p5.1 : Int)) <|
                    bnd (List.take (Int.toNat (List.getD p5.2.2.1 (Int.toNat (0 : Int)) 0)) p5.1) fun x13 =>
                    gd (0 ≤ (List.getD p5.2.2.1 (Int.toNat (0 : Int)) 0) ∧ (List.getD p5.2.2.1 (Int.toNat (0 : Int)) 0) ≤ (List.length p5.1 : Int)) <|
                    bnd (List.drop (Int.toNat (List.getD p5.2.2.1 (Int.toNat (0 : Int)) 0)) p5.1) fun x14 =>
                    gd (0 ≤ (0 : Int) ∧ (0 : Int) < (List.length p5.2.1 : Int)) <|
                    none))
                  (cond (!decide ((List.length p5.1 : Int) = (16 : Int)))
                    (some (([] : List (List UInt8 × List UInt8)), (3 : Int)))
                    (bindO (F13 p5.2.1) fun y15 =>
                    cond (!decide (y15 = (0 : Int)))
                      (some (([] : List (List UInt8 × List UInt8)), (3 : Int)))
                      (bindO (F15 p5.2.1) fun y16 =>
                      cond (!decide (p5.1 = y16))
                        (some (([] : List (List UInt8 × List UInt8)), (5 : Int)))
                        (some (p5.2.1, (0 : Int))))))) ())
              (gdN (List.length p5.2.1) (List.length p5.2.1) <|
              gd (0 < List.length p5.2.1) <|
              gdN (List.length p5.2.1) (List.length p5.2.1) <|
              gdN (List.length p5.2.2.1) (List.length p5.2.2.1) <|
              loopK (σ := List UInt8 × Int × List (List UInt8 × List UInt8)) (fun p17 againp17 =>
                cond (decide (p17.2.1 < (List.length p5.2.2.1 : Int)))
                  (gd (0 ≤ p17.2.1 ∧ p17.2.1 < (List.length p5.2.2.1 : Int)) <|
                  cond (decide ((List.length p17.1 : Int) < (List.getD p5.2.2.1 (Int.toNat p17.2.1) 0)))
                    (some (([] : List (List UInt8 × List UInt8)), (3 : Int)))
                    (gd (0 ≤ (List.getD p5.2.2.1 (Int.toNat p17.2.1) 0) ∧ (List.getD p5.2.2.1 (Int.toNat p17.2.1) 0) ≤ (List.length p17.1 : Int)) <|
                    bnd (List.take (Int.toNat (List.getD p5.2.2.1 (Int.toNat p17.2.1) 0)) p17.1) fun x18 =>
                    gd (0 ≤ (List.getD p5.2.2.1 (Int.toNat p17.2.1) 0) ∧ (List.getD p5.2.2.1 (Int.toNat p17.2.1) 0) ≤ (List.length p17.1 : Int)) <|
                    bnd (List.drop (Int.toNat (List.getD p5.2.2.1 (Int.toNat p17.2.1) 0)) p17.1) fun x19 =>
                    gd (0 ≤ p17.2.1 ∧ p17.2.1 < (List.length p17.2.2 : Int)) <|
                    gd ((Int.toNat p17.2.1) < List.length p17.2.2) <|
                    gd ((Int.toNat p17.2.1) < List.length p17.2.2) <|
                    bnd (IntKind.wrap .i64 (p17.2.1 + (1 : Int))) fun x20 =>
                    againp17 (x19, x20, (List.set p17.2.2 (Int.toNat p17.2.1) ((List.getD p17.2.2 (Int.toNat p17.2.1) ([], [])).1, x18)))))
                  (cond (!decide ((List.length p17.1 : Int) = (16 : Int)))
                    (some (([] : List (List UInt8 × List UInt8)), (3 : Int)))
                    (bindO (F13 p17.2.2) fun y21 =>
                    cond (!decide (y21 = (0 : Int)))
                      (some (([] : List (List UInt8 × List UInt8)), (3 : Int)))
                      (bindO (F15 p17.2.2) fun y22 =>
                      cond (!decide (p17.1 = y22))
                        (some (([] : List (List UInt8 × List UInt8)), (5 : Int)))
                        (some (p17.2.2, (0 : Int))))))) (p5.1, (0 : Int), p5.2.1)))) (y3.2.1, ([] : List (List UInt8 × List UInt8)), ([] : List (Int)), (0 : Int)))))
def dc24a : DC :=
  (.seq (.seq (.seq (.ng 5000010)
  (.reg [⟨none, (.mv (some 85) (.t 11))⟩,
    ⟨none, (.ln 86 (some 3) (.t 85))⟩,
    ⟨none, (.mv (some 87) (.v (.int .i64 0)))⟩]))
  (.block 2 (.loop ⟨[], [], [2, 3, 17, 18, 88, 89, 90, 91, 92, 93, 94, 95].map .s ++ [2].map .f⟩ (.seq (.reg [⟨none, (.ar 88 .lss (.t 87) (.t 86))⟩])
  (.seq (.cond (.t 88)
    .skip
    (.exit 2))
  (.seq (.block 3 (.seq (.reg [⟨none, (.mv (some 89) (.t 87))⟩,
    ⟨none, (.ea 90 3 (.t 85) (.t 87))⟩,
    ⟨none, (.ld 91 none (.t 90))⟩,
    ⟨none, (.mv (some 17) (.t 89))⟩,
    ⟨none, (.mv (some 18) (.t 91))⟩])
  (.seq (.seq (.reg [⟨none, (.mv (some 92) (.t 4))⟩,
    ⟨none, (.ln 93 none (.t 92))⟩,
    ⟨none, (.mv (some 94) (.t 18))⟩,
    ⟨none, (.ar 95 .lss (.t 93) (.t 94))⟩])
  (.cond (.t 95)
    (.seq (.reg [⟨none, (.nl 2 39)⟩,
    ⟨none, (.mv (some 3) (.v (.int .i64 3)))⟩])
  .ret)
    .skip))
  (.reg [⟨none, (.mv (some 96) (.t 10))⟩,
    ⟨none, (.mv (some 97) (.t 17))⟩,
    ⟨none, (.mv (some 98) (.t 4))⟩,
    ⟨none, (.mv (some 99) (.t 18))⟩,
    ⟨none, (.sc 100 none (.t 98) none (some (.t 99)))⟩,
    ⟨none, (.mv (some 101) (.t 4))⟩,
    ⟨none, (.mv (some 102) (.t 18))⟩,
    ⟨none, (.sc 103 none (.t 101) (some (.t 102)) none)⟩,
    ⟨none, (.ea 104 39 (.t 96) (.t 97))⟩,
    ⟨none, (.fa 105 39 1 (.t 104))⟩,
    ⟨none, (.st none (.t 105) (.t 100))⟩,
    ⟨none, (.mv (some 4) (.t 103))⟩]))))
  (.reg [⟨none, (.ar 106 .add (.t 87) (.v (.int .i64 1)))⟩,
    ⟨none, (.mv (some 87) (.t 106))⟩])))))))
  (.seq (.seq (.seq (.ng 10)
  (.reg [⟨none, (.mv (some 107) (.t 4))⟩,
    ⟨none, (.ln 108 none (.t 107))⟩,
    ⟨none, (.ar 109 .neq (.t 108) (.v (.int .i64 16)))⟩,
    ⟨none, (.mv (some 110) (.t 109))⟩,
    ⟨(some (110, false)), (.mv (some 111) (.t 10))⟩,
    ⟨(some (110, false)), (.ca (some 112) 13 [(.t 111)])⟩,
    ⟨(some (110, false)), (.ar 113 .neq (.t 112) (.v (.int .i64 0)))⟩,
    ⟨none, (.pick 114 (.t 110) (.v (.bool true)) (.t 113))⟩]))
  (.cond (.t 114)
    (.seq (.reg [⟨none, (.nl 2 39)⟩,
    ⟨none, (.mv (some 3) (.v (.int .i64 3)))⟩])
  .ret)
    .skip))
  (.seq (.seq (.reg [⟨none, (.mv (some 115) (.t 4))⟩,
    ⟨none, (.mv (some 116) (.t 10))⟩,
    ⟨none, (.ca (some 117) 15 [(.t 116)])⟩,
    ⟨none, (.ar 118 .neq (.t 115) (.t 117))⟩])
  (.cond (.t 118)
    (.seq (.reg [⟨none, (.nl 2 39)⟩,
    ⟨none, (.mv (some 3) (.v (.int .i64 5)))⟩])
  .ret)
    .skip))
  (.seq (.reg [⟨none, (.mv (some 119) (.t 10))⟩,
    ⟨none, (.mv (some 2) (.t 119))⟩,
    ⟨none, (.mv (some 3) (.v (.int .i64 0)))⟩])
  .ret))))
def dc24b : DC :=
  (.seq (.seq (.seq (.gh 5000010 [10, 11])
  (.reg [⟨none, (.mv (some 85) (.t 11))⟩,
    ⟨none, (.ln 86 (some 3) (.t 85))⟩,
    ⟨none, (.mv (some 87) (.v (.int .i64 0)))⟩]))
  (.block 2 (.loop ⟨[(4, (.lf .str)), (87, (.lf (.int .i64)))], [(10, (.lf (.arr 1000039 (.agg 39 (.pair .str .str)))))], [2, 3, 17, 18, 88, 89, 90, 91, 92, 93, 94, 95, 96, 97, 98, 99, 100, 101, 102, 103, 104, 105, 106].map .s ++ [2].map .f⟩ (.seq (.reg [⟨none, (.ar 88 .lss (.t 87) (.t 86))⟩])
  (.seq (.cond (.t 88)
    .skip
    (.exit 2))
  (.seq (.block 3 (.seq (.reg [⟨none, (.mv (some 89) (.t 87))⟩,
    ⟨none, (.ea 90 3 (.t 85) (.t 87))⟩,
    ⟨none, (.ld 91 none (.t 90))⟩,
    ⟨none, (.mv (some 17) (.t 89))⟩,
    ⟨none, (.mv (some 18) (.t 91))⟩])
  (.seq (.seq (.reg [⟨none, (.mv (some 92) (.t 4))⟩,
    ⟨none, (.ln 93 none (.t 92))⟩,
    ⟨none, (.mv (some 94) (.t 18))⟩,
    ⟨none, (.ar 95 .lss (.t 93) (.t 94))⟩])
  (.cond (.t 95)
    (.seq (.reg [⟨none, (.nl 2 39)⟩,
    ⟨none, (.mv (some 3) (.v (.int .i64 3)))⟩])
  .ret)
    .skip))
  (.reg [⟨none, (.mv (some 96) (.t 10))⟩,
    ⟨none, (.mv (some 97) (.t 17))⟩,
    ⟨none, (.mv (some 98) (.t 4))⟩,
    ⟨none, (.mv (some 99) (.t 18))⟩,
    ⟨none, (.sc 100 none (.t 98) none (some (.t 99)))⟩,
    ⟨none, (.mv (some 101) (.t 4))⟩,
    ⟨none, (.mv (some 102) (.t 18))⟩,
    ⟨none, (.sc 103 none (.t 101) (some (.t 102)) none)⟩,
    ⟨none, (.ea 104 39 (.t 96) (.t 97))⟩,
    ⟨none, (.fa 105 39 1 (.t 104))⟩,
    ⟨none, (.st none (.t 105) (.t 100))⟩,
    ⟨none, (.mv (some 4) (.t 103))⟩]))))
  (.reg [⟨none, (.ar 106 .add (.t 87) (.v (.int .i64 1)))⟩,
    ⟨none, (.mv (some 87) (.t 106))⟩])))))))
  (.seq (.seq (.seq (.gh 10 [])
  (.reg [⟨none, (.mv (some 107) (.t 4))⟩,
    ⟨none, (.ln 108 none (.t 107))⟩,
    ⟨none, (.ar 109 .neq (.t 108) (.v (.int .i64 16)))⟩,
    ⟨none, (.mv (some 110) (.t 109))⟩,
    ⟨(some (110, false)), (.mv (some 111) (.t 10))⟩,
    ⟨(some (110, false)), (.ca (some 112) 13 [(.t 111)])⟩,
    ⟨(some (110, false)), (.ar 113 .neq (.t 112) (.v (.int .i64 0)))⟩,
    ⟨none, (.pick 114 (.t 110) (.v (.bool true)) (.t 113))⟩]))
  (.cond (.t 114)
    (.seq (.reg [⟨none, (.nl 2 39)⟩,
    ⟨none, (.mv (some 3) (.v (.int .i64 3)))⟩])
  .ret)
    .skip))
  (.seq (.seq (.reg [⟨none, (.mv (some 115) (.t 4))⟩,
    ⟨none, (.mv (some 116) (.t 10))⟩,
    ⟨none, (.ca (some 117) 15 [(.t 116)])⟩,
    ⟨none, (.ar 118 .neq (.t 115) (.t 117))⟩])
  (.cond (.t 118)
    (.seq (.reg [⟨none, (.nl 2 39)⟩,
    ⟨none, (.mv (some 3) (.v (.int .i64 5)))⟩])
  .ret)
    .skip))
  (.seq (.reg [⟨none, (.mv (some 119) (.t 10))⟩,
    ⟨none, (.mv (some 2) (.t 119))⟩,
    ⟨none, (.mv (some 3) (.v (.int .i64 0)))⟩])
  .ret))))
def dc24 : DC :=
  (.jn ⟨[], [], [2, 3].map .s ++ [2].map .f⟩ (.reg [⟨none, (.nl 2 39)⟩,
    ⟨none, (.mv (some 3) (.v (.int .i64 0)))⟩])
  (.seq (.reg [⟨none, (.mv (some 20) (.t 0))⟩,
    ⟨none, (.ca (some 21) 42 [(.t 20), (.v (.str [66, 65, 71, 49, 10]))])⟩,
    ⟨none, (.mv (some 19) (.t 21))⟩,
    ⟨none, (.ex 22 0 (.t 19))⟩,
    ⟨none, (.ex 23 1 (.t 19))⟩,
    ⟨none, (.mv (some 4) (.t 22))⟩,
    ⟨none, (.mv (some 5) (.t 23))⟩])
  (.seq (.reg [⟨none, (.mv (some 25) (.t 4))⟩,
    ⟨none, (.ca (some 26) 43 [(.t 25), (.v (.str [10]))])⟩,
    ⟨none, (.mv (some 24) (.t 26))⟩,
    ⟨none, (.ex 27 0 (.t 24))⟩,
    ⟨none, (.ex 28 1 (.t 24))⟩,
    ⟨none, (.ex 29 2 (.t 24))⟩,
    ⟨none, (.mv (some 6) (.t 27))⟩,
    ⟨none, (.mv (some 4) (.t 28))⟩,
    ⟨none, (.mv (some 7) (.t 29))⟩])
  (.seq (.reg [⟨none, (.mv (some 31) (.t 6))⟩,
    ⟨none, (.ca (some 32) 44 [(.t 31), (.v (.int .i64 16))])⟩,
    ⟨none, (.mv (some 30) (.t 32))⟩,
    ⟨none, (.ex 33 0 (.t 30))⟩,
    ⟨none, (.ex 34 1 (.t 30))⟩,
    ⟨none, (.mv (some 8) (.t 33))⟩,
    ⟨none, (.mv (some 9) (.t 34))⟩])
  (.seq (.seq (.reg [⟨none, (.mv (some 35) (.t 5))⟩,
    ⟨none, (.un 36 .not (.t 35))⟩,
    ⟨none, (.mv (some 37) (.t 36))⟩,
    ⟨(some (37, false)), (.mv (some 38) (.t 7))⟩,
    ⟨(some (37, false)), (.un 39 .not (.t 38))⟩,
    ⟨none, (.pick 40 (.t 37) (.v (.bool true)) (.t 39))⟩,
    ⟨none, (.mv (some 41) (.t 40))⟩,
    ⟨(some (41, false)), (.mv (some 42) (.t 9))⟩,
    ⟨(some (41, false)), (.un 43 .not (.t 42))⟩,
    ⟨none, (.pick 44 (.t 41) (.v (.bool true)) (.t 43))⟩])
  (.cond (.t 44)
    (.seq (.reg [⟨none, (.nl 2 39)⟩,
    ⟨none, (.mv (some 3) (.v (.int .i64 3)))⟩])
  .ret)
    .skip))
  (.seq (.reg [⟨none, (.nl 10 39)⟩])
  (.seq (.reg [⟨none, (.nl 11 3)⟩])
  (.seq (.seq (.reg [⟨none, (.mv (some 45) (.t 8))⟩,
    ⟨none, (.mv (some 46) (.v (.int .i64 0)))⟩])
  (.block 0 (.loop ⟨[(4, (.lf .str)), (10, (.row 10 39 (.agg 39 (.pair .str .str)))), (11, (.row 11 3 (.int .i64))), (46, (.lf (.int .i64)))], [], [2, 3, 6, 7, 12, 13, 14, 15, 16, 47, 48, 49, 50, 51, 52, 53, 54, 55, 56, 57, 58, 59, 60, 61, 62, 63, 64, 65, 66, 67, 68, 69, 70, 71, 72, 73, 74, 75, 76, 77, 78, 79, 80, 81, 82, 83, 84].map .s ++ [2, 78, 82].map .f⟩ (.seq (.reg [⟨none, (.ar 47 .lss (.t 46) (.t 45))⟩])
  (.seq (.cond (.t 47)
    .skip
    (.exit 0))
  (.seq (.block 1 (.seq (.reg [⟨none, (.mv (some 49) (.t 4))⟩,
    ⟨none, (.ca (some 50) 43 [(.t 49), (.v (.str [10]))])⟩,
    ⟨none, (.mv (some 48) (.t 50))⟩,
    ⟨none, (.ex 51 0 (.t 48))⟩,
    ⟨none, (.ex 52 1 (.t 48))⟩,
    ⟨none, (.ex 53 2 (.t 48))⟩,
    ⟨none, (.mv (some 6) (.t 51))⟩,
    ⟨none, (.mv (some 4) (.t 52))⟩,
    ⟨none, (.mv (some 7) (.t 53))⟩])
  (.seq (.reg [⟨none, (.mv (some 55) (.t 6))⟩,
    ⟨none, (.ca (some 56) 43 [(.t 55), (.v (.str [32]))])⟩,
    ⟨none, (.mv (some 54) (.t 56))⟩,
    ⟨none, (.ex 57 0 (.t 54))⟩,
    ⟨none, (.ex 58 1 (.t 54))⟩,
    ⟨none, (.ex 59 2 (.t 54))⟩,
    ⟨none, (.mv (some 12) (.t 57))⟩,
    ⟨none, (.mv (some 13) (.t 58))⟩,
    ⟨none, (.mv (some 14) (.t 59))⟩])
  (.seq (.reg [⟨none, (.mv (some 61) (.t 12))⟩,
    ⟨none, (.ca (some 62) 44 [(.t 61), (.v (.int .i64 2000))])⟩,
    ⟨none, (.mv (some 60) (.t 62))⟩,
    ⟨none, (.ex 63 0 (.t 60))⟩,
    ⟨none, (.ex 64 1 (.t 60))⟩,
    ⟨none, (.mv (some 15) (.t 63))⟩,
    ⟨none, (.mv (some 16) (.t 64))⟩])
  (.seq (.seq (.reg [⟨none, (.mv (some 65) (.t 7))⟩,
    ⟨none, (.un 66 .not (.t 65))⟩,
    ⟨none, (.mv (some 67) (.t 66))⟩,
    ⟨(some (67, false)), (.mv (some 68) (.t 14))⟩,
    ⟨(some (67, false)), (.un 69 .not (.t 68))⟩,
    ⟨none, (.pick 70 (.t 67) (.v (.bool true)) (.t 69))⟩,
    ⟨none, (.mv (some 71) (.t 70))⟩,
    ⟨(some (71, false)), (.mv (some 72) (.t 16))⟩,
    ⟨(some (71, false)), (.un 73 .not (.t 72))⟩,
    ⟨none, (.pick 74 (.t 71) (.v (.bool true)) (.t 73))⟩])
  (.cond (.t 74)
    (.seq (.reg [⟨none, (.nl 2 39)⟩,
    ⟨none, (.mv (some 3) (.v (.int .i64 3)))⟩])
  .ret)
    .skip))
  (.reg [⟨none, (.mv (some 75) (.t 10))⟩,
    ⟨none, (.mv (some 76) (.t 13))⟩,
    ⟨none, (.bd 77 39 [(.str []), (.str [])] [0] [(.t 76)])⟩,
    ⟨none, (.bs 78 39 (some 39) [(.t 77)])⟩,
    ⟨none, (.ap 79 39 (.t 75) (.t 78))⟩,
    ⟨none, (.mv (some 80) (.t 11))⟩,
    ⟨none, (.mv (some 81) (.t 15))⟩,
    ⟨none, (.bs 82 3 none [(.t 81)])⟩,
    ⟨none, (.ap 83 3 (.t 80) (.t 82))⟩,
    ⟨none, (.mv (some 10) (.t 79))⟩,
    ⟨none, (.mv (some 11) (.t 83))⟩]))))))
  (.reg [⟨none, (.ar 84 .add (.t 46) (.v (.int .i64 1)))⟩,
    ⟨none, (.mv (some 46) (.t 84))⟩])))))))
  (.split 10 dc24a dc24b)))))))))
noncomputable def ent24 : TEnt := ⟨24, [.str], (.tup (.pair (.sl 39 (.agg 39 (.pair .str .str))) (.int .i64))), fun x => F24 x, .plain⟩
theorem eq24 (x : dens ent24.as) : ent24.F x = evF [ent13, ent15, entCutP, entCut, ent44] SHF dc24 [(.tmp 2), (.tmp 3)] ent24.as ent24.rs x := by kernel_rfl
/-- library/libraryref44.part -/
noncomputable def F51 (a0 : List UInt8) : Option (Bool) :=
  loopK (σ := Int) (fun p1 againp1 =>
    cond (decide (p1 < (List.length a0 : Int)))
      (gd (0 ≤ p1 ∧ p1 < (List.length a0 : Int)) <|
      cond (decide ((97 : Int) ≤ (UInt8.toNat (List.getD a0 (Int.toNat p1) 0) : Int)))
        (cond (decide ((UInt8.toNat (List.getD a0 (Int.toNat p1) 0) : Int) ≤ (122 : Int)))
          (bnd (IntKind.wrap .i64 (p1 + (1 : Int))) fun x2 =>
          againp1 x2)
          (cond (decide ((48 : Int) ≤ (UInt8.toNat (List.getD a0 (Int.toNat p1) 0) : Int)))
            (cond (decide ((UInt8.toNat (List.getD a0 (Int.toNat p1) 0) : Int) ≤ (57 : Int)))
              (bnd (IntKind.wrap .i64 (p1 + (1 : Int))) fun x3 =>
              againp1 x3)
              (cond (decide ((UInt8.toNat (List.getD a0 (Int.toNat p1) 0) : Int) = (46 : Int)))
                (bnd (IntKind.wrap .i64 (p1 + (1 : Int))) fun x4 =>
                againp1 x4)
                (cond (decide ((UInt8.toNat (List.getD a0 (Int.toNat p1) 0) : Int) = (95 : Int)))
                  (bnd (IntKind.wrap .i64 (p1 + (1 : Int))) fun x5 =>
                  againp1 x5)
                  (cond (!(decide ((UInt8.toNat (List.getD a0 (Int.toNat p1) 0) : Int) = (45 : Int))))
                    (some false)
                    (bnd (IntKind.wrap .i64 (p1 + (1 : Int))) fun x6 =>
                    againp1 x6)))))
            (cond (decide ((UInt8.toNat (List.getD a0 (Int.toNat p1) 0) : Int) = (46 : Int)))
              (bnd (IntKind.wrap .i64 (p1 + (1 : Int))) fun x7 =>
              againp1 x7)
              (cond (decide ((UInt8.toNat (List.getD a0 (Int.toNat p1) 0) : Int) = (95 : Int)))
                (bnd (IntKind.wrap .i64 (p1 + (1 : Int))) fun x8 =>
                againp1 x8)
                (cond (!(decide ((UInt8.toNat (List.getD a0 (Int.toNat p1) 0) : Int) = (45 : Int))))
                  (some false)
                  (bnd (IntKind.wrap .i64 (p1 + (1 : Int))) fun x9 =>
                  againp1 x9))))))
        (cond (decide ((48 : Int) ≤ (UInt8.toNat (List.getD a0 (Int.toNat p1) 0) : Int)))
          (cond (decide ((UInt8.toNat (List.getD a0 (Int.toNat p1) 0) : Int) ≤ (57 : Int)))
            (bnd (IntKind.wrap .i64 (p1 + (1 : Int))) fun x10 =>
            againp1 x10)
            (cond (decide ((UInt8.toNat (List.getD a0 (Int.toNat p1) 0) : Int) = (46 : Int)))
              (bnd (IntKind.wrap .i64 (p1 + (1 : Int))) fun x11 =>
              againp1 x11)
              (cond (decide ((UInt8.toNat (List.getD a0 (Int.toNat p1) 0) : Int) = (95 : Int)))
                (bnd (IntKind.wrap .i64 (p1 + (1 : Int))) fun x12 =>
                againp1 x12)
                (cond (!(decide ((UInt8.toNat (List.getD a0 (Int.toNat p1) 0) : Int) = (45 : Int))))
                  (some false)
                  (bnd (IntKind.wrap .i64 (p1 + (1 : Int))) fun x13 =>
                  againp1 x13)))))
          (cond (decide ((UInt8.toNat (List.getD a0 (Int.toNat p1) 0) : Int) = (46 : Int)))
            (bnd (IntKind.wrap .i64 (p1 + (1 : Int))) fun x14 =>
            againp1 x14)
            (cond (decide ((UInt8.toNat (List.getD a0 (Int.toNat p1) 0) : Int) = (95 : Int)))
              (bnd (IntKind.wrap .i64 (p1 + (1 : Int))) fun x15 =>
              againp1 x15)
              (cond (!(decide ((UInt8.toNat (List.getD a0 (Int.toNat p1) 0) : Int) = (45 : Int))))
                (some false)
                (bnd (IntKind.wrap .i64 (p1 + (1 : Int))) fun x16 =>
                againp1 x16))))))
      (cond (!decide (a0 = ([] : List UInt8)))
        (cond (!decide (a0 = ([46] : List UInt8)))
          (some (!decide (a0 = ([46, 46] : List UInt8))))
          (some false))
        (some false))) (0 : Int)
def dc51 : DC :=
  (.seq (.reg [⟨none, (.mv (some 2) (.v (.bool false)))⟩])
  (.seq (.seq (.reg [⟨none, (.mv (some 3) (.v (.int .i64 0)))⟩])
  (.block 0 (.loop ⟨[(3, (.lf (.int .i64)))], [], [2, 4, 5, 6, 7, 8, 9, 10, 11, 12, 13, 14, 15, 16, 17, 18, 19, 20, 21, 22, 23, 24, 25, 26, 27, 28, 29, 30, 31, 32, 33, 34, 35, 36, 37, 38, 39, 40].map .s⟩ (.seq (.seq (.reg [⟨none, (.mv (some 5) (.t 3))⟩,
    ⟨none, (.mv (some 6) (.t 0))⟩,
    ⟨none, (.ln 7 none (.t 6))⟩,
    ⟨none, (.ar 8 .lss (.t 5) (.t 7))⟩])
  (.cond (.t 8)
    .skip
    (.exit 0)))
  (.seq (.block 1 (.seq (.reg [⟨none, (.mv (some 11) (.t 0))⟩,
    ⟨none, (.mv (some 12) (.t 3))⟩,
    ⟨none, (.ix 13 (.t 11) (.t 12))⟩,
    ⟨none, (.mv (some 4) (.t 13))⟩])
  (.seq (.reg [⟨none, (.mv (some 14) (.t 4))⟩,
    ⟨none, (.ar 15 .geq (.t 14) (.v (.int .u8 97)))⟩,
    ⟨none, (.mv (some 16) (.t 15))⟩,
    ⟨(some (16, true)), (.mv (some 17) (.t 4))⟩,
    ⟨(some (16, true)), (.ar 18 .leq (.t 17) (.v (.int .u8 122)))⟩,
    ⟨none, (.pick 19 (.t 16) (.t 18) (.v (.bool false)))⟩,
    ⟨none, (.mv (some 20) (.t 19))⟩,
    ⟨(some (20, false)), (.mv (some 21) (.t 4))⟩,
    ⟨(some (20, false)), (.ar 22 .geq (.t 21) (.v (.int .u8 48)))⟩,
    ⟨(some (20, false)), (.mv (some 23) (.t 22))⟩,
    ⟨(some (23, true)), (.mv (some 24) (.t 4))⟩,
    ⟨(some (23, true)), (.ar 25 .leq (.t 24) (.v (.int .u8 57)))⟩,
    ⟨(some (20, false)), (.pick 26 (.t 23) (.t 25) (.v (.bool false)))⟩,
    ⟨none, (.pick 27 (.t 20) (.v (.bool true)) (.t 26))⟩,
    ⟨none, (.mv (some 28) (.t 27))⟩,
    ⟨(some (28, false)), (.mv (some 29) (.t 4))⟩,
    ⟨(some (28, false)), (.ar 30 .eql (.t 29) (.v (.int .u8 46)))⟩,
    ⟨none, (.pick 31 (.t 28) (.v (.bool true)) (.t 30))⟩,
    ⟨none, (.mv (some 32) (.t 31))⟩,
    ⟨(some (32, false)), (.mv (some 33) (.t 4))⟩,
    ⟨(some (32, false)), (.ar 34 .eql (.t 33) (.v (.int .u8 95)))⟩,
    ⟨none, (.pick 35 (.t 32) (.v (.bool true)) (.t 34))⟩,
    ⟨none, (.mv (some 36) (.t 35))⟩,
    ⟨(some (36, false)), (.mv (some 37) (.t 4))⟩,
    ⟨(some (36, false)), (.ar 38 .eql (.t 37) (.v (.int .u8 45)))⟩,
    ⟨none, (.pick 39 (.t 36) (.v (.bool true)) (.t 38))⟩,
    ⟨none, (.un 40 .not (.t 39))⟩])
  (.cond (.t 40)
    (.seq (.reg [⟨none, (.mv (some 2) (.v (.bool false)))⟩])
  .ret)
    .skip))))
  (.reg [⟨none, (.mv (some 9) (.t 3))⟩,
    ⟨none, (.ar 10 .add (.t 9) (.v (.int .i64 1)))⟩,
    ⟨none, (.mv (some 3) (.t 10))⟩]))))))
  (.seq (.reg [⟨none, (.mv (some 41) (.t 0))⟩,
    ⟨none, (.ar 42 .neq (.t 41) (.v (.str [])))⟩,
    ⟨none, (.mv (some 43) (.t 42))⟩,
    ⟨(some (43, true)), (.mv (some 44) (.t 0))⟩,
    ⟨(some (43, true)), (.ar 45 .neq (.t 44) (.v (.str [46])))⟩,
    ⟨none, (.pick 46 (.t 43) (.t 45) (.v (.bool false)))⟩,
    ⟨none, (.mv (some 47) (.t 46))⟩,
    ⟨(some (47, true)), (.mv (some 48) (.t 0))⟩,
    ⟨(some (47, true)), (.ar 49 .neq (.t 48) (.v (.str [46, 46])))⟩,
    ⟨none, (.pick 50 (.t 47) (.t 49) (.v (.bool false)))⟩,
    ⟨none, (.mv (some 2) (.t 50))⟩])
  .ret)))
noncomputable def ent51 : TEnt := ⟨51, [.str], .bool, fun x => F51 x, .plain⟩
theorem eq51 (x : dens ent51.as) : ent51.F x = evF [] SHF dc51 [(.tmp 2)] ent51.as ent51.rs x := by kernel_rfl
/-- library/libraryref44.Path -/
noncomputable def F30 (a0 : List UInt8) : Option (Bool) :=
  cond (decide ((60 : Int) < (List.length a0 : Int)))
    (some false)
    (loopK (σ := Int × Int) (fun p1 againp1 =>
      cond (decide (p1.2 ≤ (List.length a0 : Int)))
        (jn (σ := Bool) (fun nextj2 =>
          cond (decide (p1.2 = (List.length a0 : Int)))
            (nextj2 true)
            (gd (0 ≤ p1.2 ∧ p1.2 < (List.length a0 : Int)) <|
            nextj2 (decide ((UInt8.toNat (List.getD a0 (Int.toNat p1.2) 0) : Int) = (47 : Int))))) fun j2 =>
        cond (j2)
          (gd (0 ≤ p1.1 ∧ p1.1 ≤ p1.2 ∧ p1.2 ≤ (List.length a0 : Int)) <|
          bnd (List.drop (Int.toNat p1.1) (List.take (Int.toNat p1.2) a0)) fun x3 =>
          bindO (F51 x3) fun y4 =>
          cond (!y4)
            (some false)
            (bnd (IntKind.wrap .i64 (p1.2 + (1 : Int))) fun x5 =>
            bnd (IntKind.wrap .i64 (p1.2 + (1 : Int))) fun x6 =>
            againp1 (x5, x6)))
          (bnd (IntKind.wrap .i64 (p1.2 + (1 : Int))) fun x7 =>
          againp1 (p1.1, x7)))
        (some true)) ((0 : Int), (0 : Int)))
def dc30 : DC :=
  (.seq (.reg [⟨none, (.mv (some 2) (.v (.bool false)))⟩])
  (.seq (.seq (.reg [⟨none, (.mv (some 5) (.t 0))⟩,
    ⟨none, (.ln 6 none (.t 5))⟩,
    ⟨none, (.ar 7 .gtr (.t 6) (.v (.int .i64 60)))⟩])
  (.cond (.t 7)
    (.seq (.reg [⟨none, (.mv (some 2) (.v (.bool false)))⟩])
  .ret)
    .skip))
  (.seq (.reg [⟨none, (.mv (some 3) (.v (.int .i64 0)))⟩])
  (.seq (.seq (.reg [⟨none, (.mv (some 4) (.v (.int .i64 0)))⟩])
  (.block 0 (.loop ⟨[(3, (.lf (.int .i64))), (4, (.lf (.int .i64)))], [], [2, 8, 9, 10, 11, 12, 13, 14, 15, 16, 17, 18, 19, 20, 21, 22, 23, 24, 25, 26, 27, 28, 29, 30, 31].map .s⟩ (.seq (.seq (.reg [⟨none, (.mv (some 8) (.t 4))⟩,
    ⟨none, (.mv (some 9) (.t 0))⟩,
    ⟨none, (.ln 10 none (.t 9))⟩,
    ⟨none, (.ar 11 .leq (.t 8) (.t 10))⟩])
  (.cond (.t 11)
    .skip
    (.exit 0)))
  (.seq (.block 1 (.jn ⟨[(23, (.lf .bool))], [], [14, 15, 16, 17, 18, 19, 20, 21, 22].map .s⟩ (.reg [⟨none, (.mv (some 14) (.t 4))⟩,
    ⟨none, (.mv (some 15) (.t 0))⟩,
    ⟨none, (.ln 16 none (.t 15))⟩,
    ⟨none, (.ar 17 .eql (.t 14) (.t 16))⟩,
    ⟨none, (.mv (some 18) (.t 17))⟩,
    ⟨(some (18, false)), (.mv (some 19) (.t 0))⟩,
    ⟨(some (18, false)), (.mv (some 20) (.t 4))⟩,
    ⟨(some (18, false)), (.ix 21 (.t 19) (.t 20))⟩,
    ⟨(some (18, false)), (.ar 22 .eql (.t 21) (.v (.int .u8 47)))⟩,
    ⟨none, (.pick 23 (.t 18) (.v (.bool true)) (.t 22))⟩])
  (.cond (.t 23)
    (.seq (.seq (.reg [⟨none, (.mv (some 24) (.t 0))⟩,
    ⟨none, (.mv (some 25) (.t 3))⟩,
    ⟨none, (.mv (some 26) (.t 4))⟩,
    ⟨none, (.sc 27 none (.t 24) (some (.t 25)) (some (.t 26)))⟩,
    ⟨none, (.ca (some 28) 51 [(.t 27)])⟩,
    ⟨none, (.un 29 .not (.t 28))⟩])
  (.cond (.t 29)
    (.seq (.reg [⟨none, (.mv (some 2) (.v (.bool false)))⟩])
  .ret)
    .skip))
  (.reg [⟨none, (.mv (some 30) (.t 4))⟩,
    ⟨none, (.ar 31 .add (.t 30) (.v (.int .i64 1)))⟩,
    ⟨none, (.mv (some 3) (.t 31))⟩]))
    .skip)))
  (.reg [⟨none, (.mv (some 12) (.t 4))⟩,
    ⟨none, (.ar 13 .add (.t 12) (.v (.int .i64 1)))⟩,
    ⟨none, (.mv (some 4) (.t 13))⟩]))))))
  (.seq (.reg [⟨none, (.mv (some 2) (.v (.bool true)))⟩])
  .ret)))))
noncomputable def ent30 : TEnt := ⟨30, [.str], .bool, fun x => F30 x, .plain⟩
theorem eq30 (x : dens ent30.as) : ent30.F x = evF [ent51] SHF dc30 [(.tmp 2)] ent30.as ent30.rs x := by kernel_rfl
/-- library/libraryref44.Right -/
noncomputable def F14 (a0 : List (List UInt8 × List UInt8)) : Option (Int) :=
  cond (decide ((List.length a0 : Int) = (0 : Int)))
    (some (8 : Int))
    (cond (decide ((16 : Int) < (List.length a0 : Int)))
      (some (13 : Int))
      (loopK (σ := Int) (fun p1 againp1 =>
        cond (decide (p1 < (List.length a0 : Int)))
          (gd (0 ≤ p1 ∧ p1 < (List.length a0 : Int)) <|
          bindO (F30 ((List.getD a0 (Int.toNat p1) ([], [])).1)) fun y2 =>
          cond (!y2)
            (some (3 : Int))
            (jn (σ := Unit) (fun nextj3 =>
              cond (decide ((0 : Int) < p1))
                (gd (0 ≤ p1 ∧ p1 < (List.length a0 : Int)) <|
                bnd (IntKind.wrap .i64 (p1 - (1 : Int))) fun x4 =>
                gd (0 ≤ x4 ∧ x4 < (List.length a0 : Int)) <|
                cond ((Op.bytesLess ((List.getD a0 (Int.toNat p1) ([], [])).1) ((List.getD a0 (Int.toNat x4) ([], [])).1) || decide ((List.getD a0 (Int.toNat p1) ([], [])).1 = (List.getD a0 (Int.toNat x4) ([], [])).1)))
                  (some (7 : Int))
                  (nextj3 ()))
                (nextj3 ())) fun j3 =>
            gd (0 ≤ p1 ∧ p1 < (List.length a0 : Int)) <|
            cond (decide ((2000 : Int) < (List.length ((List.getD a0 (Int.toNat p1) ([], [])).2) : Int)))
              (some (4 : Int))
              (bnd (IntKind.wrap .i64 (p1 + (1 : Int))) fun x5 =>
              againp1 x5)))
          (some (0 : Int))) (0 : Int)))
def dc14 : DC :=
  (.seq (.reg [⟨none, (.mv (some 2) (.v (.int .i64 0)))⟩])
  (.seq (.seq (.reg [⟨none, (.mv (some 4) (.t 0))⟩,
    ⟨none, (.ln 5 (some 39) (.t 4))⟩,
    ⟨none, (.ar 6 .eql (.t 5) (.v (.int .i64 0)))⟩])
  (.cond (.t 6)
    (.seq (.reg [⟨none, (.mv (some 2) (.v (.int .i64 8)))⟩])
  .ret)
    .skip))
  (.seq (.seq (.reg [⟨none, (.mv (some 7) (.t 0))⟩,
    ⟨none, (.ln 8 (some 39) (.t 7))⟩,
    ⟨none, (.ar 9 .gtr (.t 8) (.v (.int .i64 16)))⟩])
  (.cond (.t 9)
    (.seq (.reg [⟨none, (.mv (some 2) (.v (.int .i64 13)))⟩])
  .ret)
    .skip))
  (.seq (.seq (.reg [⟨none, (.mv (some 3) (.v (.int .i64 0)))⟩])
  (.block 0 (.loop ⟨[(3, (.lf (.int .i64)))], [], [2, 10, 11, 12, 13, 14, 15, 16, 17, 18, 19, 20, 21, 22, 23, 24, 25, 26, 27, 28, 29, 30, 31, 32, 33, 34, 35, 36, 37, 38, 39, 40, 41, 42, 43, 44, 45].map .s⟩ (.seq (.seq (.reg [⟨none, (.mv (some 10) (.t 3))⟩,
    ⟨none, (.mv (some 11) (.t 0))⟩,
    ⟨none, (.ln 12 (some 39) (.t 11))⟩,
    ⟨none, (.ar 13 .lss (.t 10) (.t 12))⟩])
  (.cond (.t 13)
    .skip
    (.exit 0)))
  (.seq (.block 1 (.seq (.seq (.reg [⟨none, (.mv (some 16) (.t 0))⟩,
    ⟨none, (.mv (some 17) (.t 3))⟩,
    ⟨none, (.ea 18 39 (.t 16) (.t 17))⟩,
    ⟨none, (.fa 19 39 0 (.t 18))⟩,
    ⟨none, (.ld 20 none (.t 19))⟩,
    ⟨none, (.ca (some 21) 30 [(.t 20)])⟩,
    ⟨none, (.un 22 .not (.t 21))⟩])
  (.cond (.t 22)
    (.seq (.reg [⟨none, (.mv (some 2) (.v (.int .i64 3)))⟩])
  .ret)
    .skip))
  (.jn ⟨[], [], [23, 24, 25, 26, 27, 28, 29, 30, 31, 32, 33, 34, 35, 36, 37, 38].map .s⟩ (.seq (.reg [⟨none, (.mv (some 23) (.t 3))⟩,
    ⟨none, (.ar 24 .gtr (.t 23) (.v (.int .i64 0)))⟩,
    ⟨none, (.mv (some 25) (.t 24))⟩,
    ⟨(some (25, true)), (.mv (some 26) (.t 0))⟩,
    ⟨(some (25, true)), (.mv (some 27) (.t 3))⟩,
    ⟨(some (25, true)), (.ea 28 39 (.t 26) (.t 27))⟩,
    ⟨(some (25, true)), (.fa 29 39 0 (.t 28))⟩,
    ⟨(some (25, true)), (.ld 30 none (.t 29))⟩,
    ⟨(some (25, true)), (.mv (some 31) (.t 0))⟩,
    ⟨(some (25, true)), (.mv (some 32) (.t 3))⟩,
    ⟨(some (25, true)), (.ar 33 .sub (.t 32) (.v (.int .i64 1)))⟩,
    ⟨(some (25, true)), (.ea 34 39 (.t 31) (.t 33))⟩,
    ⟨(some (25, true)), (.fa 35 39 0 (.t 34))⟩,
    ⟨(some (25, true)), (.ld 36 none (.t 35))⟩,
    ⟨(some (25, true)), (.ar 37 .leq (.t 30) (.t 36))⟩,
    ⟨none, (.pick 38 (.t 25) (.t 37) (.v (.bool false)))⟩])
  (.cond (.t 38)
    (.seq (.reg [⟨none, (.mv (some 2) (.v (.int .i64 7)))⟩])
  .ret)
    .skip))
  (.seq (.reg [⟨none, (.mv (some 39) (.t 0))⟩,
    ⟨none, (.mv (some 40) (.t 3))⟩,
    ⟨none, (.ea 41 39 (.t 39) (.t 40))⟩,
    ⟨none, (.fa 42 39 1 (.t 41))⟩,
    ⟨none, (.ld 43 none (.t 42))⟩,
    ⟨none, (.ln 44 none (.t 43))⟩,
    ⟨none, (.ar 45 .gtr (.t 44) (.v (.int .i64 2000)))⟩])
  (.cond (.t 45)
    (.seq (.reg [⟨none, (.mv (some 2) (.v (.int .i64 4)))⟩])
  .ret)
    .skip)))))
  (.reg [⟨none, (.mv (some 14) (.t 3))⟩,
    ⟨none, (.ar 15 .add (.t 14) (.v (.int .i64 1)))⟩,
    ⟨none, (.mv (some 3) (.t 15))⟩]))))))
  (.seq (.reg [⟨none, (.mv (some 2) (.v (.int .i64 0)))⟩])
  .ret)))))
noncomputable def ent14 : TEnt := ⟨14, [(.sl 39 (.agg 39 (.pair .str .str)))], (.int .i64), fun x => F14 x, .plain⟩
theorem eq14 (x : dens ent14.as) : ent14.F x = evF [ent30] SHF dc14 [(.tmp 2)] ent14.as ent14.rs x := by kernel_rfl
/-- library/libraryref44.Root -/
noncomputable def F16 (a0 : List (List UInt8 × List UInt8)) : Option (List UInt8) :=
  gdN (List.length ([] : List (List UInt8))) (List.length ([] : List (List UInt8))) <|
  loopK (σ := List (List UInt8) × Int) (fun p1 againp1 =>
    cond (decide (p1.2 < (List.length a0 : Int)))
      (gd (0 ≤ p1.2 ∧ p1.2 < (List.length a0 : Int)) <|
      gd (List.length ((List.getD a0 (Int.toNat p1.2) ([], [])).1) + List.length ([0] : List UInt8) ≤ big) <|
      bnd (((List.getD a0 (Int.toNat p1.2) ([], [])).1) ++ ([0] : List UInt8)) fun x2 =>
      gd (0 ≤ p1.2 ∧ p1.2 < (List.length a0 : Int)) <|
      gd (List.length x2 + List.length ((List.getD a0 (Int.toNat p1.2) ([], [])).2) ≤ big) <|
      bnd (x2 ++ ((List.getD a0 (Int.toNat p1.2) ([], [])).2)) fun x3 =>
      bindO (F32 x3) fun y4 =>
      gdN (List.length p1.1) (List.length p1.1) <|
      gd (List.length p1.1 + List.length [y4] ≤ big) <|
      bnd (p1.1 ++ [y4]) fun l5 =>
      bnd (IntKind.wrap .i64 (p1.2 + (1 : Int))) fun x6 =>
      gdN (List.length l5) (List.length l5) <|
      againp1 (l5, x6))
      (bindO (F33 p1.1) fun y7 =>
      some y7)) (([] : List (List UInt8)), (0 : Int))
def dc16 : DC :=
  (.seq (.reg [⟨none, (.mv (some 2) (.v (.str [])))⟩])
  (.seq (.reg [⟨none, (.bs 5 9 none [])⟩,
    ⟨none, (.mv (some 3) (.t 5))⟩])
  (.seq (.seq (.reg [⟨none, (.mv (some 4) (.v (.int .i64 0)))⟩])
  (.block 0 (.loop ⟨[(3, (.row 5 9 .str)), (4, (.lf (.int .i64)))], [], [6, 7, 8, 9, 10, 11, 12, 13, 14, 15, 16, 17, 18, 19, 20, 21, 22, 23, 24, 25, 26, 27].map .s ++ [26].map .f⟩ (.seq (.seq (.reg [⟨none, (.mv (some 6) (.t 4))⟩,
    ⟨none, (.mv (some 7) (.t 0))⟩,
    ⟨none, (.ln 8 (some 39) (.t 7))⟩,
    ⟨none, (.ar 9 .lss (.t 6) (.t 8))⟩])
  (.cond (.t 9)
    .skip
    (.exit 0)))
  (.seq (.block 1 (.reg [⟨none, (.mv (some 12) (.t 3))⟩,
    ⟨none, (.mv (some 13) (.t 0))⟩,
    ⟨none, (.mv (some 14) (.t 4))⟩,
    ⟨none, (.ea 15 39 (.t 13) (.t 14))⟩,
    ⟨none, (.fa 16 39 0 (.t 15))⟩,
    ⟨none, (.ld 17 none (.t 16))⟩,
    ⟨none, (.ar 18 .add (.t 17) (.v (.str [0])))⟩,
    ⟨none, (.mv (some 19) (.t 0))⟩,
    ⟨none, (.mv (some 20) (.t 4))⟩,
    ⟨none, (.ea 21 39 (.t 19) (.t 20))⟩,
    ⟨none, (.fa 22 39 1 (.t 21))⟩,
    ⟨none, (.ld 23 none (.t 22))⟩,
    ⟨none, (.ar 24 .add (.t 18) (.t 23))⟩,
    ⟨none, (.ca (some 25) 32 [(.t 24)])⟩,
    ⟨none, (.bs 26 9 none [(.t 25)])⟩,
    ⟨none, (.ap 27 9 (.t 12) (.t 26))⟩,
    ⟨none, (.mv (some 3) (.t 27))⟩]))
  (.reg [⟨none, (.mv (some 10) (.t 4))⟩,
    ⟨none, (.ar 11 .add (.t 10) (.v (.int .i64 1)))⟩,
    ⟨none, (.mv (some 4) (.t 11))⟩]))))))
  (.seq (.reg [⟨none, (.mv (some 28) (.t 3))⟩,
    ⟨none, (.ca (some 29) 33 [(.t 28)])⟩,
    ⟨none, (.mv (some 2) (.t 29))⟩])
  .ret))))
noncomputable def ent16 : TEnt := ⟨16, [(.sl 39 (.agg 39 (.pair .str .str)))], .str, fun x => F16 x, .plain⟩
theorem eq16 (x : dens ent16.as) : ent16.F x = evF [ent32, ent33] SHF dc16 [(.tmp 2)] ent16.as ent16.rs x := by kernel_rfl
/-- library/libraryref44.Manifest -/
noncomputable def F18 (a0 : List (List UInt8 × List UInt8)) : Option (List UInt8 × Int) :=
  bindO (F14 a0) fun y1 =>
  cond (!decide (y1 = (0 : Int)))
    (some (([] : List UInt8), y1))
    (loopK (σ := List UInt8 × Int) (fun p2 againp2 =>
      cond (decide (p2.2 < (List.length a0 : Int)))
        (gd (0 ≤ p2.2 ∧ p2.2 < (List.length a0 : Int)) <|
        bindO (F32 ((List.getD a0 (Int.toNat p2.2) ([], [])).2)) fun y3 =>
        gd (List.length p2.1 + List.length y3 ≤ big) <|
        bnd (p2.1 ++ y3) fun x4 =>
        gd (List.length x4 + List.length ([32] : List UInt8) ≤ big) <|
        bnd (x4 ++ ([32] : List UInt8)) fun x5 =>
        gd (0 ≤ p2.2 ∧ p2.2 < (List.length a0 : Int)) <|
        gd (List.length x5 + List.length ((List.getD a0 (Int.toNat p2.2) ([], [])).1) ≤ big) <|
        bnd (x5 ++ ((List.getD a0 (Int.toNat p2.2) ([], [])).1)) fun x6 =>
        gd (List.length x6 + List.length ([10] : List UInt8) ≤ big) <|
        bnd (x6 ++ ([10] : List UInt8)) fun x7 =>
        bnd (IntKind.wrap .i64 (p2.2 + (1 : Int))) fun x8 =>
        againp2 (x7, x8))
        (some (p2.1, (0 : Int)))) (([] : List UInt8), (0 : Int)))
def dc18 : DC :=
  (.seq (.reg [⟨none, (.mv (some 2) (.v (.str [])))⟩,
    ⟨none, (.mv (some 3) (.v (.int .i64 0)))⟩])
  (.seq (.reg [⟨none, (.mv (some 7) (.t 0))⟩,
    ⟨none, (.ca (some 8) 14 [(.t 7)])⟩,
    ⟨none, (.mv (some 4) (.t 8))⟩])
  (.seq (.seq (.reg [⟨none, (.mv (some 9) (.t 4))⟩,
    ⟨none, (.ar 10 .neq (.t 9) (.v (.int .i64 0)))⟩])
  (.cond (.t 10)
    (.seq (.reg [⟨none, (.mv (some 11) (.t 4))⟩,
    ⟨none, (.mv (some 2) (.v (.str [])))⟩,
    ⟨none, (.mv (some 3) (.t 11))⟩])
  .ret)
    .skip))
  (.seq (.reg [⟨none, (.mv (some 5) (.v (.str [])))⟩])
  (.seq (.seq (.reg [⟨none, (.mv (some 6) (.v (.int .i64 0)))⟩])
  (.block 0 (.loop ⟨[(5, (.lf .str)), (6, (.lf (.int .i64)))], [], [12, 13, 14, 15, 16, 17, 18, 19, 20, 21, 22, 23, 24, 25, 26, 27, 28, 29, 30, 31, 32, 33].map .s⟩ (.seq (.seq (.reg [⟨none, (.mv (some 12) (.t 6))⟩,
    ⟨none, (.mv (some 13) (.t 0))⟩,
    ⟨none, (.ln 14 (some 39) (.t 13))⟩,
    ⟨none, (.ar 15 .lss (.t 12) (.t 14))⟩])
  (.cond (.t 15)
    .skip
    (.exit 0)))
  (.seq (.block 1 (.reg [⟨none, (.mv (some 18) (.t 5))⟩,
    ⟨none, (.mv (some 19) (.t 0))⟩,
    ⟨none, (.mv (some 20) (.t 6))⟩,
    ⟨none, (.ea 21 39 (.t 19) (.t 20))⟩,
    ⟨none, (.fa 22 39 1 (.t 21))⟩,
    ⟨none, (.ld 23 none (.t 22))⟩,
    ⟨none, (.ca (some 24) 32 [(.t 23)])⟩,
    ⟨none, (.ar 25 .add (.t 18) (.t 24))⟩,
    ⟨none, (.ar 26 .add (.t 25) (.v (.str [32])))⟩,
    ⟨none, (.mv (some 27) (.t 0))⟩,
    ⟨none, (.mv (some 28) (.t 6))⟩,
    ⟨none, (.ea 29 39 (.t 27) (.t 28))⟩,
    ⟨none, (.fa 30 39 0 (.t 29))⟩,
    ⟨none, (.ld 31 none (.t 30))⟩,
    ⟨none, (.ar 32 .add (.t 26) (.t 31))⟩,
    ⟨none, (.ar 33 .add (.t 32) (.v (.str [10])))⟩,
    ⟨none, (.mv (some 5) (.t 33))⟩]))
  (.reg [⟨none, (.mv (some 16) (.t 6))⟩,
    ⟨none, (.ar 17 .add (.t 16) (.v (.int .i64 1)))⟩,
    ⟨none, (.mv (some 6) (.t 17))⟩]))))))
  (.seq (.reg [⟨none, (.mv (some 34) (.t 5))⟩,
    ⟨none, (.mv (some 2) (.t 34))⟩,
    ⟨none, (.mv (some 3) (.v (.int .i64 0)))⟩])
  .ret))))))
noncomputable def ent18 : TEnt := ⟨18, [(.sl 39 (.agg 39 (.pair .str .str)))], (.tup (.pair .str (.int .i64))), fun x => F18 x, .plain⟩
theorem eq18 (x : dens ent18.as) : ent18.F x = evF [ent14, ent32] SHF dc18 [(.tmp 2), (.tmp 3)] ent18.as ent18.rs x := by kernel_rfl
/-- library/libraryref11.Decimal -/
noncomputable def F41 (a0 : Int) : Option (List UInt8) :=
  loopK (σ := Int × List UInt8) (fun p1 againp1 =>
    cond (decide ((10 : Int) ≤ p1.1))
      (gd ((10 : Int) ≠ 0) <|
      bnd (Int.tmod p1.1 (10 : Int)) fun x2 =>
      bnd (IntKind.wrap .i64 ((48 : Int) + x2)) fun x3 =>
      gd ((0 : Int) ≤ (IntKind.wrap .u8 x3) ∧ (IntKind.wrap .u8 x3) < (256 : Int)) <|
      gd (List.length [(UInt8.ofNat (Int.toNat (IntKind.wrap .u8 x3)))] + List.length p1.2 ≤ big) <|
      bnd ([(UInt8.ofNat (Int.toNat (IntKind.wrap .u8 x3)))] ++ p1.2) fun x4 =>
      gd ((10 : Int) ≠ 0) <|
      bnd (IntKind.wrap .i64 (Int.tdiv p1.1 (10 : Int))) fun x5 =>
      againp1 (x5, x4))
      (bnd (IntKind.wrap .i64 ((48 : Int) + p1.1)) fun x6 =>
      gd ((0 : Int) ≤ (IntKind.wrap .u8 x6) ∧ (IntKind.wrap .u8 x6) < (256 : Int)) <|
      gd (List.length [(UInt8.ofNat (Int.toNat (IntKind.wrap .u8 x6)))] + List.length p1.2 ≤ big) <|
      bnd ([(UInt8.ofNat (Int.toNat (IntKind.wrap .u8 x6)))] ++ p1.2) fun x7 =>
      some x7)) (a0, ([] : List UInt8))
def dc41 : DC :=
  (.seq (.reg [⟨none, (.mv (some 2) (.v (.str [])))⟩])
  (.seq (.reg [⟨none, (.mv (some 3) (.v (.str [])))⟩])
  (.seq (.block 0 (.loop ⟨[(0, (.lf (.int .i64))), (3, (.lf .str))], [], [4, 5, 6, 7, 8, 9, 10, 11, 12, 13, 14, 15].map .s ++ [10].map .f⟩ (.seq (.seq (.reg [⟨none, (.mv (some 4) (.t 0))⟩,
    ⟨none, (.ar 5 .geq (.t 4) (.v (.int .i64 10)))⟩])
  (.cond (.t 5)
    .skip
    (.exit 0)))
  (.block 1 (.seq (.reg [⟨none, (.mv (some 6) (.t 0))⟩,
    ⟨none, (.ar 7 .rem (.t 6) (.v (.int .i64 10)))⟩,
    ⟨none, (.ar 8 .add (.v (.int .i64 48)) (.t 7))⟩,
    ⟨none, (.cvi 9 .u8 (.t 8))⟩,
    ⟨none, (.bs 10 5 none [(.t 9)])⟩,
    ⟨none, (.cvb 11 (.t 10))⟩,
    ⟨none, (.mv (some 12) (.t 3))⟩,
    ⟨none, (.ar 13 .add (.t 11) (.t 12))⟩,
    ⟨none, (.mv (some 3) (.t 13))⟩])
  (.reg [⟨none, (.mv (some 14) (.t 0))⟩,
    ⟨none, (.ar 15 .quo (.t 14) (.v (.int .i64 10)))⟩,
    ⟨none, (.mv (some 0) (.t 15))⟩]))))))
  (.seq (.reg [⟨none, (.mv (some 16) (.t 0))⟩,
    ⟨none, (.ar 17 .add (.v (.int .i64 48)) (.t 16))⟩,
    ⟨none, (.cvi 18 .u8 (.t 17))⟩,
    ⟨none, (.bs 19 5 none [(.t 18)])⟩,
    ⟨none, (.cvb 20 (.t 19))⟩,
    ⟨none, (.mv (some 21) (.t 3))⟩,
    ⟨none, (.ar 22 .add (.t 20) (.t 21))⟩,
    ⟨none, (.mv (some 2) (.t 22))⟩])
  .ret))))
noncomputable def ent41 : TEnt := ⟨41, [(.int .i64)], .str, fun x => F41 x, .plain⟩
theorem eq41 (x : dens ent41.as) : ent41.F x = evF [] SHF dc41 [(.tmp 2)] ent41.as ent41.rs x := by kernel_rfl
/-- library/libraryref44.Pack -/
noncomputable def F23 (a0 : List (List UInt8 × List UInt8)) : Option (List UInt8 × Int) :=
  bindO (F14 a0) fun y1 =>
  cond (!decide (y1 = (0 : Int)))
    (some (([] : List UInt8), y1))
    (bindO (F41 (List.length a0 : Int)) fun y2 =>
    gd (List.length ([66, 65, 71, 49, 10] : List UInt8) + List.length y2 ≤ big) <|
    bnd (([66, 65, 71, 49, 10] : List UInt8) ++ y2) fun x3 =>
    gd (List.length x3 + List.length ([10] : List UInt8) ≤ big) <|
    bnd (x3 ++ ([10] : List UInt8)) fun x4 =>
    loopK (σ := List UInt8 × List UInt8 × Int) (fun p5 againp5 =>
      cond (decide (p5.2.2 < (List.length a0 : Int)))
        (gd (0 ≤ p5.2.2 ∧ p5.2.2 < (List.length a0 : Int)) <|
        bindO (F41 (List.length ((List.getD a0 (Int.toNat p5.2.2) ([], [])).2) : Int)) fun y6 =>
        gd (List.length p5.1 + List.length y6 ≤ big) <|
        bnd (p5.1 ++ y6) fun x7 =>
        gd (List.length x7 + List.length ([32] : List UInt8) ≤ big) <|
        bnd (x7 ++ ([32] : List UInt8)) fun x8 =>
        gd (0 ≤ p5.2.2 ∧ p5.2.2 < (List.length a0 : Int)) <|
        gd (List.length x8 + List.length ((List.getD a0 (Int.toNat p5.2.2) ([], [])).1) ≤ big) <|
        bnd (x8 ++ ((List.getD a0 (Int.toNat p5.2.2) ([], [])).1)) fun x9 =>
        gd (List.length x9 + List.length ([10] : List UInt8) ≤ big) <|
        bnd (x9 ++ ([10] : List UInt8)) fun x10 =>
        gd (0 ≤ p5.2.2 ∧ p5.2.2 < (List.length a0 : Int)) <|
        gd (List.length p5.2.1 + List.length ((List.getD a0 (Int.toNat p5.2.2) ([], [])).2) ≤ big) <|
        bnd (p5.2.1 ++ ((List.getD a0 (Int.toNat p5.2.2) ([], [])).2)) fun x11 =>
        bnd (IntKind.wrap .i64 (p5.2.2 + (1 : Int))) fun x12 =>
        againp5 (x10, x11, x12))
        (gd (List.length p5.1 + List.length p5.2.1 ≤ big) <|
        bnd (p5.1 ++ p5.2.1) fun x13 =>
        bindO (F16 a0) fun y14 =>
        gd (List.length x13 + List.length y14 ≤ big) <|
        bnd (x13 ++ y14) fun x15 =>
        some (x15, (0 : Int)))) (x4, ([] : List UInt8), (0 : Int)))
def dc23 : DC :=
  (.seq (.reg [⟨none, (.mv (some 2) (.v (.str [])))⟩,
    ⟨none, (.mv (some 3) (.v (.int .i64 0)))⟩])
  (.seq (.reg [⟨none, (.mv (some 8) (.t 0))⟩,
    ⟨none, (.ca (some 9) 14 [(.t 8)])⟩,
    ⟨none, (.mv (some 4) (.t 9))⟩])
  (.seq (.seq (.reg [⟨none, (.mv (some 10) (.t 4))⟩,
    ⟨none, (.ar 11 .neq (.t 10) (.v (.int .i64 0)))⟩])
  (.cond (.t 11)
    (.seq (.reg [⟨none, (.mv (some 12) (.t 4))⟩,
    ⟨none, (.mv (some 2) (.v (.str [])))⟩,
    ⟨none, (.mv (some 3) (.t 12))⟩])
  .ret)
    .skip))
  (.seq (.reg [⟨none, (.mv (some 13) (.t 0))⟩,
    ⟨none, (.ln 14 (some 39) (.t 13))⟩,
    ⟨none, (.ca (some 15) 41 [(.t 14)])⟩,
    ⟨none, (.ar 16 .add (.v (.str [66, 65, 71, 49, 10])) (.t 15))⟩,
    ⟨none, (.ar 17 .add (.t 16) (.v (.str [10])))⟩,
    ⟨none, (.mv (some 5) (.t 17))⟩])
  (.seq (.reg [⟨none, (.mv (some 6) (.v (.str [])))⟩])
  (.seq (.seq (.reg [⟨none, (.mv (some 7) (.v (.int .i64 0)))⟩])
  (.block 0 (.loop ⟨[(5, (.lf .str)), (6, (.lf .str)), (7, (.lf (.int .i64)))], [], [18, 19, 20, 21, 22, 23, 24, 25, 26, 27, 28, 29, 30, 31, 32, 33, 34, 35, 36, 37, 38, 39, 40, 41, 42, 43, 44, 45, 46, 47].map .s⟩ (.seq (.seq (.reg [⟨none, (.mv (some 18) (.t 7))⟩,
    ⟨none, (.mv (some 19) (.t 0))⟩,
    ⟨none, (.ln 20 (some 39) (.t 19))⟩,
    ⟨none, (.ar 21 .lss (.t 18) (.t 20))⟩])
  (.cond (.t 21)
    .skip
    (.exit 0)))
  (.seq (.block 1 (.seq (.reg [⟨none, (.mv (some 24) (.t 5))⟩,
    ⟨none, (.mv (some 25) (.t 0))⟩,
    ⟨none, (.mv (some 26) (.t 7))⟩,
    ⟨none, (.ea 27 39 (.t 25) (.t 26))⟩,
    ⟨none, (.fa 28 39 1 (.t 27))⟩,
    ⟨none, (.ld 29 none (.t 28))⟩,
    ⟨none, (.ln 30 none (.t 29))⟩,
    ⟨none, (.ca (some 31) 41 [(.t 30)])⟩,
    ⟨none, (.ar 32 .add (.t 24) (.t 31))⟩,
    ⟨none, (.ar 33 .add (.t 32) (.v (.str [32])))⟩,
    ⟨none, (.mv (some 34) (.t 0))⟩,
    ⟨none, (.mv (some 35) (.t 7))⟩,
    ⟨none, (.ea 36 39 (.t 34) (.t 35))⟩,
    ⟨none, (.fa 37 39 0 (.t 36))⟩,
    ⟨none, (.ld 38 none (.t 37))⟩,
    ⟨none, (.ar 39 .add (.t 33) (.t 38))⟩,
    ⟨none, (.ar 40 .add (.t 39) (.v (.str [10])))⟩,
    ⟨none, (.mv (some 5) (.t 40))⟩])
  (.reg [⟨none, (.mv (some 41) (.t 6))⟩,
    ⟨none, (.mv (some 42) (.t 0))⟩,
    ⟨none, (.mv (some 43) (.t 7))⟩,
    ⟨none, (.ea 44 39 (.t 42) (.t 43))⟩,
    ⟨none, (.fa 45 39 1 (.t 44))⟩,
    ⟨none, (.ld 46 none (.t 45))⟩,
    ⟨none, (.ar 47 .add (.t 41) (.t 46))⟩,
    ⟨none, (.mv (some 6) (.t 47))⟩])))
  (.reg [⟨none, (.mv (some 22) (.t 7))⟩,
    ⟨none, (.ar 23 .add (.t 22) (.v (.int .i64 1)))⟩,
    ⟨none, (.mv (some 7) (.t 23))⟩]))))))
  (.seq (.reg [⟨none, (.mv (some 48) (.t 5))⟩,
    ⟨none, (.mv (some 49) (.t 6))⟩,
    ⟨none, (.ar 50 .add (.t 48) (.t 49))⟩,
    ⟨none, (.mv (some 51) (.t 0))⟩,
    ⟨none, (.ca (some 52) 16 [(.t 51)])⟩,
    ⟨none, (.ar 53 .add (.t 50) (.t 52))⟩,
    ⟨none, (.mv (some 2) (.t 53))⟩,
    ⟨none, (.mv (some 3) (.v (.int .i64 0)))⟩])
  .ret)))))))
noncomputable def ent23 : TEnt := ⟨23, [(.sl 39 (.agg 39 (.pair .str .str)))], (.tup (.pair .str (.int .i64))), fun x => F23 x, .plain⟩
theorem eq23 (x : dens ent23.as) : ent23.F x = evF [ent14, ent16, ent41] SHF dc23 [(.tmp 2), (.tmp 3)] ent23.as ent23.rs x := by kernel_rfl
/-- library/libraryref11.Line -/
noncomputable def F45 (a0 : List UInt8) (a1 : Int) : Option (List UInt8 × Int × Bool) :=
  loopK (σ := Int) (fun p1 againp1 =>
    cond (decide (p1 < (List.length a0 : Int)))
      (gd (0 ≤ p1 ∧ p1 < (List.length a0 : Int)) <|
      cond (decide ((UInt8.toNat (List.getD a0 (Int.toNat p1) 0) : Int) = (10 : Int)))
        (gd (0 ≤ a1 ∧ a1 ≤ p1 ∧ p1 ≤ (List.length a0 : Int)) <|
        bnd (List.drop (Int.toNat a1) (List.take (Int.toNat p1) a0)) fun x2 =>
        bnd (IntKind.wrap .i64 (p1 + (1 : Int))) fun x3 =>
        some (x2, x3, true))
        (bnd (IntKind.wrap .i64 (p1 + (1 : Int))) fun x4 =>
        againp1 x4))
      (gd (0 ≤ a1 ∧ a1 ≤ (List.length a0 : Int)) <|
      bnd (List.drop (Int.toNat a1) a0) fun x5 =>
      some (x5, (List.length a0 : Int), false))) a1
def dc45 : DC :=
  (.seq (.reg [⟨none, (.mv (some 4) (.v (.str [])))⟩,
    ⟨none, (.mv (some 5) (.v (.int .i64 0)))⟩,
    ⟨none, (.mv (some 6) (.v (.bool false)))⟩])
  (.seq (.seq (.reg [⟨none, (.mv (some 8) (.t 1))⟩,
    ⟨none, (.mv (some 7) (.t 8))⟩])
  (.block 0 (.loop ⟨[(7, (.lf (.int .i64)))], [], [4, 5, 6, 9, 10, 11, 12, 13, 14, 15, 16, 17, 18, 19, 20, 21, 22, 23, 24].map .s⟩ (.seq (.seq (.reg [⟨none, (.mv (some 9) (.t 7))⟩,
    ⟨none, (.mv (some 10) (.t 0))⟩,
    ⟨none, (.ln 11 none (.t 10))⟩,
    ⟨none, (.ar 12 .lss (.t 9) (.t 11))⟩])
  (.cond (.t 12)
    .skip
    (.exit 0)))
  (.seq (.block 1 (.seq (.reg [⟨none, (.mv (some 15) (.t 0))⟩,
    ⟨none, (.mv (some 16) (.t 7))⟩,
    ⟨none, (.ix 17 (.t 15) (.t 16))⟩,
    ⟨none, (.ar 18 .eql (.t 17) (.v (.int .u8 10)))⟩])
  (.cond (.t 18)
    (.seq (.reg [⟨none, (.mv (some 19) (.t 0))⟩,
    ⟨none, (.mv (some 20) (.t 1))⟩,
    ⟨none, (.mv (some 21) (.t 7))⟩,
    ⟨none, (.sc 22 none (.t 19) (some (.t 20)) (some (.t 21)))⟩,
    ⟨none, (.mv (some 23) (.t 7))⟩,
    ⟨none, (.ar 24 .add (.t 23) (.v (.int .i64 1)))⟩,
    ⟨none, (.mv (some 4) (.t 22))⟩,
    ⟨none, (.mv (some 5) (.t 24))⟩,
    ⟨none, (.mv (some 6) (.v (.bool true)))⟩])
  .ret)
    .skip)))
  (.reg [⟨none, (.mv (some 13) (.t 7))⟩,
    ⟨none, (.ar 14 .add (.t 13) (.v (.int .i64 1)))⟩,
    ⟨none, (.mv (some 7) (.t 14))⟩]))))))
  (.seq (.reg [⟨none, (.mv (some 25) (.t 0))⟩,
    ⟨none, (.mv (some 26) (.t 1))⟩,
    ⟨none, (.sc 27 none (.t 25) (some (.t 26)) none)⟩,
    ⟨none, (.mv (some 28) (.t 0))⟩,
    ⟨none, (.ln 29 none (.t 28))⟩,
    ⟨none, (.mv (some 4) (.t 27))⟩,
    ⟨none, (.mv (some 5) (.t 29))⟩,
    ⟨none, (.mv (some 6) (.v (.bool false)))⟩])
  .ret)))
noncomputable def ent45 : TEnt := ⟨45, [.str, (.int .i64)], (.tup (.pair .str (.pair (.int .i64) .bool))), fun x => F45 x.1 x.2, .plain⟩
theorem eq45 (x : dens ent45.as) : ent45.F x = evF [] SHF dc45 [(.tmp 4), (.tmp 5), (.tmp 6)] ent45.as ent45.rs x := by kernel_rfl
/-- library/libraryref11.Number -/
noncomputable def F46 (a0 : List UInt8) : Option (Int × Bool) :=
  jn (σ := Unit) (fun nextj1 =>
    cond (decide ((List.length a0 : Int) < (1 : Int)))
      (some ((0 : Int), false))
      (cond (decide ((9 : Int) < (List.length a0 : Int)))
        (some ((0 : Int), false))
        (gd (0 ≤ (0 : Int) ∧ (0 : Int) < (List.length a0 : Int)) <|
        cond (decide ((UInt8.toNat (List.getD a0 (Int.toNat (0 : Int)) 0) : Int) = (48 : Int)))
          (cond (decide ((1 : Int) < (List.length a0 : Int)))
            (some ((0 : Int), false))
            (nextj1 ()))
          (nextj1 ())))) fun j1 =>
  loopK (σ := Int × Int) (fun p2 againp2 =>
    cond (decide (p2.2 < (List.length a0 : Int)))
      (gd (0 ≤ p2.2 ∧ p2.2 < (List.length a0 : Int)) <|
      cond (decide ((UInt8.toNat (List.getD a0 (Int.toNat p2.2) 0) : Int) < (48 : Int)))
        (some ((0 : Int), false))
        (gd (0 ≤ p2.2 ∧ p2.2 < (List.length a0 : Int)) <|
        cond (decide ((57 : Int) < (UInt8.toNat (List.getD a0 (Int.toNat p2.2) 0) : Int)))
          (some ((0 : Int), false))
          (bnd (IntKind.wrap .i64 (p2.1 * (10 : Int))) fun x3 =>
          gd (0 ≤ p2.2 ∧ p2.2 < (List.length a0 : Int)) <|
          bnd (IntKind.wrap .u8 ((UInt8.toNat (List.getD a0 (Int.toNat p2.2) 0) : Int) - (48 : Int))) fun x4 =>
          bnd (IntKind.wrap .i64 (x3 + (IntKind.wrap .i64 x4))) fun x5 =>
          bnd (IntKind.wrap .i64 (p2.2 + (1 : Int))) fun x6 =>
          againp2 (x5, x6))))
      (some (p2.1, true))) ((0 : Int), (0 : Int))
def dc46 : DC :=
  (.seq (.reg [⟨none, (.mv (some 2) (.v (.int .i64 0)))⟩,
    ⟨none, (.mv (some 3) (.v (.bool false)))⟩])
  (.jn ⟨[], [], [6, 7, 8, 9, 10, 11, 12, 13, 14, 15, 16, 17, 18, 19, 20, 21, 22, 23].map .s⟩ (.seq (.reg [⟨none, (.mv (some 6) (.t 0))⟩,
    ⟨none, (.ln 7 none (.t 6))⟩,
    ⟨none, (.ar 8 .lss (.t 7) (.v (.int .i64 1)))⟩,
    ⟨none, (.mv (some 9) (.t 8))⟩,
    ⟨(some (9, false)), (.mv (some 10) (.t 0))⟩,
    ⟨(some (9, false)), (.ln 11 none (.t 10))⟩,
    ⟨(some (9, false)), (.ar 12 .gtr (.t 11) (.v (.int .i64 9)))⟩,
    ⟨none, (.pick 13 (.t 9) (.v (.bool true)) (.t 12))⟩,
    ⟨none, (.mv (some 14) (.t 13))⟩,
    ⟨(some (14, false)), (.mv (some 15) (.t 0))⟩,
    ⟨(some (14, false)), (.ix 16 (.t 15) (.v (.int .i64 0)))⟩,
    ⟨(some (14, false)), (.ar 17 .eql (.t 16) (.v (.int .u8 48)))⟩,
    ⟨(some (14, false)), (.mv (some 18) (.t 17))⟩,
    ⟨(some (18, true)), (.mv (some 19) (.t 0))⟩,
    ⟨(some (18, true)), (.ln 20 none (.t 19))⟩,
    ⟨(some (18, true)), (.ar 21 .gtr (.t 20) (.v (.int .i64 1)))⟩,
    ⟨(some (14, false)), (.pick 22 (.t 18) (.t 21) (.v (.bool false)))⟩,
    ⟨none, (.pick 23 (.t 14) (.v (.bool true)) (.t 22))⟩])
  (.cond (.t 23)
    (.seq (.reg [⟨none, (.mv (some 2) (.v (.int .i64 0)))⟩,
    ⟨none, (.mv (some 3) (.v (.bool false)))⟩])
  .ret)
    .skip))
  (.seq (.reg [⟨none, (.mv (some 4) (.v (.int .i64 0)))⟩])
  (.seq (.seq (.reg [⟨none, (.mv (some 5) (.v (.int .i64 0)))⟩])
  (.block 0 (.loop ⟨[(4, (.lf (.int .i64))), (5, (.lf (.int .i64)))], [], [2, 3, 24, 25, 26, 27, 28, 29, 30, 31, 32, 33, 34, 35, 36, 37, 38, 39, 40, 41, 42, 43, 44, 45, 46, 47].map .s⟩ (.seq (.seq (.reg [⟨none, (.mv (some 24) (.t 5))⟩,
    ⟨none, (.mv (some 25) (.t 0))⟩,
    ⟨none, (.ln 26 none (.t 25))⟩,
    ⟨none, (.ar 27 .lss (.t 24) (.t 26))⟩])
  (.cond (.t 27)
    .skip
    (.exit 0)))
  (.seq (.block 1 (.seq (.seq (.reg [⟨none, (.mv (some 30) (.t 0))⟩,
    ⟨none, (.mv (some 31) (.t 5))⟩,
    ⟨none, (.ix 32 (.t 30) (.t 31))⟩,
    ⟨none, (.ar 33 .lss (.t 32) (.v (.int .u8 48)))⟩,
    ⟨none, (.mv (some 34) (.t 33))⟩,
    ⟨(some (34, false)), (.mv (some 35) (.t 0))⟩,
    ⟨(some (34, false)), (.mv (some 36) (.t 5))⟩,
    ⟨(some (34, false)), (.ix 37 (.t 35) (.t 36))⟩,
    ⟨(some (34, false)), (.ar 38 .gtr (.t 37) (.v (.int .u8 57)))⟩,
    ⟨none, (.pick 39 (.t 34) (.v (.bool true)) (.t 38))⟩])
  (.cond (.t 39)
    (.seq (.reg [⟨none, (.mv (some 2) (.v (.int .i64 0)))⟩,
    ⟨none, (.mv (some 3) (.v (.bool false)))⟩])
  .ret)
    .skip))
  (.reg [⟨none, (.mv (some 40) (.t 4))⟩,
    ⟨none, (.ar 41 .mul (.t 40) (.v (.int .i64 10)))⟩,
    ⟨none, (.mv (some 42) (.t 0))⟩,
    ⟨none, (.mv (some 43) (.t 5))⟩,
    ⟨none, (.ix 44 (.t 42) (.t 43))⟩,
    ⟨none, (.ar 45 .sub (.t 44) (.v (.int .u8 48)))⟩,
    ⟨none, (.cvi 46 .i64 (.t 45))⟩,
    ⟨none, (.ar 47 .add (.t 41) (.t 46))⟩,
    ⟨none, (.mv (some 4) (.t 47))⟩])))
  (.reg [⟨none, (.mv (some 28) (.t 5))⟩,
    ⟨none, (.ar 29 .add (.t 28) (.v (.int .i64 1)))⟩,
    ⟨none, (.mv (some 5) (.t 29))⟩]))))))
  (.seq (.reg [⟨none, (.mv (some 48) (.t 4))⟩,
    ⟨none, (.mv (some 2) (.t 48))⟩,
    ⟨none, (.mv (some 3) (.v (.bool true)))⟩])
  .ret)))))
noncomputable def ent46 : TEnt := ⟨46, [.str], (.tup (.pair (.int .i64) .bool)), fun x => F46 x, .plain⟩
theorem eq46 (x : dens ent46.as) : ent46.F x = evF [] SHF dc46 [(.tmp 2), (.tmp 3)] ent46.as ent46.rs x := by kernel_rfl
/-- library/libraryref44.split -/
noncomputable def F47 (a0 : List UInt8) : Option (Int × List UInt8 × Bool) :=
  loopK (σ := Int) (fun p1 againp1 =>
    cond (decide (p1 < (List.length a0 : Int)))
      (gd (0 ≤ p1 ∧ p1 < (List.length a0 : Int)) <|
      cond (decide ((UInt8.toNat (List.getD a0 (Int.toNat p1) 0) : Int) = (32 : Int)))
        (gd (0 ≤ p1 ∧ p1 ≤ (List.length a0 : Int)) <|
        bnd (List.take (Int.toNat p1) a0) fun x2 =>
        bindO (F46 x2) fun y3 =>
        bnd (IntKind.wrap .i64 (p1 + (1 : Int))) fun x4 =>
        gd (0 ≤ x4 ∧ x4 ≤ (List.length a0 : Int)) <|
        bnd (List.drop (Int.toNat x4) a0) fun x5 =>
        some (y3.1, x5, y3.2))
        (bnd (IntKind.wrap .i64 (p1 + (1 : Int))) fun x6 =>
        againp1 x6))
      (some ((0 : Int), ([] : List UInt8), false))) (0 : Int)
def dc47 : DC :=
  (.seq (.reg [⟨none, (.mv (some 2) (.v (.int .i64 0)))⟩,
    ⟨none, (.mv (some 3) (.v (.str [])))⟩,
    ⟨none, (.mv (some 4) (.v (.bool false)))⟩])
  (.seq (.seq (.reg [⟨none, (.mv (some 5) (.v (.int .i64 0)))⟩])
  (.block 0 (.loop ⟨[(5, (.lf (.int .i64)))], [], [2, 3, 4, 6, 7, 8, 9, 10, 11, 12, 13, 14, 15, 16, 17, 18, 19, 20, 21, 22, 23, 24, 25, 26, 27, 28, 29, 30].map .s⟩ (.seq (.seq (.reg [⟨none, (.mv (some 8) (.t 5))⟩,
    ⟨none, (.mv (some 9) (.t 0))⟩,
    ⟨none, (.ln 10 none (.t 9))⟩,
    ⟨none, (.ar 11 .lss (.t 8) (.t 10))⟩])
  (.cond (.t 11)
    .skip
    (.exit 0)))
  (.seq (.block 1 (.seq (.reg [⟨none, (.mv (some 14) (.t 0))⟩,
    ⟨none, (.mv (some 15) (.t 5))⟩,
    ⟨none, (.ix 16 (.t 14) (.t 15))⟩,
    ⟨none, (.ar 17 .eql (.t 16) (.v (.int .u8 32)))⟩])
  (.cond (.t 17)
    (.seq (.reg [⟨none, (.mv (some 19) (.t 0))⟩,
    ⟨none, (.mv (some 20) (.t 5))⟩,
    ⟨none, (.sc 21 none (.t 19) none (some (.t 20)))⟩,
    ⟨none, (.ca (some 22) 46 [(.t 21)])⟩,
    ⟨none, (.mv (some 18) (.t 22))⟩,
    ⟨none, (.ex 23 0 (.t 18))⟩,
    ⟨none, (.ex 24 1 (.t 18))⟩,
    ⟨none, (.mv (some 6) (.t 23))⟩,
    ⟨none, (.mv (some 7) (.t 24))⟩])
  (.seq (.reg [⟨none, (.mv (some 25) (.t 6))⟩,
    ⟨none, (.mv (some 26) (.t 0))⟩,
    ⟨none, (.mv (some 27) (.t 5))⟩,
    ⟨none, (.ar 28 .add (.t 27) (.v (.int .i64 1)))⟩,
    ⟨none, (.sc 29 none (.t 26) (some (.t 28)) none)⟩,
    ⟨none, (.mv (some 30) (.t 7))⟩,
    ⟨none, (.mv (some 2) (.t 25))⟩,
    ⟨none, (.mv (some 3) (.t 29))⟩,
    ⟨none, (.mv (some 4) (.t 30))⟩])
  .ret))
    .skip)))
  (.reg [⟨none, (.mv (some 12) (.t 5))⟩,
    ⟨none, (.ar 13 .add (.t 12) (.v (.int .i64 1)))⟩,
    ⟨none, (.mv (some 5) (.t 13))⟩]))))))
  (.seq (.reg [⟨none, (.mv (some 2) (.v (.int .i64 0)))⟩,
    ⟨none, (.mv (some 3) (.v (.str [])))⟩,
    ⟨none, (.mv (some 4) (.v (.bool false)))⟩])
  .ret)))
noncomputable def ent47 : TEnt := ⟨47, [.str], (.tup (.pair (.int .i64) (.pair .str .bool))), fun x => F47 x, .plain⟩
theorem eq47 (x : dens ent47.as) : ent47.F x = evF [ent46] SHF dc47 [(.tmp 2), (.tmp 3), (.tmp 4)] ent47.as ent47.rs x := by kernel_rfl
/-- library/libraryref44.Unpack -/
noncomputable def F25 (a0 : List UInt8) : Option ((List (List UInt8 × List UInt8)) × Int) :=
  jn (σ := Unit) (fun nextj1 =>
    nextj1 ()) fun j1 =>
  bindO (F45 a0 (0 : Int)) fun y2 =>
  cond (!decide (y2.1 = ([66, 65, 71, 49] : List UInt8)))
    (some (([] : List (List UInt8 × List UInt8)), (3 : Int)))
    (cond (!y2.2.2)
      (some (([] : List (List UInt8 × List UInt8)), (3 : Int)))
      (bindO (F45 a0 y2.2.1) fun y3 =>
      bindO (F46 y3.1) fun y4 =>
      cond (!y4.2)
        (some (([] : List (List UInt8 × List UInt8)), (3 : Int)))
        (cond (!y3.2.2)
          (some (([] : List (List UInt8 × List UInt8)), (3 : Int)))
          (cond (decide ((16 : Int) < y4.1))
            (some (([] : List (List UInt8 × List UInt8)), (3 : Int)))
            (gdN (List.length ([] : List (Int))) (List.length ([] : List (Int))) <|
            gdN (List.length ([] : List (List UInt8))) (List.length ([] : List (List UInt8))) <|
            loopK (σ := Int × List (Int) × List (List UInt8) × Int) (fun p5 againp5 =>
              cond (decide (p5.2.2.2 < y4.1))
                (bindO (F45 a0 p5.1) fun y6 =>
                bindO (F47 y6.1) fun y7 =>
                cond (!y7.2.2)
                  (some (([] : List (List UInt8 × List UInt8)), (3 : Int)))
                  (cond (!y6.2.2)
                    (some (([] : List (List UInt8 × List UInt8)), (3 : Int)))
                    (cond (decide ((2000 : Int) < y7.1))
                      (some (([] : List (List UInt8 × List UInt8)), (3 : Int)))
                      (gdN (List.length p5.2.1) (List.length p5.2.1) <|
                      gd (List.length p5.2.1 + List.length [y7.1] ≤ big) <|
                      bnd (p5.2.1 ++ [y7.1]) fun l8 =>
                      gdN (List.length p5.2.2.1) (List.length p5.2.2.1) <|
                      gd (List.length p5.2.2.1 + List.length [y7.2.1] ≤ big) <|
                      bnd (p5.2.2.1 ++ [y7.2.1]) fun l9 =>
                      bnd (IntKind.wrap .i64 (p5.2.2.2 + (1 : Int))) fun x10 =>
                      gdN (List.length l8) (List.length l8) <|
                      gdN (List.length l9) (List.length l9) <|
                      againp5 (y6.2.1, l8, l9, x10)))))
                (gdN (List.length ([] : List (List UInt8 × List UInt8))) (List.length ([] : List (List UInt8 × List UInt8))) <|
                loopK (σ := Int × (List (List UInt8 × List UInt8)) × Int) (fun p11 againp11 =>
                  cond (decide (p11.2.2 < y4.1))
                    (gd (0 ≤ p11.2.2 ∧ p11.2.2 < (List.length p5.2.1 : Int)) <|
                    bnd (IntKind.wrap .i64 ((List.length a0 : Int) - p11.1)) fun x12 =>
                    cond (decide (x12 < (List.getD p5.2.1 (Int.toNat p11.2.2) 0)))
                      (some (([] : List (List UInt8 × List UInt8)), (3 : Int)))
                      (gd (0 ≤ p11.2.2 ∧ p11.2.2 < (List.length p5.2.2.1 : Int)) <|
                      gd (0 ≤ p11.2.2 ∧ p11.2.2 < (List.length p5.2.1 : Int)) <|
                      bnd (IntKind.wrap .i64 (p11.1 + (List.getD p5.2.1 (Int.toNat p11.2.2) 0))) fun x13 =>
                      gd (0 ≤ p11.1 ∧ p11.1 ≤ x13 ∧ x13 ≤ (List.length a0 : Int)) <|
                      bnd (List.drop (Int.toNat p11.1) (List.take (Int.toNat x13) a0)) fun x14 =>
                      gdN (List.length p11.2.1) (List.length p11.2.1) <|
                      gd (List.length p11.2.1 + List.length [((List.getD p5.2.2.1 (Int.toNat p11.2.2) []), x14)] ≤ big) <|
                      bnd (p11.2.1 ++ [((List.getD p5.2.2.1 (Int.toNat p11.2.2) []), x14)]) fun l15 =>
                      gd (0 ≤ p11.2.2 ∧ p11.2.2 < (List.length p5.2.1 : Int)) <|
                      bnd (IntKind.wrap .i64 (p11.1 + (List.getD p5.2.1 (Int.toNat p11.2.2) 0))) fun x16 =>
                      bnd (IntKind.wrap .i64 (p11.2.2 + (1 : Int))) fun x17 =>
                      gdN (List.length l15) (List.length l15) <|
                      againp11 (x16, l15, x17)))
                    (bnd (IntKind.wrap .i64 ((List.length a0 : Int) - p11.1)) fun x18 =>
                    cond (!decide (x18 = (16 : Int)))
                      (some (([] : List (List UInt8 × List UInt8)), (3 : Int)))
                      (bindO (F14 p11.2.1) fun y19 =>
                      cond (!decide (y19 = (0 : Int)))
                        (some (([] : List (List UInt8 × List UInt8)), (3 : Int)))
                        (gd (0 ≤ p11.1 ∧ p11.1 ≤ (List.length a0 : Int)) <|
                        bnd (List.drop (Int.toNat p11.1) a0) fun x20 =>
                        bindO (F16 p11.2.1) fun y21 =>
                        cond (!decide (x20 = y21))
                          (some (([] : List (List UInt8 × List UInt8)), (5 : Int)))
                          (some (p11.2.1, (0 : Int))))))) (p5.1, ([] : List (List UInt8 × List UInt8)), (0 : Int)))) (y3.2.1, ([] : List (Int)), ([] : List (List UInt8)), (0 : Int)))))))
def dc25 : DC :=
  (.jn ⟨[], [], [2, 3].map .s ++ [2].map .f⟩ (.reg [⟨none, (.nl 2 39)⟩,
    ⟨none, (.mv (some 3) (.v (.int .i64 0)))⟩])
  (.seq (.reg [⟨none, (.mv (some 18) (.t 0))⟩,
    ⟨none, (.ca (some 19) 45 [(.t 18), (.v (.int .i64 0))])⟩,
    ⟨none, (.mv (some 17) (.t 19))⟩,
    ⟨none, (.ex 20 0 (.t 17))⟩,
    ⟨none, (.ex 21 1 (.t 17))⟩,
    ⟨none, (.ex 22 2 (.t 17))⟩,
    ⟨none, (.mv (some 4) (.t 20))⟩,
    ⟨none, (.mv (some 5) (.t 21))⟩,
    ⟨none, (.mv (some 6) (.t 22))⟩])
  (.seq (.seq (.reg [⟨none, (.mv (some 23) (.t 4))⟩,
    ⟨none, (.ar 24 .neq (.t 23) (.v (.str [66, 65, 71, 49])))⟩,
    ⟨none, (.mv (some 25) (.t 24))⟩,
    ⟨(some (25, false)), (.mv (some 26) (.t 6))⟩,
    ⟨(some (25, false)), (.un 27 .not (.t 26))⟩,
    ⟨none, (.pick 28 (.t 25) (.v (.bool true)) (.t 27))⟩])
  (.cond (.t 28)
    (.seq (.reg [⟨none, (.nl 2 39)⟩,
    ⟨none, (.mv (some 3) (.v (.int .i64 3)))⟩])
  .ret)
    .skip))
  (.seq (.reg [⟨none, (.mv (some 30) (.t 0))⟩,
    ⟨none, (.mv (some 31) (.t 5))⟩,
    ⟨none, (.ca (some 32) 45 [(.t 30), (.t 31)])⟩,
    ⟨none, (.mv (some 29) (.t 32))⟩,
    ⟨none, (.ex 33 0 (.t 29))⟩,
    ⟨none, (.ex 34 1 (.t 29))⟩,
    ⟨none, (.ex 35 2 (.t 29))⟩,
    ⟨none, (.mv (some 4) (.t 33))⟩,
    ⟨none, (.mv (some 5) (.t 34))⟩,
    ⟨none, (.mv (some 6) (.t 35))⟩])
  (.seq (.reg [⟨none, (.mv (some 37) (.t 4))⟩,
    ⟨none, (.ca (some 38) 46 [(.t 37)])⟩,
    ⟨none, (.mv (some 36) (.t 38))⟩,
    ⟨none, (.ex 39 0 (.t 36))⟩,
    ⟨none, (.ex 40 1 (.t 36))⟩,
    ⟨none, (.mv (some 7) (.t 39))⟩,
    ⟨none, (.mv (some 8) (.t 40))⟩])
  (.seq (.seq (.reg [⟨none, (.mv (some 41) (.t 8))⟩,
    ⟨none, (.un 42 .not (.t 41))⟩,
    ⟨none, (.mv (some 43) (.t 42))⟩,
    ⟨(some (43, false)), (.mv (some 44) (.t 6))⟩,
    ⟨(some (43, false)), (.un 45 .not (.t 44))⟩,
    ⟨none, (.pick 46 (.t 43) (.v (.bool true)) (.t 45))⟩,
    ⟨none, (.mv (some 47) (.t 46))⟩,
    ⟨(some (47, false)), (.mv (some 48) (.t 7))⟩,
    ⟨(some (47, false)), (.ar 49 .gtr (.t 48) (.v (.int .i64 16)))⟩,
    ⟨none, (.pick 50 (.t 47) (.v (.bool true)) (.t 49))⟩])
  (.cond (.t 50)
    (.seq (.reg [⟨none, (.nl 2 39)⟩,
    ⟨none, (.mv (some 3) (.v (.int .i64 3)))⟩])
  .ret)
    .skip))
  (.seq (.reg [⟨none, (.bs 51 3 none [])⟩,
    ⟨none, (.mv (some 9) (.t 51))⟩])
  (.seq (.reg [⟨none, (.bs 52 9 none [])⟩,
    ⟨none, (.mv (some 10) (.t 52))⟩])
  (.seq (.seq (.reg [⟨none, (.mv (some 11) (.v (.int .i64 0)))⟩])
  (.block 0 (.loop ⟨[(5, (.lf (.int .i64))), (9, (.row 51 3 (.int .i64))), (10, (.row 52 9 .str)), (11, (.lf (.int .i64)))], [], [2, 3, 4, 6, 12, 13, 14, 53, 54, 55, 56, 57, 58, 59, 60, 61, 62, 63, 64, 65, 66, 67, 68, 69, 70, 71, 72, 73, 74, 75, 76, 77, 78, 79, 80, 81, 82, 83, 84, 85, 86, 87, 88].map .s ++ [2, 83, 87].map .f⟩ (.seq (.seq (.reg [⟨none, (.mv (some 53) (.t 11))⟩,
    ⟨none, (.mv (some 54) (.t 7))⟩,
    ⟨none, (.ar 55 .lss (.t 53) (.t 54))⟩])
  (.cond (.t 55)
    .skip
    (.exit 0)))
  (.seq (.block 1 (.seq (.reg [⟨none, (.mv (some 59) (.t 0))⟩,
    ⟨none, (.mv (some 60) (.t 5))⟩,
    ⟨none, (.ca (some 61) 45 [(.t 59), (.t 60)])⟩,
    ⟨none, (.mv (some 58) (.t 61))⟩,
    ⟨none, (.ex 62 0 (.t 58))⟩,
    ⟨none, (.ex 63 1 (.t 58))⟩,
    ⟨none, (.ex 64 2 (.t 58))⟩,
    ⟨none, (.mv (some 4) (.t 62))⟩,
    ⟨none, (.mv (some 5) (.t 63))⟩,
    ⟨none, (.mv (some 6) (.t 64))⟩])
  (.seq (.reg [⟨none, (.mv (some 66) (.t 4))⟩,
    ⟨none, (.ca (some 67) 47 [(.t 66)])⟩,
    ⟨none, (.mv (some 65) (.t 67))⟩,
    ⟨none, (.ex 68 0 (.t 65))⟩,
    ⟨none, (.ex 69 1 (.t 65))⟩,
    ⟨none, (.ex 70 2 (.t 65))⟩,
    ⟨none, (.mv (some 12) (.t 68))⟩,
    ⟨none, (.mv (some 13) (.t 69))⟩,
    ⟨none, (.mv (some 14) (.t 70))⟩])
  (.seq (.seq (.reg [⟨none, (.mv (some 71) (.t 14))⟩,
    ⟨none, (.un 72 .not (.t 71))⟩,
    ⟨none, (.mv (some 73) (.t 72))⟩,
    ⟨(some (73, false)), (.mv (some 74) (.t 6))⟩,
    ⟨(some (73, false)), (.un 75 .not (.t 74))⟩,
    ⟨none, (.pick 76 (.t 73) (.v (.bool true)) (.t 75))⟩,
    ⟨none, (.mv (some 77) (.t 76))⟩,
    ⟨(some (77, false)), (.mv (some 78) (.t 12))⟩,
    ⟨(some (77, false)), (.ar 79 .gtr (.t 78) (.v (.int .i64 2000)))⟩,
    ⟨none, (.pick 80 (.t 77) (.v (.bool true)) (.t 79))⟩])
  (.cond (.t 80)
    (.seq (.reg [⟨none, (.nl 2 39)⟩,
    ⟨none, (.mv (some 3) (.v (.int .i64 3)))⟩])
  .ret)
    .skip))
  (.seq (.reg [⟨none, (.mv (some 81) (.t 9))⟩,
    ⟨none, (.mv (some 82) (.t 12))⟩,
    ⟨none, (.bs 83 3 none [(.t 82)])⟩,
    ⟨none, (.ap 84 3 (.t 81) (.t 83))⟩,
    ⟨none, (.mv (some 9) (.t 84))⟩])
  (.reg [⟨none, (.mv (some 85) (.t 10))⟩,
    ⟨none, (.mv (some 86) (.t 13))⟩,
    ⟨none, (.bs 87 9 none [(.t 86)])⟩,
    ⟨none, (.ap 88 9 (.t 85) (.t 87))⟩,
    ⟨none, (.mv (some 10) (.t 88))⟩]))))))
  (.reg [⟨none, (.mv (some 56) (.t 11))⟩,
    ⟨none, (.ar 57 .add (.t 56) (.v (.int .i64 1)))⟩,
    ⟨none, (.mv (some 11) (.t 57))⟩]))))))
  (.seq (.reg [⟨none, (.bs 89 39 (some 39) [])⟩,
    ⟨none, (.mv (some 15) (.t 89))⟩])
  (.seq (.seq (.reg [⟨none, (.mv (some 16) (.v (.int .i64 0)))⟩])
  (.block 2 (.loop ⟨[(5, (.lf (.int .i64))), (15, (.row 89 39 (.agg 39 (.pair .str .str)))), (16, (.lf (.int .i64)))], [], [2, 3, 90, 91, 92, 93, 94, 95, 96, 97, 98, 99, 100, 101, 102, 103, 104, 105, 106, 107, 108, 109, 110, 111, 112, 113, 114, 115, 116, 117, 118, 119, 120, 121, 122, 123, 124, 125, 126].map .s ++ [2, 119].map .f⟩ (.seq (.seq (.reg [⟨none, (.mv (some 90) (.t 16))⟩,
    ⟨none, (.mv (some 91) (.t 7))⟩,
    ⟨none, (.ar 92 .lss (.t 90) (.t 91))⟩])
  (.cond (.t 92)
    .skip
    (.exit 2)))
  (.seq (.block 3 (.seq (.seq (.reg [⟨none, (.mv (some 95) (.t 9))⟩,
    ⟨none, (.mv (some 96) (.t 16))⟩,
    ⟨none, (.ea 97 3 (.t 95) (.t 96))⟩,
    ⟨none, (.ld 98 none (.t 97))⟩,
    ⟨none, (.mv (some 99) (.t 0))⟩,
    ⟨none, (.ln 100 none (.t 99))⟩,
    ⟨none, (.mv (some 101) (.t 5))⟩,
    ⟨none, (.ar 102 .sub (.t 100) (.t 101))⟩,
    ⟨none, (.ar 103 .gtr (.t 98) (.t 102))⟩])
  (.cond (.t 103)
    (.seq (.reg [⟨none, (.nl 2 39)⟩,
    ⟨none, (.mv (some 3) (.v (.int .i64 3)))⟩])
  .ret)
    .skip))
  (.seq (.reg [⟨none, (.mv (some 104) (.t 15))⟩,
    ⟨none, (.mv (some 105) (.t 10))⟩,
    ⟨none, (.mv (some 106) (.t 16))⟩,
    ⟨none, (.ea 107 9 (.t 105) (.t 106))⟩,
    ⟨none, (.ld 108 none (.t 107))⟩,
    ⟨none, (.mv (some 109) (.t 0))⟩,
    ⟨none, (.mv (some 110) (.t 5))⟩,
    ⟨none, (.mv (some 111) (.t 5))⟩,
    ⟨none, (.mv (some 112) (.t 9))⟩,
    ⟨none, (.mv (some 113) (.t 16))⟩,
    ⟨none, (.ea 114 3 (.t 112) (.t 113))⟩,
    ⟨none, (.ld 115 none (.t 114))⟩,
    ⟨none, (.ar 116 .add (.t 111) (.t 115))⟩,
    ⟨none, (.sc 117 none (.t 109) (some (.t 110)) (some (.t 116)))⟩,
    ⟨none, (.bd 118 39 [(.str []), (.str [])] [0, 1] [(.t 108), (.t 117)])⟩,
    ⟨none, (.bs 119 39 (some 39) [(.t 118)])⟩,
    ⟨none, (.ap 120 39 (.t 104) (.t 119))⟩,
    ⟨none, (.mv (some 15) (.t 120))⟩])
  (.reg [⟨none, (.mv (some 121) (.t 5))⟩,
    ⟨none, (.mv (some 122) (.t 9))⟩,
    ⟨none, (.mv (some 123) (.t 16))⟩,
    ⟨none, (.ea 124 3 (.t 122) (.t 123))⟩,
    ⟨none, (.ld 125 none (.t 124))⟩,
    ⟨none, (.ar 126 .add (.t 121) (.t 125))⟩,
    ⟨none, (.mv (some 5) (.t 126))⟩]))))
  (.reg [⟨none, (.mv (some 93) (.t 16))⟩,
    ⟨none, (.ar 94 .add (.t 93) (.v (.int .i64 1)))⟩,
    ⟨none, (.mv (some 16) (.t 94))⟩]))))))
  (.seq (.seq (.reg [⟨none, (.mv (some 127) (.t 0))⟩,
    ⟨none, (.ln 128 none (.t 127))⟩,
    ⟨none, (.mv (some 129) (.t 5))⟩,
    ⟨none, (.ar 130 .sub (.t 128) (.t 129))⟩,
    ⟨none, (.ar 131 .neq (.t 130) (.v (.int .i64 16)))⟩,
    ⟨none, (.mv (some 132) (.t 131))⟩,
    ⟨(some (132, false)), (.mv (some 133) (.t 15))⟩,
    ⟨(some (132, false)), (.ca (some 134) 14 [(.t 133)])⟩,
    ⟨(some (132, false)), (.ar 135 .neq (.t 134) (.v (.int .i64 0)))⟩,
    ⟨none, (.pick 136 (.t 132) (.v (.bool true)) (.t 135))⟩])
  (.cond (.t 136)
    (.seq (.reg [⟨none, (.nl 2 39)⟩,
    ⟨none, (.mv (some 3) (.v (.int .i64 3)))⟩])
  .ret)
    .skip))
  (.seq (.seq (.reg [⟨none, (.mv (some 137) (.t 0))⟩,
    ⟨none, (.mv (some 138) (.t 5))⟩,
    ⟨none, (.sc 139 none (.t 137) (some (.t 138)) none)⟩,
    ⟨none, (.mv (some 140) (.t 15))⟩,
    ⟨none, (.ca (some 141) 16 [(.t 140)])⟩,
    ⟨none, (.ar 142 .neq (.t 139) (.t 141))⟩])
  (.cond (.t 142)
    (.seq (.reg [⟨none, (.nl 2 39)⟩,
    ⟨none, (.mv (some 3) (.v (.int .i64 5)))⟩])
  .ret)
    .skip))
  (.seq (.reg [⟨none, (.mv (some 143) (.t 15))⟩,
    ⟨none, (.mv (some 2) (.t 143))⟩,
    ⟨none, (.mv (some 3) (.v (.int .i64 0)))⟩])
  .ret))))))))))))))
noncomputable def ent25 : TEnt := ⟨25, [.str], (.tup (.pair (.sl 39 (.agg 39 (.pair .str .str))) (.int .i64))), fun x => F25 x, .plain⟩
theorem eq25 (x : dens ent25.as) : ent25.F x = evF [ent14, ent16, ent45, ent46, ent47] SHF dc25 [(.tmp 2), (.tmp 3)] ent25.as ent25.rs x := by kernel_rfl
/-- library/libraryref44.Same -/
noncomputable def F26 (a0 : List (List UInt8 × List UInt8)) (a1 : List (List UInt8 × List UInt8)) : Option (Bool) :=
  cond (!decide ((List.length a0 : Int) = (List.length a1 : Int)))
    (some false)
    (loopK (σ := Int) (fun p1 againp1 =>
      cond (decide (p1 < (List.length a0 : Int)))
        (gd (0 ≤ p1 ∧ p1 < (List.length a0 : Int)) <|
        gd (0 ≤ p1 ∧ p1 < (List.length a1 : Int)) <|
        cond (!(decide ((List.getD a0 (Int.toNat p1) ([], [])).1 = (List.getD a1 (Int.toNat p1) ([], [])).1) && (decide ((List.getD a0 (Int.toNat p1) ([], [])).2 = (List.getD a1 (Int.toNat p1) ([], [])).2) && true)))
          (some false)
          (bnd (IntKind.wrap .i64 (p1 + (1 : Int))) fun x2 =>
          againp1 x2))
        (some true)) (0 : Int))
def dc26 : DC :=
  (.seq (.reg [⟨none, (.mv (some 4) (.v (.bool false)))⟩])
  (.seq (.seq (.reg [⟨none, (.mv (some 6) (.t 0))⟩,
    ⟨none, (.ln 7 (some 39) (.t 6))⟩,
    ⟨none, (.mv (some 8) (.t 1))⟩,
    ⟨none, (.ln 9 (some 39) (.t 8))⟩,
    ⟨none, (.ar 10 .neq (.t 7) (.t 9))⟩])
  (.cond (.t 10)
    (.seq (.reg [⟨none, (.mv (some 4) (.v (.bool false)))⟩])
  .ret)
    .skip))
  (.seq (.seq (.reg [⟨none, (.mv (some 5) (.v (.int .i64 0)))⟩])
  (.block 0 (.loop ⟨[(5, (.lf (.int .i64)))], [], [4, 11, 12, 13, 14, 15, 16, 17, 18, 19, 20, 21, 22, 23, 24, 25].map .s⟩ (.seq (.seq (.reg [⟨none, (.mv (some 11) (.t 5))⟩,
    ⟨none, (.mv (some 12) (.t 0))⟩,
    ⟨none, (.ln 13 (some 39) (.t 12))⟩,
    ⟨none, (.ar 14 .lss (.t 11) (.t 13))⟩])
  (.cond (.t 14)
    .skip
    (.exit 0)))
  (.seq (.block 1 (.seq (.reg [⟨none, (.mv (some 17) (.t 0))⟩,
    ⟨none, (.mv (some 18) (.t 5))⟩,
    ⟨none, (.ea 19 39 (.t 17) (.t 18))⟩,
    ⟨none, (.ld 20 (some 39) (.t 19))⟩,
    ⟨none, (.mv (some 21) (.t 1))⟩,
    ⟨none, (.mv (some 22) (.t 5))⟩,
    ⟨none, (.ea 23 39 (.t 21) (.t 22))⟩,
    ⟨none, (.ld 24 (some 39) (.t 23))⟩,
    ⟨none, (.se 25 (.st [2, 2]) true (.t 20) (.t 24))⟩])
  (.cond (.t 25)
    (.seq (.reg [⟨none, (.mv (some 4) (.v (.bool false)))⟩])
  .ret)
    .skip)))
  (.reg [⟨none, (.mv (some 15) (.t 5))⟩,
    ⟨none, (.ar 16 .add (.t 15) (.v (.int .i64 1)))⟩,
    ⟨none, (.mv (some 5) (.t 16))⟩]))))))
  (.seq (.reg [⟨none, (.mv (some 4) (.v (.bool true)))⟩])
  .ret))))
noncomputable def ent26 : TEnt := ⟨26, [(.sl 39 (.agg 39 (.pair .str .str))), (.sl 39 (.agg 39 (.pair .str .str)))], .bool, fun x => F26 x.1 x.2, .plain⟩
theorem eq26 (x : dens ent26.as) : ent26.F x = evF [] SHF dc26 [(.tmp 4)] ent26.as ent26.rs x := by kernel_rfl
/-- library/libraryref44.Small -/
noncomputable def F11 (a0 : List (List UInt8 × List UInt8)) : Option (Bool) :=
  cond (decide ((20 : Int) < (List.length a0 : Int)))
    (some false)
    (loopK (σ := Int) (fun p1 againp1 =>
      cond (decide (p1 < (List.length a0 : Int)))
        (gd (0 ≤ p1 ∧ p1 < (List.length a0 : Int)) <|
        cond (decide ((100 : Int) < (List.length ((List.getD a0 (Int.toNat p1) ([], [])).1) : Int)))
          (some false)
          (gd (0 ≤ p1 ∧ p1 < (List.length a0 : Int)) <|
          cond (decide ((3000 : Int) < (List.length ((List.getD a0 (Int.toNat p1) ([], [])).2) : Int)))
            (some false)
            (bnd (IntKind.wrap .i64 (p1 + (1 : Int))) fun x2 =>
            againp1 x2)))
        (some true)) (0 : Int))
def dc11 : DC :=
  (.seq (.reg [⟨none, (.mv (some 2) (.v (.bool false)))⟩])
  (.seq (.seq (.reg [⟨none, (.mv (some 4) (.t 0))⟩,
    ⟨none, (.ln 5 (some 39) (.t 4))⟩,
    ⟨none, (.ar 6 .gtr (.t 5) (.v (.int .i64 20)))⟩])
  (.cond (.t 6)
    (.seq (.reg [⟨none, (.mv (some 2) (.v (.bool false)))⟩])
  .ret)
    .skip))
  (.seq (.seq (.reg [⟨none, (.mv (some 3) (.v (.int .i64 0)))⟩])
  (.block 0 (.loop ⟨[(3, (.lf (.int .i64)))], [], [2, 7, 8, 9, 10, 11, 12, 13, 14, 15, 16, 17, 18, 19, 20, 21, 22, 23, 24, 25, 26, 27, 28].map .s⟩ (.seq (.seq (.reg [⟨none, (.mv (some 7) (.t 3))⟩,
    ⟨none, (.mv (some 8) (.t 0))⟩,
    ⟨none, (.ln 9 (some 39) (.t 8))⟩,
    ⟨none, (.ar 10 .lss (.t 7) (.t 9))⟩])
  (.cond (.t 10)
    .skip
    (.exit 0)))
  (.seq (.block 1 (.seq (.reg [⟨none, (.mv (some 13) (.t 0))⟩,
    ⟨none, (.mv (some 14) (.t 3))⟩,
    ⟨none, (.ea 15 39 (.t 13) (.t 14))⟩,
    ⟨none, (.fa 16 39 0 (.t 15))⟩,
    ⟨none, (.ld 17 none (.t 16))⟩,
    ⟨none, (.ln 18 none (.t 17))⟩,
    ⟨none, (.ar 19 .gtr (.t 18) (.v (.int .i64 100)))⟩,
    ⟨none, (.mv (some 20) (.t 19))⟩,
    ⟨(some (20, false)), (.mv (some 21) (.t 0))⟩,
    ⟨(some (20, false)), (.mv (some 22) (.t 3))⟩,
    ⟨(some (20, false)), (.ea 23 39 (.t 21) (.t 22))⟩,
    ⟨(some (20, false)), (.fa 24 39 1 (.t 23))⟩,
    ⟨(some (20, false)), (.ld 25 none (.t 24))⟩,
    ⟨(some (20, false)), (.ln 26 none (.t 25))⟩,
    ⟨(some (20, false)), (.ar 27 .gtr (.t 26) (.v (.int .i64 3000)))⟩,
    ⟨none, (.pick 28 (.t 20) (.v (.bool true)) (.t 27))⟩])
  (.cond (.t 28)
    (.seq (.reg [⟨none, (.mv (some 2) (.v (.bool false)))⟩])
  .ret)
    .skip)))
  (.reg [⟨none, (.mv (some 11) (.t 3))⟩,
    ⟨none, (.ar 12 .add (.t 11) (.v (.int .i64 1)))⟩,
    ⟨none, (.mv (some 3) (.t 12))⟩]))))))
  (.seq (.reg [⟨none, (.mv (some 2) (.v (.bool true)))⟩])
  .ret))))
noncomputable def ent11 : TEnt := ⟨11, [(.sl 39 (.agg 39 (.pair .str .str)))], .bool, fun x => F11 x, .plain⟩
theorem eq11 (x : dens ent11.as) : ent11.F x = evF [] SHF dc11 [(.tmp 2)] ent11.as ent11.rs x := by kernel_rfl
/-- library/libraryref44.entries -/
noncomputable def F37 (a0 : List UInt8) : Option ((List (List UInt8 × List UInt8)) × Bool) :=
  jn (σ := Unit) (fun nextj1 =>
    nextj1 ()) fun j1 =>
  gdN (List.length ([] : List (List UInt8 × List UInt8))) (List.length ([] : List (List UInt8 × List UInt8))) <|
  loopK (σ := (List (List UInt8 × List UInt8)) × Int) (fun p2 againp2 =>
    cond (decide (p2.2 < (List.length a0 : Int)))
      (bindO (F45 a0 p2.2) fun y3 =>
      cond (!y3.2.2)
        (some (([] : List (List UInt8 × List UInt8)), false))
        (cond (decide ((List.length y3.1 : Int) < (18 : Int)))
          (some (([] : List (List UInt8 × List UInt8)), false))
          (gd (0 ≤ (16 : Int) ∧ (16 : Int) ≤ (List.length y3.1 : Int)) <|
          bnd (List.take (Int.toNat (16 : Int)) y3.1) fun x4 =>
          bindO (F58 x4) fun y5 =>
          cond (!y5)
            (some (([] : List (List UInt8 × List UInt8)), false))
            (gd (0 ≤ (16 : Int) ∧ (16 : Int) < (List.length y3.1 : Int)) <|
            cond (!decide ((UInt8.toNat (List.getD y3.1 (Int.toNat (16 : Int)) 0) : Int) = (32 : Int)))
              (some (([] : List (List UInt8 × List UInt8)), false))
              (gd (0 ≤ (17 : Int) ∧ (17 : Int) ≤ (List.length y3.1 : Int)) <|
              bnd (List.drop (Int.toNat (17 : Int)) y3.1) fun x6 =>
              bindO (F30 x6) fun y7 =>
              cond (!y7)
                (some (([] : List (List UInt8 × List UInt8)), false))
                (gd (0 ≤ (16 : Int) ∧ (16 : Int) ≤ (List.length y3.1 : Int)) <|
                bnd (List.take (Int.toNat (16 : Int)) y3.1) fun x8 =>
                gd (0 ≤ (17 : Int) ∧ (17 : Int) ≤ (List.length y3.1 : Int)) <|
                bnd (List.drop (Int.toNat (17 : Int)) y3.1) fun x9 =>
                jn (σ := Unit) (fun nextj10 =>
                  cond (decide ((0 : Int) < (List.length p2.1 : Int)))
                    (bnd (IntKind.wrap .i64 ((List.length p2.1 : Int) - (1 : Int))) fun x11 =>
                    gd (0 ≤ x11 ∧ x11 < (List.length p2.1 : Int)) <|
                    cond ((Op.bytesLess x9 ((List.getD p2.1 (Int.toNat x11) ([], [])).2) || decide (x9 = (List.getD p2.1 (Int.toNat x11) ([], [])).2)))
                      (some (([] : List (List UInt8 × List UInt8)), false))
                      (nextj10 ()))
                    (nextj10 ())) fun j10 =>
                gdN (List.length p2.1) (List.length p2.1) <|
                gd (List.length p2.1 + List.length [(x8, x9)] ≤ big) <|
                bnd (p2.1 ++ [(x8, x9)]) fun l12 =>
                gdN (List.length l12) (List.length l12) <|
                againp2 (l12, y3.2.1)))))))
      (some (p2.1, true))) (([] : List (List UInt8 × List UInt8)), (0 : Int))
def dc37 : DC :=
  (.jn ⟨[], [], [2, 3].map .s ++ [2].map .f⟩ (.reg [⟨none, (.nl 2 85)⟩,
    ⟨none, (.mv (some 3) (.v (.bool false)))⟩])
  (.seq (.reg [⟨none, (.bs 10 85 (some 85) [])⟩,
    ⟨none, (.mv (some 4) (.t 10))⟩])
  (.seq (.reg [⟨none, (.mv (some 5) (.v (.int .i64 0)))⟩])
  (.seq (.block 0 (.loop ⟨[(4, (.row 10 85 (.agg 85 (.pair .str .str)))), (5, (.lf (.int .i64)))], [], [2, 3, 6, 7, 8, 9, 11, 12, 13, 14, 15, 16, 17, 18, 19, 20, 21, 22, 23, 24, 25, 26, 27, 28, 29, 30, 31, 32, 33, 34, 35, 36, 37, 38, 39, 40, 41, 42, 43, 44, 45, 46, 47, 48, 49, 50, 51, 52, 53, 54, 55, 56, 57, 58, 59, 60, 61, 62, 63, 64, 65, 66, 67, 68, 69, 70].map .s ++ [9].map .b ++ [2, 68].map .f⟩ (.seq (.seq (.reg [⟨none, (.mv (some 11) (.t 5))⟩,
    ⟨none, (.mv (some 12) (.t 0))⟩,
    ⟨none, (.ln 13 none (.t 12))⟩,
    ⟨none, (.ar 14 .lss (.t 11) (.t 13))⟩])
  (.cond (.t 14)
    .skip
    (.exit 0)))
  (.block 1 (.seq (.reg [⟨none, (.mv (some 16) (.t 0))⟩,
    ⟨none, (.mv (some 17) (.t 5))⟩,
    ⟨none, (.ca (some 18) 45 [(.t 16), (.t 17)])⟩,
    ⟨none, (.mv (some 15) (.t 18))⟩,
    ⟨none, (.ex 19 0 (.t 15))⟩,
    ⟨none, (.ex 20 1 (.t 15))⟩,
    ⟨none, (.ex 21 2 (.t 15))⟩,
    ⟨none, (.mv (some 6) (.t 19))⟩,
    ⟨none, (.mv (some 7) (.t 20))⟩,
    ⟨none, (.mv (some 8) (.t 21))⟩])
  (.seq (.seq (.reg [⟨none, (.mv (some 22) (.t 8))⟩,
    ⟨none, (.un 23 .not (.t 22))⟩,
    ⟨none, (.mv (some 24) (.t 23))⟩,
    ⟨(some (24, false)), (.mv (some 25) (.t 6))⟩,
    ⟨(some (24, false)), (.ln 26 none (.t 25))⟩,
    ⟨(some (24, false)), (.ar 27 .lss (.t 26) (.v (.int .i64 18)))⟩,
    ⟨none, (.pick 28 (.t 24) (.v (.bool true)) (.t 27))⟩,
    ⟨none, (.mv (some 29) (.t 28))⟩,
    ⟨(some (29, false)), (.mv (some 30) (.t 6))⟩,
    ⟨(some (29, false)), (.sc 31 none (.t 30) none (some (.v (.int .i64 16))))⟩,
    ⟨(some (29, false)), (.ca (some 32) 58 [(.t 31)])⟩,
    ⟨(some (29, false)), (.un 33 .not (.t 32))⟩,
    ⟨none, (.pick 34 (.t 29) (.v (.bool true)) (.t 33))⟩,
    ⟨none, (.mv (some 35) (.t 34))⟩,
    ⟨(some (35, false)), (.mv (some 36) (.t 6))⟩,
    ⟨(some (35, false)), (.ix 37 (.t 36) (.v (.int .i64 16)))⟩,
    ⟨(some (35, false)), (.ar 38 .neq (.t 37) (.v (.int .u8 32)))⟩,
    ⟨none, (.pick 39 (.t 35) (.v (.bool true)) (.t 38))⟩,
    ⟨none, (.mv (some 40) (.t 39))⟩,
    ⟨(some (40, false)), (.mv (some 41) (.t 6))⟩,
    ⟨(some (40, false)), (.sc 42 none (.t 41) (some (.v (.int .i64 17))) none)⟩,
    ⟨(some (40, false)), (.ca (some 43) 30 [(.t 42)])⟩,
    ⟨(some (40, false)), (.un 44 .not (.t 43))⟩,
    ⟨none, (.pick 45 (.t 40) (.v (.bool true)) (.t 44))⟩])
  (.cond (.t 45)
    (.seq (.reg [⟨none, (.nl 2 85)⟩,
    ⟨none, (.mv (some 3) (.v (.bool false)))⟩])
  .ret)
    .skip))
  (.seq (.reg [⟨none, (.mv (some 46) (.t 6))⟩,
    ⟨none, (.sc 47 none (.t 46) none (some (.v (.int .i64 16))))⟩,
    ⟨none, (.mv (some 48) (.t 6))⟩,
    ⟨none, (.sc 49 none (.t 48) (some (.v (.int .i64 17))) none)⟩,
    ⟨none, (.bd 50 85 [(.str []), (.str [])] [0, 1] [(.t 47), (.t 49)])⟩,
    ⟨none, (.al 9 (.agg 85 [(.str []), (.str [])]))⟩,
    ⟨none, (.st (some 85) (.t 9) (.t 50))⟩])
  (.jn ⟨[], [], [51, 52, 53, 54, 55, 56, 57, 58, 59, 60, 61, 62, 63, 64, 65].map .s⟩ (.seq (.reg [⟨none, (.mv (some 51) (.t 4))⟩,
    ⟨none, (.ln 52 (some 85) (.t 51))⟩,
    ⟨none, (.ar 53 .gtr (.t 52) (.v (.int .i64 0)))⟩,
    ⟨none, (.mv (some 54) (.t 53))⟩,
    ⟨(some (54, true)), (.fa 55 85 1 (.t 9))⟩,
    ⟨(some (54, true)), (.ld 56 none (.t 55))⟩,
    ⟨(some (54, true)), (.mv (some 57) (.t 4))⟩,
    ⟨(some (54, true)), (.mv (some 58) (.t 4))⟩,
    ⟨(some (54, true)), (.ln 59 (some 85) (.t 58))⟩,
    ⟨(some (54, true)), (.ar 60 .sub (.t 59) (.v (.int .i64 1)))⟩,
    ⟨(some (54, true)), (.ea 61 85 (.t 57) (.t 60))⟩,
    ⟨(some (54, true)), (.fa 62 85 1 (.t 61))⟩,
    ⟨(some (54, true)), (.ld 63 none (.t 62))⟩,
    ⟨(some (54, true)), (.ar 64 .leq (.t 56) (.t 63))⟩,
    ⟨none, (.pick 65 (.t 54) (.t 64) (.v (.bool false)))⟩])
  (.cond (.t 65)
    (.seq (.reg [⟨none, (.nl 2 85)⟩,
    ⟨none, (.mv (some 3) (.v (.bool false)))⟩])
  .ret)
    .skip))
  (.seq (.reg [⟨none, (.mv (some 66) (.t 4))⟩,
    ⟨none, (.ld 67 (some 85) (.t 9))⟩,
    ⟨none, (.bs 68 85 (some 85) [(.t 67)])⟩,
    ⟨none, (.ap 69 85 (.t 66) (.t 68))⟩,
    ⟨none, (.mv (some 4) (.t 69))⟩])
  (.reg [⟨none, (.mv (some 70) (.t 7))⟩,
    ⟨none, (.mv (some 5) (.t 70))⟩]))))))))))
  (.seq (.reg [⟨none, (.mv (some 71) (.t 4))⟩,
    ⟨none, (.mv (some 2) (.t 71))⟩,
    ⟨none, (.mv (some 3) (.v (.bool true)))⟩])
  .ret)))))
noncomputable def ent37 : TEnt := ⟨37, [.str], (.tup (.pair (.sl 85 (.agg 85 (.pair .str .str))) .bool)), fun x => F37 x, .plain⟩
theorem eq37 (x : dens ent37.as) : ent37.F x = evF [ent30, ent45, ent58] SHF dc37 [(.tmp 2), (.tmp 3)] ent37.as ent37.rs x := by kernel_rfl
/-- library/libraryref44.matches -/
noncomputable def F38 (a0 : List (List UInt8 × List UInt8)) (a1 : List UInt8 × List UInt8) : Option (Bool) :=
  loopK (σ := Int) (fun p1 againp1 =>
    cond (decide (p1 < (List.length a0 : Int)))
      (gd (0 ≤ p1 ∧ p1 < (List.length a0 : Int)) <|
      cond (decide ((List.getD a0 (Int.toNat p1) ([], [])).2 = a1.1))
        (gd (0 ≤ p1 ∧ p1 < (List.length a0 : Int)) <|
        bindO (F32 a1.2) fun y2 =>
        some (decide ((List.getD a0 (Int.toNat p1) ([], [])).1 = y2)))
        (bnd (IntKind.wrap .i64 (p1 + (1 : Int))) fun x3 =>
        againp1 x3))
      (some false)) (0 : Int)
def dc38 : DC :=
  (.seq (.reg [⟨none, (.bx 3 (some 39) (.t 1))⟩,
    ⟨none, (.mv (some 4) (.v (.bool false)))⟩])
  (.seq (.seq (.reg [⟨none, (.mv (some 5) (.v (.int .i64 0)))⟩])
  (.block 0 (.loop ⟨[(5, (.lf (.int .i64)))], [], [4, 6, 7, 8, 9, 10, 11, 12, 13, 14, 15, 16, 17, 18, 19, 20, 21, 22, 23, 24, 25, 26, 27, 28].map .s⟩ (.seq (.seq (.reg [⟨none, (.mv (some 6) (.t 5))⟩,
    ⟨none, (.mv (some 7) (.t 0))⟩,
    ⟨none, (.ln 8 (some 85) (.t 7))⟩,
    ⟨none, (.ar 9 .lss (.t 6) (.t 8))⟩])
  (.cond (.t 9)
    .skip
    (.exit 0)))
  (.seq (.block 1 (.seq (.reg [⟨none, (.mv (some 12) (.t 0))⟩,
    ⟨none, (.mv (some 13) (.t 5))⟩,
    ⟨none, (.ea 14 85 (.t 12) (.t 13))⟩,
    ⟨none, (.fa 15 85 1 (.t 14))⟩,
    ⟨none, (.ld 16 none (.t 15))⟩,
    ⟨none, (.fa 17 39 0 (.t 3))⟩,
    ⟨none, (.ld 18 none (.t 17))⟩,
    ⟨none, (.ar 19 .eql (.t 16) (.t 18))⟩])
  (.cond (.t 19)
    (.seq (.reg [⟨none, (.mv (some 20) (.t 0))⟩,
    ⟨none, (.mv (some 21) (.t 5))⟩,
    ⟨none, (.ea 22 85 (.t 20) (.t 21))⟩,
    ⟨none, (.fa 23 85 0 (.t 22))⟩,
    ⟨none, (.ld 24 none (.t 23))⟩,
    ⟨none, (.fa 25 39 1 (.t 3))⟩,
    ⟨none, (.ld 26 none (.t 25))⟩,
    ⟨none, (.ca (some 27) 32 [(.t 26)])⟩,
    ⟨none, (.ar 28 .eql (.t 24) (.t 27))⟩,
    ⟨none, (.mv (some 4) (.t 28))⟩])
  .ret)
    .skip)))
  (.reg [⟨none, (.mv (some 10) (.t 5))⟩,
    ⟨none, (.ar 11 .add (.t 10) (.v (.int .i64 1)))⟩,
    ⟨none, (.mv (some 5) (.t 11))⟩]))))))
  (.seq (.reg [⟨none, (.mv (some 4) (.v (.bool false)))⟩])
  .ret)))
noncomputable def ent38 : TEnt := ⟨38, [(.sl 85 (.agg 85 (.pair .str .str))), (.agg 39 (.pair .str .str))], .bool, fun x => F38 x.1 x.2, .plain⟩
theorem eq38 (x : dens ent38.as) : ent38.F x = evF [ent32] SHF dc38 [(.tmp 4)] ent38.as ent38.rs x := by kernel_rfl
/-- library/libraryref44.surplus -/
noncomputable def F39 (a0 : List (List UInt8 × List UInt8)) (a1 : List (List UInt8 × List UInt8)) : Option (Bool) :=
  loopK (σ := Int) (fun p1 againp1 =>
    cond (decide (p1 < (List.length a0 : Int)))
      (loopK (σ := Bool × Int) (fun p2 againp2 =>
        cond (decide (p2.2 < (List.length a1 : Int)))
          (cond (p2.1)
            (bnd (IntKind.wrap .i64 (p2.2 + (1 : Int))) fun x3 =>
            againp2 (true, x3))
            (gd (0 ≤ p2.2 ∧ p2.2 < (List.length a1 : Int)) <|
            gd (0 ≤ p1 ∧ p1 < (List.length a0 : Int)) <|
            bnd (IntKind.wrap .i64 (p2.2 + (1 : Int))) fun x4 =>
            againp2 (decide ((List.getD a1 (Int.toNat p2.2) ([], [])).1 = (List.getD a0 (Int.toNat p1) ([], [])).2), x4)))
          (cond (!p2.1)
            (some true)
            (bnd (IntKind.wrap .i64 (p1 + (1 : Int))) fun x5 =>
            againp1 x5))) (false, (0 : Int)))
      (some false)) (0 : Int)
def dc39 : DC :=
  (.seq (.reg [⟨none, (.mv (some 4) (.v (.bool false)))⟩])
  (.seq (.seq (.reg [⟨none, (.mv (some 5) (.v (.int .i64 0)))⟩])
  (.block 0 (.loop ⟨[(5, (.lf (.int .i64)))], [], [4, 6, 7, 8, 9, 10, 11, 12, 13, 14, 15, 16, 17, 18, 19, 20, 21, 22, 23, 24, 25, 26, 27, 28, 29, 30, 31, 32, 33, 34, 35].map .s⟩ (.seq (.seq (.reg [⟨none, (.mv (some 8) (.t 5))⟩,
    ⟨none, (.mv (some 9) (.t 0))⟩,
    ⟨none, (.ln 10 (some 85) (.t 9))⟩,
    ⟨none, (.ar 11 .lss (.t 8) (.t 10))⟩])
  (.cond (.t 11)
    .skip
    (.exit 0)))
  (.seq (.block 1 (.seq (.reg [⟨none, (.mv (some 6) (.v (.bool false)))⟩])
  (.seq (.seq (.reg [⟨none, (.mv (some 7) (.v (.int .i64 0)))⟩])
  (.block 2 (.loop ⟨[(6, (.lf .bool)), (7, (.lf (.int .i64)))], [], [14, 15, 16, 17, 18, 19, 20, 21, 22, 23, 24, 25, 26, 27, 28, 29, 30, 31, 32, 33].map .s⟩ (.seq (.seq (.reg [⟨none, (.mv (some 14) (.t 7))⟩,
    ⟨none, (.mv (some 15) (.t 1))⟩,
    ⟨none, (.ln 16 (some 39) (.t 15))⟩,
    ⟨none, (.ar 17 .lss (.t 14) (.t 16))⟩])
  (.cond (.t 17)
    .skip
    (.exit 2)))
  (.seq (.block 3 (.reg [⟨none, (.mv (some 20) (.t 6))⟩,
    ⟨none, (.mv (some 21) (.t 20))⟩,
    ⟨(some (21, false)), (.mv (some 22) (.t 1))⟩,
    ⟨(some (21, false)), (.mv (some 23) (.t 7))⟩,
    ⟨(some (21, false)), (.ea 24 39 (.t 22) (.t 23))⟩,
    ⟨(some (21, false)), (.fa 25 39 0 (.t 24))⟩,
    ⟨(some (21, false)), (.ld 26 none (.t 25))⟩,
    ⟨(some (21, false)), (.mv (some 27) (.t 0))⟩,
    ⟨(some (21, false)), (.mv (some 28) (.t 5))⟩,
    ⟨(some (21, false)), (.ea 29 85 (.t 27) (.t 28))⟩,
    ⟨(some (21, false)), (.fa 30 85 1 (.t 29))⟩,
    ⟨(some (21, false)), (.ld 31 none (.t 30))⟩,
    ⟨(some (21, false)), (.ar 32 .eql (.t 26) (.t 31))⟩,
    ⟨none, (.pick 33 (.t 21) (.v (.bool true)) (.t 32))⟩,
    ⟨none, (.mv (some 6) (.t 33))⟩]))
  (.reg [⟨none, (.mv (some 18) (.t 7))⟩,
    ⟨none, (.ar 19 .add (.t 18) (.v (.int .i64 1)))⟩,
    ⟨none, (.mv (some 7) (.t 19))⟩]))))))
  (.seq (.reg [⟨none, (.mv (some 34) (.t 6))⟩,
    ⟨none, (.un 35 .not (.t 34))⟩])
  (.cond (.t 35)
    (.seq (.reg [⟨none, (.mv (some 4) (.v (.bool true)))⟩])
  .ret)
    .skip)))))
  (.reg [⟨none, (.mv (some 12) (.t 5))⟩,
    ⟨none, (.ar 13 .add (.t 12) (.v (.int .i64 1)))⟩,
    ⟨none, (.mv (some 5) (.t 13))⟩]))))))
  (.seq (.reg [⟨none, (.mv (some 4) (.v (.bool false)))⟩])
  .ret)))
noncomputable def ent39 : TEnt := ⟨39, [(.sl 85 (.agg 85 (.pair .str .str))), (.sl 39 (.agg 39 (.pair .str .str)))], .bool, fun x => F39 x.1 x.2, .plain⟩
theorem eq39 (x : dens ent39.as) : ent39.F x = evF [] SHF dc39 [(.tmp 4)] ent39.as ent39.rs x := by kernel_rfl
/-- library/libraryref44.Verify -/
noncomputable def F21 (a0 : List (List UInt8 × List UInt8)) (a1 : List UInt8) : Option (List (Int)) :=
  bindO (F37 a1) fun y1 =>
  gdN (List.length ([] : List (Int))) (List.length ([] : List (Int))) <|
  loopK (σ := List (Int) × Int) (fun p2 againp2 =>
    cond (decide (p2.2 < (List.length a0 : Int)))
      (cond (!y1.2)
        (gdN (List.length p2.1) (List.length p2.1) <|
        gd (List.length p2.1 + List.length [p2.2] ≤ big) <|
        bnd (p2.1 ++ [p2.2]) fun l3 =>
        bnd (IntKind.wrap .i64 (p2.2 + (1 : Int))) fun x4 =>
        gdN (List.length l3) (List.length l3) <|
        againp2 (l3, x4))
        (gd (0 ≤ p2.2 ∧ p2.2 < (List.length a0 : Int)) <|
        bindO (F38 y1.1 (List.getD a0 (Int.toNat p2.2) ([], []))) fun y5 =>
        cond (!y5)
          (gdN (List.length p2.1) (List.length p2.1) <|
          gd (List.length p2.1 + List.length [p2.2] ≤ big) <|
          bnd (p2.1 ++ [p2.2]) fun l6 =>
          bnd (IntKind.wrap .i64 (p2.2 + (1 : Int))) fun x7 =>
          gdN (List.length l6) (List.length l6) <|
          againp2 (l6, x7))
          (bnd (IntKind.wrap .i64 (p2.2 + (1 : Int))) fun x8 =>
          gdN (List.length p2.1) (List.length p2.1) <|
          againp2 (p2.1, x8))))
      (jn (σ := Bool) (fun nextj9 =>
        cond (!y1.2)
          (nextj9 true)
          (bindO (F39 y1.1 a0) fun y10 =>
          nextj9 y10)) fun j9 =>
      cond (j9)
        (gdN (List.length p2.1) (List.length p2.1) <|
        gd (List.length p2.1 + List.length [(List.length a0 : Int)] ≤ big) <|
        bnd (p2.1 ++ [(List.length a0 : Int)]) fun l11 =>
        some l11)
        (some p2.1))) (([] : List (Int)), (0 : Int))
def dc21 : DC :=
  (.seq (.reg [⟨none, (.nl 4 3)⟩])
  (.seq (.reg [⟨none, (.mv (some 10) (.t 1))⟩,
    ⟨none, (.ca (some 11) 37 [(.t 10)])⟩,
    ⟨none, (.mv (some 9) (.t 11))⟩,
    ⟨none, (.ex 12 0 (.t 9))⟩,
    ⟨none, (.ex 13 1 (.t 9))⟩,
    ⟨none, (.mv (some 5) (.t 12))⟩,
    ⟨none, (.mv (some 6) (.t 13))⟩])
  (.seq (.reg [⟨none, (.bs 14 3 none [])⟩,
    ⟨none, (.mv (some 7) (.t 14))⟩])
  (.seq (.seq (.reg [⟨none, (.mv (some 8) (.v (.int .i64 0)))⟩])
  (.block 0 (.loop ⟨[(7, (.row 14 3 (.int .i64))), (8, (.lf (.int .i64)))], [], [15, 16, 17, 18, 19, 20, 21, 22, 23, 24, 25, 26, 27, 28, 29, 30, 31, 32, 33, 34, 35].map .s ++ [34].map .f⟩ (.seq (.seq (.reg [⟨none, (.mv (some 15) (.t 8))⟩,
    ⟨none, (.mv (some 16) (.t 0))⟩,
    ⟨none, (.ln 17 (some 39) (.t 16))⟩,
    ⟨none, (.ar 18 .lss (.t 15) (.t 17))⟩])
  (.cond (.t 18)
    .skip
    (.exit 0)))
  (.seq (.block 1 (.seq (.reg [⟨none, (.mv (some 21) (.t 6))⟩,
    ⟨none, (.un 22 .not (.t 21))⟩,
    ⟨none, (.mv (some 23) (.t 22))⟩,
    ⟨(some (23, false)), (.mv (some 24) (.t 5))⟩,
    ⟨(some (23, false)), (.mv (some 25) (.t 0))⟩,
    ⟨(some (23, false)), (.mv (some 26) (.t 8))⟩,
    ⟨(some (23, false)), (.ea 27 39 (.t 25) (.t 26))⟩,
    ⟨(some (23, false)), (.ld 28 (some 39) (.t 27))⟩,
    ⟨(some (23, false)), (.ca (some 29) 38 [(.t 24), (.t 28)])⟩,
    ⟨(some (23, false)), (.un 30 .not (.t 29))⟩,
    ⟨none, (.pick 31 (.t 23) (.v (.bool true)) (.t 30))⟩])
  (.cond (.t 31)
    (.reg [⟨none, (.mv (some 32) (.t 7))⟩,
    ⟨none, (.mv (some 33) (.t 8))⟩,
    ⟨none, (.bs 34 3 none [(.t 33)])⟩,
    ⟨none, (.ap 35 3 (.t 32) (.t 34))⟩,
    ⟨none, (.mv (some 7) (.t 35))⟩])
    .skip)))
  (.reg [⟨none, (.mv (some 19) (.t 8))⟩,
    ⟨none, (.ar 20 .add (.t 19) (.v (.int .i64 1)))⟩,
    ⟨none, (.mv (some 8) (.t 20))⟩]))))))
  (.seq (.jn ⟨[(42, (.lf .bool))], [], [36, 37, 38, 39, 40, 41].map .s⟩ (.reg [⟨none, (.mv (some 36) (.t 6))⟩,
    ⟨none, (.un 37 .not (.t 36))⟩,
    ⟨none, (.mv (some 38) (.t 37))⟩,
    ⟨(some (38, false)), (.mv (some 39) (.t 5))⟩,
    ⟨(some (38, false)), (.mv (some 40) (.t 0))⟩,
    ⟨(some (38, false)), (.ca (some 41) 39 [(.t 39), (.t 40)])⟩,
    ⟨none, (.pick 42 (.t 38) (.v (.bool true)) (.t 41))⟩])
  (.cond (.t 42)
    (.reg [⟨none, (.mv (some 43) (.t 7))⟩,
    ⟨none, (.mv (some 44) (.t 0))⟩,
    ⟨none, (.ln 45 (some 39) (.t 44))⟩,
    ⟨none, (.bs 46 3 none [(.t 45)])⟩,
    ⟨none, (.ap 47 3 (.t 43) (.t 46))⟩,
    ⟨none, (.mv (some 7) (.t 47))⟩])
    .skip))
  (.seq (.reg [⟨none, (.mv (some 48) (.t 7))⟩,
    ⟨none, (.mv (some 4) (.t 48))⟩])
  .ret))))))
noncomputable def ent21 : TEnt := ⟨21, [(.sl 39 (.agg 39 (.pair .str .str))), .str], (.sl 3 (.int .i64)), fun x => F21 x.1 x.2, .plain⟩
theorem eq21 (x : dens ent21.as) : ent21.F x = evF [ent37, ent38, ent39] SHF dc21 [(.tmp 4)] ent21.as ent21.rs x := by kernel_rfl
/-- library/librarylaw44.same -/
noncomputable def F19 (a0 : List (Int)) (a1 : List (Int)) : Option (Bool) :=
  cond (!decide ((List.length a0 : Int) = (List.length a1 : Int)))
    (some false)
    (loopK (σ := Int) (fun p1 againp1 =>
      cond (decide (p1 < (List.length a0 : Int)))
        (gd (0 ≤ p1 ∧ p1 < (List.length a0 : Int)) <|
        gd (0 ≤ p1 ∧ p1 < (List.length a1 : Int)) <|
        cond (!decide ((List.getD a0 (Int.toNat p1) 0) = (List.getD a1 (Int.toNat p1) 0)))
          (some false)
          (bnd (IntKind.wrap .i64 (p1 + (1 : Int))) fun x2 =>
          againp1 x2))
        (some true)) (0 : Int))
def dc19 : DC :=
  (.seq (.reg [⟨none, (.mv (some 4) (.v (.bool false)))⟩])
  (.seq (.seq (.reg [⟨none, (.mv (some 6) (.t 0))⟩,
    ⟨none, (.ln 7 (some 3) (.t 6))⟩,
    ⟨none, (.mv (some 8) (.t 1))⟩,
    ⟨none, (.ln 9 (some 3) (.t 8))⟩,
    ⟨none, (.ar 10 .neq (.t 7) (.t 9))⟩])
  (.cond (.t 10)
    (.seq (.reg [⟨none, (.mv (some 4) (.v (.bool false)))⟩])
  .ret)
    .skip))
  (.seq (.seq (.reg [⟨none, (.mv (some 11) (.t 0))⟩,
    ⟨none, (.ln 12 (some 3) (.t 11))⟩,
    ⟨none, (.mv (some 13) (.v (.int .i64 0)))⟩])
  (.block 0 (.loop ⟨[(13, (.lf (.int .i64)))], [], [4, 5, 14, 15, 16, 17, 18, 19, 20, 21, 22, 23, 24, 25].map .s⟩ (.seq (.reg [⟨none, (.ar 14 .lss (.t 13) (.t 12))⟩])
  (.seq (.cond (.t 14)
    .skip
    (.exit 0))
  (.seq (.block 1 (.seq (.reg [⟨none, (.mv (some 15) (.t 13))⟩,
    ⟨none, (.mv (some 5) (.t 15))⟩])
  (.seq (.reg [⟨none, (.mv (some 16) (.t 0))⟩,
    ⟨none, (.mv (some 17) (.t 5))⟩,
    ⟨none, (.ea 18 3 (.t 16) (.t 17))⟩,
    ⟨none, (.ld 19 none (.t 18))⟩,
    ⟨none, (.mv (some 20) (.t 1))⟩,
    ⟨none, (.mv (some 21) (.t 5))⟩,
    ⟨none, (.ea 22 3 (.t 20) (.t 21))⟩,
    ⟨none, (.ld 23 none (.t 22))⟩,
    ⟨none, (.ar 24 .neq (.t 19) (.t 23))⟩])
  (.cond (.t 24)
    (.seq (.reg [⟨none, (.mv (some 4) (.v (.bool false)))⟩])
  .ret)
    .skip))))
  (.reg [⟨none, (.ar 25 .add (.t 13) (.v (.int .i64 1)))⟩,
    ⟨none, (.mv (some 13) (.t 25))⟩])))))))
  (.seq (.reg [⟨none, (.mv (some 4) (.v (.bool true)))⟩])
  .ret))))
noncomputable def ent19 : TEnt := ⟨19, [(.sl 3 (.int .i64)), (.sl 3 (.int .i64))], .bool, fun x => F19 x.1 x.2, .plain⟩
theorem eq19 (x : dens ent19.as) : ent19.F x = evF [] SHF dc19 [(.tmp 4)] ent19.as ent19.rs x := by kernel_rfl
/-- library/librarylaw44.files -/
noncomputable def F28 : Option (List (List UInt8 × List UInt8)) :=
  some [(([97, 46, 116, 120, 116] : List UInt8), ([104, 105] : List UInt8)), (([98, 47, 99] : List UInt8), ([] : List UInt8))]
def dc28 : DC :=
  (.seq (.reg [⟨none, (.nl 0 39)⟩])
  (.seq (.reg [⟨none, (.bd 1 39 [(.str []), (.str [])] [0, 1] [(.v (.str [97, 46, 116, 120, 116])), (.v (.str [104, 105]))])⟩,
    ⟨none, (.bd 2 39 [(.str []), (.str [])] [0, 1] [(.v (.str [98, 47, 99])), (.v (.str []))])⟩,
    ⟨none, (.bs 3 39 (some 39) [(.t 1), (.t 2)])⟩,
    ⟨none, (.mv (some 0) (.t 3))⟩])
  .ret))
noncomputable def ent28 : TEnt := ⟨28, [], (.sl 39 (.agg 39 (.pair .str .str))), fun _ => F28, .plain⟩
theorem eq28 (x : dens ent28.as) : ent28.F x = evF [] SHF dc28 [(.tmp 0)] ent28.as ent28.rs x := by kernel_rfl
/-- library/librarylaw44.alive -/
noncomputable def F12 : Option (Bool) :=
  bindO (F28) fun y1 =>
  bindO (F22 y1) fun y2 =>
  cond (!decide (y2.2 = (0 : Int)))
    (some false)
    (bindO (F15 y1) fun y3 =>
    gd (List.length ([66, 65, 71, 49, 10, 50, 10, 50, 32, 97, 46, 116, 120, 116, 10, 48, 32, 98, 47, 99, 10, 104, 105] : List UInt8) + List.length y3 ≤ big) <|
    bnd (([66, 65, 71, 49, 10, 50, 10, 50, 32, 97, 46, 116, 120, 116, 10, 48, 32, 98, 47, 99, 10, 104, 105] : List UInt8) ++ y3) fun x4 =>
    cond (!decide (y2.1 = x4))
      (some false)
      (bindO (F15 y1) fun y5 =>
      cond (!decide ((List.length y5 : Int) = (16 : Int)))
        (some false)
        (bindO (F17 y1) fun y6 =>
        gd (0 ≤ (1 : Int) ∧ (1 : Int) ≤ (List.length y1 : Int)) <|
        bnd (List.take (Int.toNat (1 : Int)) y1) fun x7 =>
        bindO (F17 x7) fun y8 =>
        cond (!decide (y6.2 = (0 : Int)))
          (some false)
          (cond (!decide (y8.2 = (0 : Int)))
            (some false)
            (cond (!decide ((List.length y6.1 : Int) = (44 : Int)))
              (some false)
              (bindO (fVerify y1 ([] : List UInt8)) fun y9 =>
              bindO (F19 y9 [(0 : Int), (1 : Int)]) fun y10 =>
              cond (!y10)
                (some false)
                (bindO (fVerify y1 y8.1) fun y11 =>
                bindO (F19 y11 [(1 : Int)]) fun y12 =>
                cond (!y12)
                  (some false)
                  (bindO (fVerify y1 ([120] : List UInt8)) fun y13 =>
                  bindO (F19 y13 [(0 : Int), (1 : Int), (2 : Int)]) fun y14 =>
                  cond (!y14)
                    (some false)
                    (bindO (fVerify y1 y6.1) fun y15 =>
                    cond (!decide ((List.length y15 : Int) = (0 : Int)))
                      (some false)
                      (bindO (F24 y2.1) fun y16 =>
                      bnd (IntKind.wrap .i64 ((List.length y2.1 : Int) - (1 : Int))) fun x17 =>
                      gd (0 ≤ x17 ∧ x17 ≤ (List.length y2.1 : Int)) <|
                      bnd (List.take (Int.toNat x17) y2.1) fun x18 =>
                      gd (List.length x18 + List.length ([120] : List UInt8) ≤ big) <|
                      bnd (x18 ++ ([120] : List UInt8)) fun x19 =>
                      bindO (F24 x19) fun y20 =>
                      cond (decide (y16.2 = (0 : Int)))
                        (bindO (F26 y16.1 y1) fun y21 =>
                        cond (y21)
                          (cond (decide (y20.2 = (5 : Int)))
                            (bindO (F13 [(([97, 47, 47, 98] : List UInt8), ([] : List UInt8))]) fun y22 =>
                            cond (decide (y22 = (3 : Int)))
                              (bindO (F13 [(([98] : List UInt8), ([] : List UInt8)), (([97] : List UInt8), ([] : List UInt8))]) fun y23 =>
                              some (decide (y23 = (7 : Int))))
                              (some false))
                            (some false))
                          (some false))
                        (some false)))))))))))
def dc12 : DC :=
  (.seq (.reg [⟨none, (.mv (some 0) (.v (.bool false)))⟩])
  (.seq (.reg [⟨none, (.ca (some 12) 28 [])⟩,
    ⟨none, (.mv (some 1) (.t 12))⟩])
  (.seq (.reg [⟨none, (.mv (some 14) (.t 1))⟩,
    ⟨none, (.ca (some 15) 22 [(.t 14)])⟩,
    ⟨none, (.mv (some 13) (.t 15))⟩,
    ⟨none, (.ex 16 0 (.t 13))⟩,
    ⟨none, (.ex 17 1 (.t 13))⟩,
    ⟨none, (.mv (some 2) (.t 16))⟩,
    ⟨none, (.mv (some 3) (.t 17))⟩])
  (.seq (.seq (.reg [⟨none, (.mv (some 18) (.t 3))⟩,
    ⟨none, (.ar 19 .neq (.t 18) (.v (.int .i64 0)))⟩,
    ⟨none, (.mv (some 20) (.t 19))⟩,
    ⟨(some (20, false)), (.mv (some 21) (.t 2))⟩,
    ⟨(some (20, false)), (.mv (some 22) (.t 1))⟩,
    ⟨(some (20, false)), (.ca (some 23) 15 [(.t 22)])⟩,
    ⟨(some (20, false)), (.ar 24 .add (.v (.str [66, 65, 71, 49, 10, 50, 10, 50, 32, 97, 46, 116, 120, 116, 10, 48, 32, 98, 47, 99, 10, 104, 105])) (.t 23))⟩,
    ⟨(some (20, false)), (.ar 25 .neq (.t 21) (.t 24))⟩,
    ⟨none, (.pick 26 (.t 20) (.v (.bool true)) (.t 25))⟩,
    ⟨none, (.mv (some 27) (.t 26))⟩,
    ⟨(some (27, false)), (.mv (some 28) (.t 1))⟩,
    ⟨(some (27, false)), (.ca (some 29) 15 [(.t 28)])⟩,
    ⟨(some (27, false)), (.ln 30 none (.t 29))⟩,
    ⟨(some (27, false)), (.ar 31 .neq (.t 30) (.v (.int .i64 16)))⟩,
    ⟨none, (.pick 32 (.t 27) (.v (.bool true)) (.t 31))⟩])
  (.cond (.t 32)
    (.seq (.reg [⟨none, (.mv (some 0) (.v (.bool false)))⟩])
  .ret)
    .skip))
  (.seq (.reg [⟨none, (.mv (some 34) (.t 1))⟩,
    ⟨none, (.ca (some 35) 17 [(.t 34)])⟩,
    ⟨none, (.mv (some 33) (.t 35))⟩,
    ⟨none, (.ex 36 0 (.t 33))⟩,
    ⟨none, (.ex 37 1 (.t 33))⟩,
    ⟨none, (.mv (some 4) (.t 36))⟩,
    ⟨none, (.mv (some 5) (.t 37))⟩])
  (.seq (.reg [⟨none, (.mv (some 39) (.t 1))⟩,
    ⟨none, (.sc 40 (some 39) (.t 39) none (some (.v (.int .i64 1))))⟩,
    ⟨none, (.ca (some 41) 17 [(.t 40)])⟩,
    ⟨none, (.mv (some 38) (.t 41))⟩,
    ⟨none, (.ex 42 0 (.t 38))⟩,
    ⟨none, (.ex 43 1 (.t 38))⟩,
    ⟨none, (.mv (some 6) (.t 42))⟩,
    ⟨none, (.mv (some 7) (.t 43))⟩])
  (.seq (.seq (.reg [⟨none, (.mv (some 44) (.t 5))⟩,
    ⟨none, (.ar 45 .neq (.t 44) (.v (.int .i64 0)))⟩,
    ⟨none, (.mv (some 46) (.t 45))⟩,
    ⟨(some (46, false)), (.mv (some 47) (.t 7))⟩,
    ⟨(some (46, false)), (.ar 48 .neq (.t 47) (.v (.int .i64 0)))⟩,
    ⟨none, (.pick 49 (.t 46) (.v (.bool true)) (.t 48))⟩,
    ⟨none, (.mv (some 50) (.t 49))⟩,
    ⟨(some (50, false)), (.mv (some 51) (.t 4))⟩,
    ⟨(some (50, false)), (.ln 52 none (.t 51))⟩,
    ⟨(some (50, false)), (.ar 53 .neq (.t 52) (.v (.int .i64 44)))⟩,
    ⟨none, (.pick 54 (.t 50) (.v (.bool true)) (.t 53))⟩,
    ⟨none, (.mv (some 55) (.t 54))⟩,
    ⟨(some (55, false)), (.mv (some 56) (.t 1))⟩,
    ⟨(some (55, false)), (.ca (some 57) 20 [(.t 56), (.v (.str []))])⟩,
    ⟨(some (55, false)), (.bs 58 3 none [(.v (.int .i64 0)), (.v (.int .i64 1))])⟩,
    ⟨(some (55, false)), (.ca (some 59) 19 [(.t 57), (.t 58)])⟩,
    ⟨(some (55, false)), (.un 60 .not (.t 59))⟩,
    ⟨none, (.pick 61 (.t 55) (.v (.bool true)) (.t 60))⟩,
    ⟨none, (.mv (some 62) (.t 61))⟩,
    ⟨(some (62, false)), (.mv (some 63) (.t 1))⟩,
    ⟨(some (62, false)), (.mv (some 64) (.t 6))⟩,
    ⟨(some (62, false)), (.ca (some 65) 20 [(.t 63), (.t 64)])⟩,
    ⟨(some (62, false)), (.bs 66 3 none [(.v (.int .i64 1))])⟩,
    ⟨(some (62, false)), (.ca (some 67) 19 [(.t 65), (.t 66)])⟩,
    ⟨(some (62, false)), (.un 68 .not (.t 67))⟩,
    ⟨none, (.pick 69 (.t 62) (.v (.bool true)) (.t 68))⟩,
    ⟨none, (.mv (some 70) (.t 69))⟩,
    ⟨(some (70, false)), (.mv (some 71) (.t 1))⟩,
    ⟨(some (70, false)), (.ca (some 72) 20 [(.t 71), (.v (.str [120]))])⟩,
    ⟨(some (70, false)), (.bs 73 3 none [(.v (.int .i64 0)), (.v (.int .i64 1)), (.v (.int .i64 2))])⟩,
    ⟨(some (70, false)), (.ca (some 74) 19 [(.t 72), (.t 73)])⟩,
    ⟨(some (70, false)), (.un 75 .not (.t 74))⟩,
    ⟨none, (.pick 76 (.t 70) (.v (.bool true)) (.t 75))⟩,
    ⟨none, (.mv (some 77) (.t 76))⟩,
    ⟨(some (77, false)), (.mv (some 78) (.t 1))⟩,
    ⟨(some (77, false)), (.mv (some 79) (.t 4))⟩,
    ⟨(some (77, false)), (.ca (some 80) 20 [(.t 78), (.t 79)])⟩,
    ⟨(some (77, false)), (.ln 81 (some 3) (.t 80))⟩,
    ⟨(some (77, false)), (.ar 82 .neq (.t 81) (.v (.int .i64 0)))⟩,
    ⟨none, (.pick 83 (.t 77) (.v (.bool true)) (.t 82))⟩])
  (.cond (.t 83)
    (.seq (.reg [⟨none, (.mv (some 0) (.v (.bool false)))⟩])
  .ret)
    .skip))
  (.seq (.reg [⟨none, (.mv (some 85) (.t 2))⟩,
    ⟨none, (.ca (some 86) 24 [(.t 85)])⟩,
    ⟨none, (.mv (some 84) (.t 86))⟩,
    ⟨none, (.ex 87 0 (.t 84))⟩,
    ⟨none, (.ex 88 1 (.t 84))⟩,
    ⟨none, (.mv (some 8) (.t 87))⟩,
    ⟨none, (.mv (some 9) (.t 88))⟩])
  (.seq (.reg [⟨none, (.mv (some 90) (.t 2))⟩,
    ⟨none, (.mv (some 91) (.t 2))⟩,
    ⟨none, (.ln 92 none (.t 91))⟩,
    ⟨none, (.ar 93 .sub (.t 92) (.v (.int .i64 1)))⟩,
    ⟨none, (.sc 94 none (.t 90) none (some (.t 93)))⟩,
    ⟨none, (.ar 95 .add (.t 94) (.v (.str [120])))⟩,
    ⟨none, (.ca (some 96) 24 [(.t 95)])⟩,
    ⟨none, (.mv (some 89) (.t 96))⟩,
    ⟨none, (.ex 97 0 (.t 89))⟩,
    ⟨none, (.ex 98 1 (.t 89))⟩,
    ⟨none, (.mv (some 10) (.t 97))⟩,
    ⟨none, (.mv (some 11) (.t 98))⟩])
  (.seq (.reg [⟨none, (.mv (some 99) (.t 9))⟩,
    ⟨none, (.ar 100 .eql (.t 99) (.v (.int .i64 0)))⟩,
    ⟨none, (.mv (some 101) (.t 100))⟩,
    ⟨(some (101, true)), (.mv (some 102) (.t 8))⟩,
    ⟨(some (101, true)), (.mv (some 103) (.t 1))⟩,
    ⟨(some (101, true)), (.ca (some 104) 26 [(.t 102), (.t 103)])⟩,
    ⟨none, (.pick 105 (.t 101) (.t 104) (.v (.bool false)))⟩,
    ⟨none, (.mv (some 106) (.t 105))⟩,
    ⟨(some (106, true)), (.mv (some 107) (.t 11))⟩,
    ⟨(some (106, true)), (.ar 108 .eql (.t 107) (.v (.int .i64 5)))⟩,
    ⟨none, (.pick 109 (.t 106) (.t 108) (.v (.bool false)))⟩,
    ⟨none, (.mv (some 110) (.t 109))⟩,
    ⟨(some (110, true)), (.bd 111 39 [(.str []), (.str [])] [0] [(.v (.str [97, 47, 47, 98]))])⟩,
    ⟨(some (110, true)), (.bs 112 39 (some 39) [(.t 111)])⟩,
    ⟨(some (110, true)), (.ca (some 113) 13 [(.t 112)])⟩,
    ⟨(some (110, true)), (.ar 114 .eql (.t 113) (.v (.int .i64 3)))⟩,
    ⟨none, (.pick 115 (.t 110) (.t 114) (.v (.bool false)))⟩,
    ⟨none, (.mv (some 116) (.t 115))⟩,
    ⟨(some (116, true)), (.bd 117 39 [(.str []), (.str [])] [0] [(.v (.str [98]))])⟩,
    ⟨(some (116, true)), (.bd 118 39 [(.str []), (.str [])] [0] [(.v (.str [97]))])⟩,
    ⟨(some (116, true)), (.bs 119 39 (some 39) [(.t 117), (.t 118)])⟩,
    ⟨(some (116, true)), (.ca (some 120) 13 [(.t 119)])⟩,
    ⟨(some (116, true)), (.ar 121 .eql (.t 120) (.v (.int .i64 7)))⟩,
    ⟨none, (.pick 122 (.t 116) (.t 121) (.v (.bool false)))⟩,
    ⟨none, (.mv (some 0) (.t 122))⟩])
  .ret))))))))))
noncomputable def ent12 : TEnt := ⟨12, [], .bool, fun _ => F12, .plain⟩
theorem eq12 (x : dens ent12.as) : ent12.F x = evF [ent13, ent15, ent17, ent19, entVerify, ent22, ent24, ent26, ent28] SHF dc12 [(.tmp 0)] ent12.as ent12.rs x := by kernel_rfl
/-- library/librarylaw44.BagRights -/
noncomputable def F3 (a0 : List (List UInt8 × List UInt8)) : Option (Bool) :=
  bindO (F11 a0) fun y1 =>
  cond (!y1)
    (bindO (F12) fun y2 =>
    some y2)
    (bindO (F13 a0) fun y3 =>
    bindO (F14 a0) fun y4 =>
    cond (decide (y3 = y4))
      (bindO (F15 a0) fun y5 =>
      bindO (F16 a0) fun y6 =>
      cond (decide (y5 = y6))
        (bindO (F12) fun y7 =>
        some y7)
        (some false))
      (some false))
def dc3 : DC :=
  (.seq (.reg [⟨none, (.mv (some 2) (.v (.bool false)))⟩])
  (.seq (.seq (.reg [⟨none, (.mv (some 3) (.t 0))⟩,
    ⟨none, (.ca (some 4) 11 [(.t 3)])⟩,
    ⟨none, (.un 5 .not (.t 4))⟩])
  (.cond (.t 5)
    (.seq (.reg [⟨none, (.ca (some 6) 12 [])⟩,
    ⟨none, (.mv (some 2) (.t 6))⟩])
  .ret)
    .skip))
  (.seq (.reg [⟨none, (.mv (some 7) (.t 0))⟩,
    ⟨none, (.ca (some 8) 13 [(.t 7)])⟩,
    ⟨none, (.mv (some 9) (.t 0))⟩,
    ⟨none, (.ca (some 10) 14 [(.t 9)])⟩,
    ⟨none, (.ar 11 .eql (.t 8) (.t 10))⟩,
    ⟨none, (.mv (some 12) (.t 11))⟩,
    ⟨(some (12, true)), (.mv (some 13) (.t 0))⟩,
    ⟨(some (12, true)), (.ca (some 14) 15 [(.t 13)])⟩,
    ⟨(some (12, true)), (.mv (some 15) (.t 0))⟩,
    ⟨(some (12, true)), (.ca (some 16) 16 [(.t 15)])⟩,
    ⟨(some (12, true)), (.ar 17 .eql (.t 14) (.t 16))⟩,
    ⟨none, (.pick 18 (.t 12) (.t 17) (.v (.bool false)))⟩,
    ⟨none, (.mv (some 19) (.t 18))⟩,
    ⟨(some (19, true)), (.ca (some 20) 12 [])⟩,
    ⟨none, (.pick 21 (.t 19) (.t 20) (.v (.bool false)))⟩,
    ⟨none, (.mv (some 2) (.t 21))⟩])
  .ret)))
noncomputable def ent3 : TEnt := ⟨3, [(.sl 39 (.agg 39 (.pair .str .str)))], .bool, fun x => F3 x, .plain⟩
theorem eq3 (x : dens ent3.as) : ent3.F x = evF [ent11, ent12, ent13, ent14, ent15, ent16] SHF dc3 [(.tmp 2)] ent3.as ent3.rs x := by kernel_rfl
/-- library/librarylaw44.BagManifests -/
noncomputable def F4 (a0 : List (List UInt8 × List UInt8)) : Option (Bool) :=
  bindO (F11 a0) fun y1 =>
  cond (!y1)
    (bindO (F12) fun y2 =>
    some y2)
    (bindO (F17 a0) fun y3 =>
    bindO (F18 a0) fun y4 =>
    cond (decide (y3.1 = y4.1))
      (cond (decide (y3.2 = y4.2))
        (bindO (F12) fun y5 =>
        some y5)
        (some false))
      (some false))
def dc4 : DC :=
  (.seq (.reg [⟨none, (.mv (some 2) (.v (.bool false)))⟩])
  (.seq (.seq (.reg [⟨none, (.mv (some 7) (.t 0))⟩,
    ⟨none, (.ca (some 8) 11 [(.t 7)])⟩,
    ⟨none, (.un 9 .not (.t 8))⟩])
  (.cond (.t 9)
    (.seq (.reg [⟨none, (.ca (some 10) 12 [])⟩,
    ⟨none, (.mv (some 2) (.t 10))⟩])
  .ret)
    .skip))
  (.seq (.reg [⟨none, (.mv (some 12) (.t 0))⟩,
    ⟨none, (.ca (some 13) 17 [(.t 12)])⟩,
    ⟨none, (.mv (some 11) (.t 13))⟩,
    ⟨none, (.ex 14 0 (.t 11))⟩,
    ⟨none, (.ex 15 1 (.t 11))⟩,
    ⟨none, (.mv (some 3) (.t 14))⟩,
    ⟨none, (.mv (some 4) (.t 15))⟩])
  (.seq (.reg [⟨none, (.mv (some 17) (.t 0))⟩,
    ⟨none, (.ca (some 18) 18 [(.t 17)])⟩,
    ⟨none, (.mv (some 16) (.t 18))⟩,
    ⟨none, (.ex 19 0 (.t 16))⟩,
    ⟨none, (.ex 20 1 (.t 16))⟩,
    ⟨none, (.mv (some 5) (.t 19))⟩,
    ⟨none, (.mv (some 6) (.t 20))⟩])
  (.seq (.reg [⟨none, (.mv (some 21) (.t 3))⟩,
    ⟨none, (.mv (some 22) (.t 5))⟩,
    ⟨none, (.ar 23 .eql (.t 21) (.t 22))⟩,
    ⟨none, (.mv (some 24) (.t 23))⟩,
    ⟨(some (24, true)), (.mv (some 25) (.t 4))⟩,
    ⟨(some (24, true)), (.mv (some 26) (.t 6))⟩,
    ⟨(some (24, true)), (.ar 27 .eql (.t 25) (.t 26))⟩,
    ⟨none, (.pick 28 (.t 24) (.t 27) (.v (.bool false)))⟩,
    ⟨none, (.mv (some 29) (.t 28))⟩,
    ⟨(some (29, true)), (.ca (some 30) 12 [])⟩,
    ⟨none, (.pick 31 (.t 29) (.t 30) (.v (.bool false)))⟩,
    ⟨none, (.mv (some 2) (.t 31))⟩])
  .ret)))))
noncomputable def ent4 : TEnt := ⟨4, [(.sl 39 (.agg 39 (.pair .str .str)))], .bool, fun x => F4 x, .plain⟩
theorem eq4 (x : dens ent4.as) : ent4.F x = evF [ent11, ent12, ent17, ent18] SHF dc4 [(.tmp 2)] ent4.as ent4.rs x := by kernel_rfl
/-- library/librarylaw44.BagVerifies -/
noncomputable def F5 (a0 : List (List UInt8 × List UInt8)) (a1 : List UInt8) : Option (Bool) :=
  bindO (F11 a0) fun y1 =>
  cond (!y1)
    (bindO (F12) fun y2 =>
    some y2)
    (cond (decide ((3000 : Int) < (List.length a1 : Int)))
      (bindO (F12) fun y3 =>
      some y3)
      (bindO (fVerify a0 a1) fun y4 =>
      bindO (F21 a0 a1) fun y5 =>
      bindO (F19 y4 y5) fun y6 =>
      cond (y6)
        (bindO (F12) fun y7 =>
        some y7)
        (some false)))
def dc5 : DC :=
  (.seq (.reg [⟨none, (.mv (some 4) (.v (.bool false)))⟩])
  (.seq (.seq (.reg [⟨none, (.mv (some 5) (.t 0))⟩,
    ⟨none, (.ca (some 6) 11 [(.t 5)])⟩,
    ⟨none, (.un 7 .not (.t 6))⟩,
    ⟨none, (.mv (some 8) (.t 7))⟩,
    ⟨(some (8, false)), (.mv (some 9) (.t 1))⟩,
    ⟨(some (8, false)), (.ln 10 none (.t 9))⟩,
    ⟨(some (8, false)), (.ar 11 .gtr (.t 10) (.v (.int .i64 3000)))⟩,
    ⟨none, (.pick 12 (.t 8) (.v (.bool true)) (.t 11))⟩])
  (.cond (.t 12)
    (.seq (.reg [⟨none, (.ca (some 13) 12 [])⟩,
    ⟨none, (.mv (some 4) (.t 13))⟩])
  .ret)
    .skip))
  (.seq (.reg [⟨none, (.mv (some 14) (.t 0))⟩,
    ⟨none, (.mv (some 15) (.t 1))⟩,
    ⟨none, (.ca (some 16) 20 [(.t 14), (.t 15)])⟩,
    ⟨none, (.mv (some 17) (.t 0))⟩,
    ⟨none, (.mv (some 18) (.t 1))⟩,
    ⟨none, (.ca (some 19) 21 [(.t 17), (.t 18)])⟩,
    ⟨none, (.ca (some 20) 19 [(.t 16), (.t 19)])⟩,
    ⟨none, (.mv (some 21) (.t 20))⟩,
    ⟨(some (21, true)), (.ca (some 22) 12 [])⟩,
    ⟨none, (.pick 23 (.t 21) (.t 22) (.v (.bool false)))⟩,
    ⟨none, (.mv (some 4) (.t 23))⟩])
  .ret)))
noncomputable def ent5 : TEnt := ⟨5, [(.sl 39 (.agg 39 (.pair .str .str))), .str], .bool, fun x => F5 x.1 x.2, .plain⟩
theorem eq5 (x : dens ent5.as) : ent5.F x = evF [ent11, ent12, ent19, entVerify, ent21] SHF dc5 [(.tmp 4)] ent5.as ent5.rs x := by kernel_rfl
/-- library/librarylaw44.BagPacks -/
noncomputable def F6 (a0 : List (List UInt8 × List UInt8)) : Option (Bool) :=
  bindO (F11 a0) fun y1 =>
  cond (!y1)
    (bindO (F12) fun y2 =>
    some y2)
    (bindO (F22 a0) fun y3 =>
    bindO (F23 a0) fun y4 =>
    cond (decide (y3.1 = y4.1))
      (cond (decide (y3.2 = y4.2))
        (bindO (F12) fun y5 =>
        some y5)
        (some false))
      (some false))
def dc6 : DC :=
  (.seq (.reg [⟨none, (.mv (some 2) (.v (.bool false)))⟩])
  (.seq (.seq (.reg [⟨none, (.mv (some 7) (.t 0))⟩,
    ⟨none, (.ca (some 8) 11 [(.t 7)])⟩,
    ⟨none, (.un 9 .not (.t 8))⟩])
  (.cond (.t 9)
    (.seq (.reg [⟨none, (.ca (some 10) 12 [])⟩,
    ⟨none, (.mv (some 2) (.t 10))⟩])
  .ret)
    .skip))
  (.seq (.reg [⟨none, (.mv (some 12) (.t 0))⟩,
    ⟨none, (.ca (some 13) 22 [(.t 12)])⟩,
    ⟨none, (.mv (some 11) (.t 13))⟩,
    ⟨none, (.ex 14 0 (.t 11))⟩,
    ⟨none, (.ex 15 1 (.t 11))⟩,
    ⟨none, (.mv (some 3) (.t 14))⟩,
    ⟨none, (.mv (some 4) (.t 15))⟩])
  (.seq (.reg [⟨none, (.mv (some 17) (.t 0))⟩,
    ⟨none, (.ca (some 18) 23 [(.t 17)])⟩,
    ⟨none, (.mv (some 16) (.t 18))⟩,
    ⟨none, (.ex 19 0 (.t 16))⟩,
    ⟨none, (.ex 20 1 (.t 16))⟩,
    ⟨none, (.mv (some 5) (.t 19))⟩,
    ⟨none, (.mv (some 6) (.t 20))⟩])
  (.seq (.reg [⟨none, (.mv (some 21) (.t 3))⟩,
    ⟨none, (.mv (some 22) (.t 5))⟩,
    ⟨none, (.ar 23 .eql (.t 21) (.t 22))⟩,
    ⟨none, (.mv (some 24) (.t 23))⟩,
    ⟨(some (24, true)), (.mv (some 25) (.t 4))⟩,
    ⟨(some (24, true)), (.mv (some 26) (.t 6))⟩,
    ⟨(some (24, true)), (.ar 27 .eql (.t 25) (.t 26))⟩,
    ⟨none, (.pick 28 (.t 24) (.t 27) (.v (.bool false)))⟩,
    ⟨none, (.mv (some 29) (.t 28))⟩,
    ⟨(some (29, true)), (.ca (some 30) 12 [])⟩,
    ⟨none, (.pick 31 (.t 29) (.t 30) (.v (.bool false)))⟩,
    ⟨none, (.mv (some 2) (.t 31))⟩])
  .ret)))))
noncomputable def ent6 : TEnt := ⟨6, [(.sl 39 (.agg 39 (.pair .str .str)))], .bool, fun x => F6 x, .plain⟩
theorem eq6 (x : dens ent6.as) : ent6.F x = evF [ent11, ent12, ent22, ent23] SHF dc6 [(.tmp 2)] ent6.as ent6.rs x := by kernel_rfl
/-- library/librarylaw44.BagUnpacks -/
noncomputable def F7 (a0 : List UInt8) : Option (Bool) :=
  cond (decide ((40000 : Int) < (List.length a0 : Int)))
    (bindO (F12) fun y1 =>
    some y1)
    (bindO (F24 a0) fun y2 =>
    bindO (F25 a0) fun y3 =>
    bindO (F26 y2.1 y3.1) fun y4 =>
    cond (y4)
      (cond (decide (y2.2 = y3.2))
        (bindO (F12) fun y5 =>
        some y5)
        (some false))
      (some false))
def dc7 : DC :=
  (.seq (.reg [⟨none, (.mv (some 2) (.v (.bool false)))⟩])
  (.seq (.seq (.reg [⟨none, (.mv (some 7) (.t 0))⟩,
    ⟨none, (.ln 8 none (.t 7))⟩,
    ⟨none, (.ar 9 .gtr (.t 8) (.v (.int .i64 40000)))⟩])
  (.cond (.t 9)
    (.seq (.reg [⟨none, (.ca (some 10) 12 [])⟩,
    ⟨none, (.mv (some 2) (.t 10))⟩])
  .ret)
    .skip))
  (.seq (.reg [⟨none, (.mv (some 12) (.t 0))⟩,
    ⟨none, (.ca (some 13) 24 [(.t 12)])⟩,
    ⟨none, (.mv (some 11) (.t 13))⟩,
    ⟨none, (.ex 14 0 (.t 11))⟩,
    ⟨none, (.ex 15 1 (.t 11))⟩,
    ⟨none, (.mv (some 3) (.t 14))⟩,
    ⟨none, (.mv (some 4) (.t 15))⟩])
  (.seq (.reg [⟨none, (.mv (some 17) (.t 0))⟩,
    ⟨none, (.ca (some 18) 25 [(.t 17)])⟩,
    ⟨none, (.mv (some 16) (.t 18))⟩,
    ⟨none, (.ex 19 0 (.t 16))⟩,
    ⟨none, (.ex 20 1 (.t 16))⟩,
    ⟨none, (.mv (some 5) (.t 19))⟩,
    ⟨none, (.mv (some 6) (.t 20))⟩])
  (.seq (.reg [⟨none, (.mv (some 21) (.t 3))⟩,
    ⟨none, (.mv (some 22) (.t 5))⟩,
    ⟨none, (.ca (some 23) 26 [(.t 21), (.t 22)])⟩,
    ⟨none, (.mv (some 24) (.t 23))⟩,
    ⟨(some (24, true)), (.mv (some 25) (.t 4))⟩,
    ⟨(some (24, true)), (.mv (some 26) (.t 6))⟩,
    ⟨(some (24, true)), (.ar 27 .eql (.t 25) (.t 26))⟩,
    ⟨none, (.pick 28 (.t 24) (.t 27) (.v (.bool false)))⟩,
    ⟨none, (.mv (some 29) (.t 28))⟩,
    ⟨(some (29, true)), (.ca (some 30) 12 [])⟩,
    ⟨none, (.pick 31 (.t 29) (.t 30) (.v (.bool false)))⟩,
    ⟨none, (.mv (some 2) (.t 31))⟩])
  .ret)))))
noncomputable def ent7 : TEnt := ⟨7, [.str], .bool, fun x => F7 x, .plain⟩
theorem eq7 (x : dens ent7.as) : ent7.F x = evF [ent12, ent24, ent25, ent26] SHF dc7 [(.tmp 2)] ent7.as ent7.rs x := by kernel_rfl
/-- library/librarylaw44.BagRestores -/
noncomputable def F8 (a0 : List (List UInt8 × List UInt8)) (a1 : List UInt8) : Option (Bool) :=
  bindO (F11 a0) fun y1 =>
  cond (!y1)
    (bindO (F12) fun y2 =>
    some y2)
    (cond (decide ((40000 : Int) < (List.length a1 : Int)))
      (bindO (F12) fun y3 =>
      some y3)
      (bindO (F22 a0) fun y4 =>
      jn (σ := Unit) (fun nextj5 =>
        cond (decide (y4.2 = (0 : Int)))
          (bindO (F24 y4.1) fun y6 =>
          cond (!decide (y6.2 = (0 : Int)))
            (some false)
            (bindO (F26 a0 y6.1) fun y7 =>
            cond (!y7)
              (some false)
              (nextj5 ())))
          (nextj5 ())) fun j5 =>
      bindO (F24 a1) fun y8 =>
      cond (decide (y8.2 = (0 : Int)))
        (bindO (F22 y8.1) fun y9 =>
        cond (decide (y9.1 = a1))
          (cond (decide (y9.2 = (0 : Int)))
            (bindO (F12) fun y10 =>
            some y10)
            (some false))
          (some false))
        (cond (decide ((List.length y8.1 : Int) = (0 : Int)))
          (bindO (F12) fun y11 =>
          some y11)
          (some false))))
def dc8 : DC :=
  (.seq (.reg [⟨none, (.mv (some 4) (.v (.bool false)))⟩])
  (.seq (.seq (.reg [⟨none, (.mv (some 12) (.t 0))⟩,
    ⟨none, (.ca (some 13) 11 [(.t 12)])⟩,
    ⟨none, (.un 14 .not (.t 13))⟩,
    ⟨none, (.mv (some 15) (.t 14))⟩,
    ⟨(some (15, false)), (.mv (some 16) (.t 1))⟩,
    ⟨(some (15, false)), (.ln 17 none (.t 16))⟩,
    ⟨(some (15, false)), (.ar 18 .gtr (.t 17) (.v (.int .i64 40000)))⟩,
    ⟨none, (.pick 19 (.t 15) (.v (.bool true)) (.t 18))⟩])
  (.cond (.t 19)
    (.seq (.reg [⟨none, (.ca (some 20) 12 [])⟩,
    ⟨none, (.mv (some 4) (.t 20))⟩])
  .ret)
    .skip))
  (.seq (.reg [⟨none, (.mv (some 22) (.t 0))⟩,
    ⟨none, (.ca (some 23) 22 [(.t 22)])⟩,
    ⟨none, (.mv (some 21) (.t 23))⟩,
    ⟨none, (.ex 24 0 (.t 21))⟩,
    ⟨none, (.ex 25 1 (.t 21))⟩,
    ⟨none, (.mv (some 5) (.t 24))⟩,
    ⟨none, (.mv (some 6) (.t 25))⟩])
  (.jn ⟨[], [], [7, 8, 26, 27, 28, 29, 30, 31, 32, 33, 34, 35, 36, 37, 38, 39, 40].map .s⟩ (.seq (.reg [⟨none, (.mv (some 26) (.t 6))⟩,
    ⟨none, (.ar 27 .eql (.t 26) (.v (.int .i64 0)))⟩])
  (.cond (.t 27)
    (.seq (.reg [⟨none, (.mv (some 29) (.t 5))⟩,
    ⟨none, (.ca (some 30) 24 [(.t 29)])⟩,
    ⟨none, (.mv (some 28) (.t 30))⟩,
    ⟨none, (.ex 31 0 (.t 28))⟩,
    ⟨none, (.ex 32 1 (.t 28))⟩,
    ⟨none, (.mv (some 7) (.t 31))⟩,
    ⟨none, (.mv (some 8) (.t 32))⟩])
  (.seq (.reg [⟨none, (.mv (some 33) (.t 8))⟩,
    ⟨none, (.ar 34 .neq (.t 33) (.v (.int .i64 0)))⟩,
    ⟨none, (.mv (some 35) (.t 34))⟩,
    ⟨(some (35, false)), (.mv (some 36) (.t 0))⟩,
    ⟨(some (35, false)), (.mv (some 37) (.t 7))⟩,
    ⟨(some (35, false)), (.ca (some 38) 26 [(.t 36), (.t 37)])⟩,
    ⟨(some (35, false)), (.un 39 .not (.t 38))⟩,
    ⟨none, (.pick 40 (.t 35) (.v (.bool true)) (.t 39))⟩])
  (.cond (.t 40)
    (.seq (.reg [⟨none, (.mv (some 4) (.v (.bool false)))⟩])
  .ret)
    .skip)))
    .skip))
  (.seq (.reg [⟨none, (.mv (some 42) (.t 1))⟩,
    ⟨none, (.ca (some 43) 24 [(.t 42)])⟩,
    ⟨none, (.mv (some 41) (.t 43))⟩,
    ⟨none, (.ex 44 0 (.t 41))⟩,
    ⟨none, (.ex 45 1 (.t 41))⟩,
    ⟨none, (.mv (some 9) (.t 44))⟩,
    ⟨none, (.mv (some 6) (.t 45))⟩])
  (.seq (.seq (.reg [⟨none, (.mv (some 46) (.t 6))⟩,
    ⟨none, (.ar 47 .eql (.t 46) (.v (.int .i64 0)))⟩])
  (.cond (.t 47)
    (.seq (.reg [⟨none, (.mv (some 49) (.t 9))⟩,
    ⟨none, (.ca (some 50) 22 [(.t 49)])⟩,
    ⟨none, (.mv (some 48) (.t 50))⟩,
    ⟨none, (.ex 51 0 (.t 48))⟩,
    ⟨none, (.ex 52 1 (.t 48))⟩,
    ⟨none, (.mv (some 10) (.t 51))⟩,
    ⟨none, (.mv (some 11) (.t 52))⟩])
  (.seq (.reg [⟨none, (.mv (some 53) (.t 10))⟩,
    ⟨none, (.mv (some 54) (.t 1))⟩,
    ⟨none, (.ar 55 .eql (.t 53) (.t 54))⟩,
    ⟨none, (.mv (some 56) (.t 55))⟩,
    ⟨(some (56, true)), (.mv (some 57) (.t 11))⟩,
    ⟨(some (56, true)), (.ar 58 .eql (.t 57) (.v (.int .i64 0)))⟩,
    ⟨none, (.pick 59 (.t 56) (.t 58) (.v (.bool false)))⟩,
    ⟨none, (.mv (some 60) (.t 59))⟩,
    ⟨(some (60, true)), (.ca (some 61) 12 [])⟩,
    ⟨none, (.pick 62 (.t 60) (.t 61) (.v (.bool false)))⟩,
    ⟨none, (.mv (some 4) (.t 62))⟩])
  .ret))
    .skip))
  (.seq (.reg [⟨none, (.mv (some 63) (.t 9))⟩,
    ⟨none, (.ln 64 (some 39) (.t 63))⟩,
    ⟨none, (.ar 65 .eql (.t 64) (.v (.int .i64 0)))⟩,
    ⟨none, (.mv (some 66) (.t 65))⟩,
    ⟨(some (66, true)), (.ca (some 67) 12 [])⟩,
    ⟨none, (.pick 68 (.t 66) (.t 67) (.v (.bool false)))⟩,
    ⟨none, (.mv (some 4) (.t 68))⟩])
  .ret)))))))
noncomputable def ent8 : TEnt := ⟨8, [(.sl 39 (.agg 39 (.pair .str .str))), .str], .bool, fun x => F8 x.1 x.2, .plain⟩
theorem eq8 (x : dens ent8.as) : ent8.F x = evF [ent11, ent12, ent22, ent24, ent26] SHF dc8 [(.tmp 4)] ent8.as ent8.rs x := by kernel_rfl
/-- library/librarylaw44.BagFinds -/
noncomputable def F9 (a0 : List (List UInt8 × List UInt8)) (a1 : UInt8) (a2 : List UInt8) : Option (Bool) :=
  bindO (F11 a0) fun y1 =>
  cond (!y1)
    (bindO (F12) fun y2 =>
    some y2)
    (cond (decide ((2000 : Int) < (List.length a2 : Int)))
      (bindO (F12) fun y3 =>
      some y3)
      (bindO (F13 a0) fun y4 =>
      cond (!decide (y4 = (0 : Int)))
        (bindO (F12) fun y5 =>
        some y5)
        (bindO (F17 a0) fun y6 =>
        cond (!decide (y6.2 = (0 : Int)))
          (some false)
          (bindO (fVerify a0 y6.1) fun y7 =>
          cond (!decide ((List.length y7 : Int) = (0 : Int)))
            (some false)
            (gd ((List.length a0 : Int) ≠ 0) <|
            bnd (Int.tmod (IntKind.wrap .i64 (UInt8.toNat a1 : Int)) (List.length a0 : Int)) fun x8 =>
            gd (0 < List.length a0) <|
            gd (List.length a0 ≤ big) <|
            gd (0 ≤ x8 ∧ x8 < (List.length a0 : Int)) <|
            gd ((Int.toNat x8) < List.length a0) <|
            gd ((Int.toNat x8) < List.length a0) <|
            jn (σ := Unit) (fun nextj9 =>
              bindO (F27 a2) fun y10 =>
              gd (0 ≤ x8 ∧ x8 < (List.length a0 : Int)) <|
              bindO (F27 ((List.getD a0 (Int.toNat x8) ([], [])).2)) fun y11 =>
              cond (!decide (y10 = y11))
                (bindO (fVerify (List.set a0 (Int.toNat x8) ((List.getD a0 (Int.toNat x8) ([], [])).1, a2)) y6.1) fun y12 =>
                bindO (F19 y12 [x8]) fun y13 =>
                cond (!y13)
                  (some false)
                  (nextj9 ()))
                (nextj9 ())) fun j9 =>
            gd (0 ≤ x8 ∧ x8 ≤ (List.length a0 : Int)) <|
            bnd (List.take (Int.toNat x8) a0) fun x14 =>
            gdN (List.length ([] : List (List UInt8 × List UInt8))) (List.length ([] : List (List UInt8 × List UInt8))) <|
            gd (List.length ([] : List (List UInt8 × List UInt8)) + List.length x14 ≤ big) <|
            bnd (([] : List (List UInt8 × List UInt8)) ++ x14) fun l15 =>
            bnd (IntKind.wrap .i64 (x8 + (1 : Int))) fun x16 =>
            gd (0 ≤ x16 ∧ x16 ≤ (List.length a0 : Int)) <|
            bnd (List.drop (Int.toNat x16) a0) fun x17 =>
            gdN (List.length l15) (List.length l15) <|
            gd (List.length l15 + List.length x17 ≤ big) <|
            bnd (l15 ++ x17) fun l18 =>
            bindO (fVerify l18 y6.1) fun y19 =>
            bindO (F19 y19 [(List.length l18 : Int)]) fun y20 =>
            cond (!y20)
              (some false)
              (cond (decide ((List.length l18 : Int) = (0 : Int)))
                (bindO (F12) fun y21 =>
                some y21)
                (bindO (F17 l18) fun y22 =>
                cond (decide (y22.2 = (0 : Int)))
                  (bindO (fVerify a0 y22.1) fun y23 =>
                  bindO (F19 y23 [x8]) fun y24 =>
                  cond (y24)
                    (bindO (F12) fun y25 =>
                    some y25)
                    (some false))
                  (some false))))))))
def dc9 : DC :=
  (.seq (.reg [⟨none, (.mv (some 6) (.v (.bool false)))⟩])
  (.seq (.seq (.reg [⟨none, (.mv (some 13) (.t 0))⟩,
    ⟨none, (.ca (some 14) 11 [(.t 13)])⟩,
    ⟨none, (.un 15 .not (.t 14))⟩,
    ⟨none, (.mv (some 16) (.t 15))⟩,
    ⟨(some (16, false)), (.mv (some 17) (.t 2))⟩,
    ⟨(some (16, false)), (.ln 18 none (.t 17))⟩,
    ⟨(some (16, false)), (.ar 19 .gtr (.t 18) (.v (.int .i64 2000)))⟩,
    ⟨none, (.pick 20 (.t 16) (.v (.bool true)) (.t 19))⟩,
    ⟨none, (.mv (some 21) (.t 20))⟩,
    ⟨(some (21, false)), (.mv (some 22) (.t 0))⟩,
    ⟨(some (21, false)), (.ca (some 23) 13 [(.t 22)])⟩,
    ⟨(some (21, false)), (.ar 24 .neq (.t 23) (.v (.int .i64 0)))⟩,
    ⟨none, (.pick 25 (.t 21) (.v (.bool true)) (.t 24))⟩])
  (.cond (.t 25)
    (.seq (.reg [⟨none, (.ca (some 26) 12 [])⟩,
    ⟨none, (.mv (some 6) (.t 26))⟩])
  .ret)
    .skip))
  (.seq (.reg [⟨none, (.mv (some 28) (.t 0))⟩,
    ⟨none, (.ca (some 29) 17 [(.t 28)])⟩,
    ⟨none, (.mv (some 27) (.t 29))⟩,
    ⟨none, (.ex 30 0 (.t 27))⟩,
    ⟨none, (.ex 31 1 (.t 27))⟩,
    ⟨none, (.mv (some 7) (.t 30))⟩,
    ⟨none, (.mv (some 8) (.t 31))⟩])
  (.seq (.seq (.reg [⟨none, (.mv (some 32) (.t 8))⟩,
    ⟨none, (.ar 33 .neq (.t 32) (.v (.int .i64 0)))⟩,
    ⟨none, (.mv (some 34) (.t 33))⟩,
    ⟨(some (34, false)), (.mv (some 35) (.t 0))⟩,
    ⟨(some (34, false)), (.mv (some 36) (.t 7))⟩,
    ⟨(some (34, false)), (.ca (some 37) 20 [(.t 35), (.t 36)])⟩,
    ⟨(some (34, false)), (.ln 38 (some 3) (.t 37))⟩,
    ⟨(some (34, false)), (.ar 39 .neq (.t 38) (.v (.int .i64 0)))⟩,
    ⟨none, (.pick 40 (.t 34) (.v (.bool true)) (.t 39))⟩])
  (.cond (.t 40)
    (.seq (.reg [⟨none, (.mv (some 6) (.v (.bool false)))⟩])
  .ret)
    .skip))
  (.seq (.reg [⟨none, (.mv (some 41) (.t 1))⟩,
    ⟨none, (.cvi 42 .i64 (.t 41))⟩,
    ⟨none, (.mv (some 43) (.t 0))⟩,
    ⟨none, (.ln 44 (some 39) (.t 43))⟩,
    ⟨none, (.ar 45 .rem (.t 42) (.t 44))⟩,
    ⟨none, (.mv (some 9) (.t 45))⟩])
  (.seq (.reg [⟨none, (.zs 46 39)⟩,
    ⟨none, (.mv (some 47) (.t 0))⟩,
    ⟨none, (.cx 48 39 (.t 46) (.t 47))⟩,
    ⟨none, (.mv (some 10) (.t 48))⟩])
  (.seq (.reg [⟨none, (.mv (some 49) (.t 10))⟩,
    ⟨none, (.mv (some 50) (.t 9))⟩,
    ⟨none, (.mv (some 51) (.t 2))⟩,
    ⟨none, (.ea 52 39 (.t 49) (.t 50))⟩,
    ⟨none, (.fa 53 39 1 (.t 52))⟩,
    ⟨none, (.st none (.t 53) (.t 51))⟩])
  (.jn ⟨[], [], [10, 48, 49, 52, 53, 54, 55, 56, 57, 58, 59, 60, 61, 62, 63, 64, 65, 66, 67, 68, 69, 70, 71].map .s ++ [48].map .b ++ [68].map .f⟩ (.seq (.seq (.gh 48 [])
  (.reg [⟨none, (.mv (some 54) (.t 2))⟩,
    ⟨none, (.ca (some 55) 27 [(.t 54)])⟩,
    ⟨none, (.mv (some 56) (.t 0))⟩,
    ⟨none, (.mv (some 57) (.t 9))⟩,
    ⟨none, (.ea 58 39 (.t 56) (.t 57))⟩,
    ⟨none, (.fa 59 39 1 (.t 58))⟩,
    ⟨none, (.ld 60 none (.t 59))⟩,
    ⟨none, (.ca (some 61) 27 [(.t 60)])⟩,
    ⟨none, (.ar 62 .neq (.t 55) (.t 61))⟩,
    ⟨none, (.mv (some 63) (.t 62))⟩,
    ⟨(some (63, true)), (.mv (some 64) (.t 10))⟩,
    ⟨(some (63, true)), (.mv (some 65) (.t 7))⟩,
    ⟨(some (63, true)), (.ca (some 66) 20 [(.t 64), (.t 65)])⟩,
    ⟨(some (63, true)), (.mv (some 67) (.t 9))⟩,
    ⟨(some (63, true)), (.bs 68 3 none [(.t 67)])⟩,
    ⟨(some (63, true)), (.ca (some 69) 19 [(.t 66), (.t 68)])⟩,
    ⟨(some (63, true)), (.un 70 .not (.t 69))⟩,
    ⟨none, (.pick 71 (.t 63) (.t 70) (.v (.bool false)))⟩]))
  (.cond (.t 71)
    (.seq (.reg [⟨none, (.mv (some 6) (.v (.bool false)))⟩])
  .ret)
    .skip))
  (.seq (.reg [⟨none, (.bs 72 39 (some 39) [])⟩,
    ⟨none, (.mv (some 73) (.t 0))⟩,
    ⟨none, (.mv (some 74) (.t 9))⟩,
    ⟨none, (.sc 75 (some 39) (.t 73) none (some (.t 74)))⟩,
    ⟨none, (.ap 76 39 (.t 72) (.t 75))⟩,
    ⟨none, (.mv (some 77) (.t 0))⟩,
    ⟨none, (.mv (some 78) (.t 9))⟩,
    ⟨none, (.ar 79 .add (.t 78) (.v (.int .i64 1)))⟩,
    ⟨none, (.sc 80 (some 39) (.t 77) (some (.t 79)) none)⟩,
    ⟨none, (.ap 81 39 (.t 76) (.t 80))⟩,
    ⟨none, (.mv (some 11) (.t 81))⟩])
  (.seq (.seq (.reg [⟨none, (.mv (some 82) (.t 11))⟩,
    ⟨none, (.mv (some 83) (.t 7))⟩,
    ⟨none, (.ca (some 84) 20 [(.t 82), (.t 83)])⟩,
    ⟨none, (.mv (some 85) (.t 11))⟩,
    ⟨none, (.ln 86 (some 39) (.t 85))⟩,
    ⟨none, (.bs 87 3 none [(.t 86)])⟩,
    ⟨none, (.ca (some 88) 19 [(.t 84), (.t 87)])⟩,
    ⟨none, (.un 89 .not (.t 88))⟩])
  (.cond (.t 89)
    (.seq (.reg [⟨none, (.mv (some 6) (.v (.bool false)))⟩])
  .ret)
    .skip))
  (.seq (.seq (.reg [⟨none, (.mv (some 90) (.t 11))⟩,
    ⟨none, (.ln 91 (some 39) (.t 90))⟩,
    ⟨none, (.ar 92 .eql (.t 91) (.v (.int .i64 0)))⟩])
  (.cond (.t 92)
    (.seq (.reg [⟨none, (.ca (some 93) 12 [])⟩,
    ⟨none, (.mv (some 6) (.t 93))⟩])
  .ret)
    .skip))
  (.seq (.reg [⟨none, (.mv (some 95) (.t 11))⟩,
    ⟨none, (.ca (some 96) 17 [(.t 95)])⟩,
    ⟨none, (.mv (some 94) (.t 96))⟩,
    ⟨none, (.ex 97 0 (.t 94))⟩,
    ⟨none, (.ex 98 1 (.t 94))⟩,
    ⟨none, (.mv (some 12) (.t 97))⟩,
    ⟨none, (.mv (some 8) (.t 98))⟩])
  (.seq (.reg [⟨none, (.mv (some 99) (.t 8))⟩,
    ⟨none, (.ar 100 .eql (.t 99) (.v (.int .i64 0)))⟩,
    ⟨none, (.mv (some 101) (.t 100))⟩,
    ⟨(some (101, true)), (.mv (some 102) (.t 0))⟩,
    ⟨(some (101, true)), (.mv (some 103) (.t 12))⟩,
    ⟨(some (101, true)), (.ca (some 104) 20 [(.t 102), (.t 103)])⟩,
    ⟨(some (101, true)), (.mv (some 105) (.t 9))⟩,
    ⟨(some (101, true)), (.bs 106 3 none [(.t 105)])⟩,
    ⟨(some (101, true)), (.ca (some 107) 19 [(.t 104), (.t 106)])⟩,
    ⟨none, (.pick 108 (.t 101) (.t 107) (.v (.bool false)))⟩,
    ⟨none, (.mv (some 109) (.t 108))⟩,
    ⟨(some (109, true)), (.ca (some 110) 12 [])⟩,
    ⟨none, (.pick 111 (.t 109) (.t 110) (.v (.bool false)))⟩,
    ⟨none, (.mv (some 6) (.t 111))⟩])
  .ret)))))))))))))
noncomputable def ent9 : TEnt := ⟨9, [(.sl 39 (.agg 39 (.pair .str .str))), .byte, .str], .bool, fun x => F9 x.1 x.2.1 x.2.2, .plain⟩
theorem eq9 (x : dens ent9.as) : ent9.F x = evF [ent11, ent12, ent13, ent17, ent19, entVerify, ent27] SHF dc9 [(.tmp 6)] ent9.as ent9.rs x := by kernel_rfl
/-- library/librarylaw44.BagDetects -/
noncomputable def F10 (a0 : List (List UInt8 × List UInt8)) (a1 : Int) (a2 : UInt8) : Option (Bool) :=
  bindO (F11 a0) fun y1 =>
  cond (!y1)
    (bindO (F12) fun y2 =>
    some y2)
    (bindO (F22 a0) fun y3 =>
    cond (!decide (y3.2 = (0 : Int)))
      (bindO (F12) fun y4 =>
      some y4)
      (gd (0 < List.length a0) <|
      gd (List.length a0 ≤ big) <|
      gd ((List.length a0 : Int) ≠ 0) <|
      bnd (Int.tmod (IntKind.wrap .i64 a1) (List.length a0 : Int)) fun x5 =>
      gd (0 ≤ x5 ∧ x5 < (List.length a0 : Int)) <|
      cond (decide ((List.length ((List.getD a0 (Int.toNat x5) ([], [])).2) : Int) = (0 : Int)))
        (bindO (F12) fun y6 =>
        some y6)
        (gd ((List.length a0 : Int) ≠ 0) <|
        bnd (IntKind.wrap .i64 (Int.tdiv (IntKind.wrap .i64 a1) (List.length a0 : Int))) fun x7 =>
        gd ((List.length ((List.getD a0 (Int.toNat x5) ([], [])).2) : Int) ≠ 0) <|
        bnd (Int.tmod x7 (List.length ((List.getD a0 (Int.toNat x5) ([], [])).2) : Int)) fun x8 =>
        bnd (IntKind.wrap .i64 ((List.length y3.1 : Int) - (16 : Int))) fun x9 =>
        loopK (σ := Int × Int) (fun p10 againp10 =>
          cond (decide (p10.2 < (List.length a0 : Int)))
            (gd (0 ≤ p10.2 ∧ p10.2 < (List.length a0 : Int)) <|
            bnd (IntKind.wrap .i64 (p10.1 - (List.length ((List.getD a0 (Int.toNat p10.2) ([], [])).2) : Int))) fun x11 =>
            bnd (IntKind.wrap .i64 (p10.2 + (1 : Int))) fun x12 =>
            againp10 (x11, x12))
            (bnd (IntKind.wrap .i64 (p10.1 + x8)) fun x13 =>
            cond (decide (x13 < (0 : Int)))
              (some false)
              (cond (decide ((List.length y3.1 : Int) ≤ x13))
                (some false)
                (gd (0 ≤ x13 ∧ x13 < (List.length y3.1 : Int)) <|
                gd (0 ≤ x5 ∧ x5 < (List.length a0 : Int)) <|
                gd (0 ≤ x8 ∧ x8 < (List.length ((List.getD a0 (Int.toNat x5) ([], [])).2) : Int)) <|
                cond (!decide ((UInt8.toNat (List.getD y3.1 (Int.toNat x13) 0) : Int) = (UInt8.toNat (List.getD ((List.getD a0 (Int.toNat x5) ([], [])).2) (Int.toNat x8) 0) : Int)))
                  (some false)
                  (gd (0 ≤ x5 ∧ x5 < (List.length a0 : Int)) <|
                  gd (0 ≤ x8 ∧ x8 ≤ (List.length ((List.getD a0 (Int.toNat x5) ([], [])).2) : Int)) <|
                  bnd (List.take (Int.toNat x8) ((List.getD a0 (Int.toNat x5) ([], [])).2)) fun x14 =>
                  gd (List.length x14 + List.length [a2] ≤ big) <|
                  bnd (x14 ++ [a2]) fun x15 =>
                  gd (0 ≤ x5 ∧ x5 < (List.length a0 : Int)) <|
                  bnd (IntKind.wrap .i64 (x8 + (1 : Int))) fun x16 =>
                  gd (0 ≤ x16 ∧ x16 ≤ (List.length ((List.getD a0 (Int.toNat x5) ([], [])).2) : Int)) <|
                  bnd (List.drop (Int.toNat x16) ((List.getD a0 (Int.toNat x5) ([], [])).2)) fun x17 =>
                  gd (List.length x15 + List.length x17 ≤ big) <|
                  bnd (x15 ++ x17) fun x18 =>
                  gd (0 ≤ x5 ∧ x5 < (List.length a0 : Int)) <|
                  gd ((Int.toNat x5) < List.length a0) <|
                  gd ((Int.toNat x5) < List.length a0) <|
                  gd (0 ≤ x5 ∧ x5 < (List.length a0 : Int)) <|
                  gd (0 ≤ x8 ∧ x8 < (List.length ((List.getD a0 (Int.toNat x5) ([], [])).2) : Int)) <|
                  cond (decide ((UInt8.toNat a2 : Int) = (UInt8.toNat (List.getD ((List.getD a0 (Int.toNat x5) ([], [])).2) (Int.toNat x8) 0) : Int)))
                    (bindO (F12) fun y19 =>
                    some y19)
                    (bindO (F15 (List.set a0 (Int.toNat x5) ((List.getD a0 (Int.toNat x5) ([], [])).1, x18))) fun y20 =>
                    bindO (F15 a0) fun y21 =>
                    cond (decide (y20 = y21))
                      (bindO (F12) fun y22 =>
                      some y22)
                      (gd (0 ≤ x13 ∧ x13 ≤ (List.length y3.1 : Int)) <|
                      bnd (List.take (Int.toNat x13) y3.1) fun x23 =>
                      gd (List.length x23 + List.length [a2] ≤ big) <|
                      bnd (x23 ++ [a2]) fun x24 =>
                      bnd (IntKind.wrap .i64 (x13 + (1 : Int))) fun x25 =>
                      gd (0 ≤ x25 ∧ x25 ≤ (List.length y3.1 : Int)) <|
                      bnd (List.drop (Int.toNat x25) y3.1) fun x26 =>
                      gd (List.length x24 + List.length x26 ≤ big) <|
                      bnd (x24 ++ x26) fun x27 =>
                      bindO (F24 x27) fun y28 =>
                      cond (decide ((List.length y28.1 : Int) = (0 : Int)))
                        (cond (decide (y28.2 = (5 : Int)))
                          (bindO (F12) fun y29 =>
                          some y29)
                          (some false))
                        (some false)))))))) (x9, x5))))
def dc10 : DC :=
  (.seq (.reg [⟨none, (.mv (some 6) (.v (.bool false)))⟩])
  (.seq (.seq (.reg [⟨none, (.mv (some 17) (.t 0))⟩,
    ⟨none, (.ca (some 18) 11 [(.t 17)])⟩,
    ⟨none, (.un 19 .not (.t 18))⟩])
  (.cond (.t 19)
    (.seq (.reg [⟨none, (.ca (some 20) 12 [])⟩,
    ⟨none, (.mv (some 6) (.t 20))⟩])
  .ret)
    .skip))
  (.seq (.reg [⟨none, (.mv (some 22) (.t 0))⟩,
    ⟨none, (.ca (some 23) 22 [(.t 22)])⟩,
    ⟨none, (.mv (some 21) (.t 23))⟩,
    ⟨none, (.ex 24 0 (.t 21))⟩,
    ⟨none, (.ex 25 1 (.t 21))⟩,
    ⟨none, (.mv (some 7) (.t 24))⟩,
    ⟨none, (.mv (some 8) (.t 25))⟩])
  (.seq (.seq (.reg [⟨none, (.mv (some 26) (.t 8))⟩,
    ⟨none, (.ar 27 .neq (.t 26) (.v (.int .i64 0)))⟩])
  (.cond (.t 27)
    (.seq (.reg [⟨none, (.ca (some 28) 12 [])⟩,
    ⟨none, (.mv (some 6) (.t 28))⟩])
  .ret)
    .skip))
  (.seq (.reg [⟨none, (.zs 29 39)⟩,
    ⟨none, (.mv (some 30) (.t 0))⟩,
    ⟨none, (.cx 31 39 (.t 29) (.t 30))⟩,
    ⟨none, (.mv (some 9) (.t 31))⟩])
  (.seq (.reg [⟨none, (.mv (some 32) (.t 1))⟩,
    ⟨none, (.cvi 33 .i64 (.t 32))⟩,
    ⟨none, (.mv (some 34) (.t 0))⟩,
    ⟨none, (.ln 35 (some 39) (.t 34))⟩,
    ⟨none, (.ar 36 .rem (.t 33) (.t 35))⟩,
    ⟨none, (.mv (some 10) (.t 36))⟩])
  (.seq (.reg [⟨none, (.mv (some 37) (.t 0))⟩,
    ⟨none, (.mv (some 38) (.t 10))⟩,
    ⟨none, (.ea 39 39 (.t 37) (.t 38))⟩,
    ⟨none, (.fa 40 39 1 (.t 39))⟩,
    ⟨none, (.ld 41 none (.t 40))⟩,
    ⟨none, (.ln 42 none (.t 41))⟩,
    ⟨none, (.mv (some 11) (.t 42))⟩])
  (.seq (.seq (.reg [⟨none, (.mv (some 43) (.t 11))⟩,
    ⟨none, (.ar 44 .eql (.t 43) (.v (.int .i64 0)))⟩])
  (.cond (.t 44)
    (.seq (.reg [⟨none, (.ca (some 45) 12 [])⟩,
    ⟨none, (.mv (some 6) (.t 45))⟩])
  .ret)
    .skip))
  (.seq (.reg [⟨none, (.mv (some 46) (.t 1))⟩,
    ⟨none, (.cvi 47 .i64 (.t 46))⟩,
    ⟨none, (.mv (some 48) (.t 0))⟩,
    ⟨none, (.ln 49 (some 39) (.t 48))⟩,
    ⟨none, (.ar 50 .quo (.t 47) (.t 49))⟩,
    ⟨none, (.mv (some 51) (.t 11))⟩,
    ⟨none, (.ar 52 .rem (.t 50) (.t 51))⟩,
    ⟨none, (.mv (some 12) (.t 52))⟩])
  (.seq (.reg [⟨none, (.mv (some 53) (.t 7))⟩,
    ⟨none, (.ln 54 none (.t 53))⟩,
    ⟨none, (.ar 55 .sub (.t 54) (.v (.int .i64 16)))⟩,
    ⟨none, (.mv (some 13) (.t 55))⟩])
  (.seq (.seq (.reg [⟨none, (.mv (some 56) (.t 10))⟩,
    ⟨none, (.mv (some 14) (.t 56))⟩])
  (.block 0 (.loop ⟨[(13, (.lf (.int .i64))), (14, (.lf (.int .i64)))], [], [57, 58, 59, 60, 61, 62, 63, 64, 65, 66, 67, 68, 69, 70].map .s⟩ (.seq (.seq (.reg [⟨none, (.mv (some 57) (.t 14))⟩,
    ⟨none, (.mv (some 58) (.t 0))⟩,
    ⟨none, (.ln 59 (some 39) (.t 58))⟩,
    ⟨none, (.ar 60 .lss (.t 57) (.t 59))⟩])
  (.cond (.t 60)
    .skip
    (.exit 0)))
  (.seq (.block 1 (.reg [⟨none, (.mv (some 63) (.t 13))⟩,
    ⟨none, (.mv (some 64) (.t 0))⟩,
    ⟨none, (.mv (some 65) (.t 14))⟩,
    ⟨none, (.ea 66 39 (.t 64) (.t 65))⟩,
    ⟨none, (.fa 67 39 1 (.t 66))⟩,
    ⟨none, (.ld 68 none (.t 67))⟩,
    ⟨none, (.ln 69 none (.t 68))⟩,
    ⟨none, (.ar 70 .sub (.t 63) (.t 69))⟩,
    ⟨none, (.mv (some 13) (.t 70))⟩]))
  (.reg [⟨none, (.mv (some 61) (.t 14))⟩,
    ⟨none, (.ar 62 .add (.t 61) (.v (.int .i64 1)))⟩,
    ⟨none, (.mv (some 14) (.t 62))⟩]))))))
  (.seq (.reg [⟨none, (.mv (some 71) (.t 13))⟩,
    ⟨none, (.mv (some 72) (.t 12))⟩,
    ⟨none, (.ar 73 .add (.t 71) (.t 72))⟩,
    ⟨none, (.mv (some 13) (.t 73))⟩])
  (.seq (.seq (.reg [⟨none, (.mv (some 74) (.t 13))⟩,
    ⟨none, (.ar 75 .lss (.t 74) (.v (.int .i64 0)))⟩,
    ⟨none, (.mv (some 76) (.t 75))⟩,
    ⟨(some (76, false)), (.mv (some 77) (.t 13))⟩,
    ⟨(some (76, false)), (.mv (some 78) (.t 7))⟩,
    ⟨(some (76, false)), (.ln 79 none (.t 78))⟩,
    ⟨(some (76, false)), (.ar 80 .geq (.t 77) (.t 79))⟩,
    ⟨none, (.pick 81 (.t 76) (.v (.bool true)) (.t 80))⟩,
    ⟨none, (.mv (some 82) (.t 81))⟩,
    ⟨(some (82, false)), (.mv (some 83) (.t 7))⟩,
    ⟨(some (82, false)), (.mv (some 84) (.t 13))⟩,
    ⟨(some (82, false)), (.ix 85 (.t 83) (.t 84))⟩,
    ⟨(some (82, false)), (.mv (some 86) (.t 0))⟩,
    ⟨(some (82, false)), (.mv (some 87) (.t 10))⟩,
    ⟨(some (82, false)), (.ea 88 39 (.t 86) (.t 87))⟩,
    ⟨(some (82, false)), (.fa 89 39 1 (.t 88))⟩,
    ⟨(some (82, false)), (.ld 90 none (.t 89))⟩,
    ⟨(some (82, false)), (.mv (some 91) (.t 12))⟩,
    ⟨(some (82, false)), (.ix 92 (.t 90) (.t 91))⟩,
    ⟨(some (82, false)), (.ar 93 .neq (.t 85) (.t 92))⟩,
    ⟨none, (.pick 94 (.t 82) (.v (.bool true)) (.t 93))⟩])
  (.cond (.t 94)
    (.seq (.reg [⟨none, (.mv (some 6) (.v (.bool false)))⟩])
  .ret)
    .skip))
  (.seq (.reg [⟨none, (.mv (some 95) (.t 9))⟩,
    ⟨none, (.mv (some 96) (.t 10))⟩,
    ⟨none, (.mv (some 97) (.t 0))⟩,
    ⟨none, (.mv (some 98) (.t 10))⟩,
    ⟨none, (.ea 99 39 (.t 97) (.t 98))⟩,
    ⟨none, (.fa 100 39 1 (.t 99))⟩,
    ⟨none, (.ld 101 none (.t 100))⟩,
    ⟨none, (.mv (some 102) (.t 12))⟩,
    ⟨none, (.sc 103 none (.t 101) none (some (.t 102)))⟩,
    ⟨none, (.mv (some 104) (.t 2))⟩,
    ⟨none, (.bs 105 5 none [(.t 104)])⟩,
    ⟨none, (.cvb 106 (.t 105))⟩,
    ⟨none, (.ar 107 .add (.t 103) (.t 106))⟩,
    ⟨none, (.mv (some 108) (.t 0))⟩,
    ⟨none, (.mv (some 109) (.t 10))⟩,
    ⟨none, (.ea 110 39 (.t 108) (.t 109))⟩,
    ⟨none, (.fa 111 39 1 (.t 110))⟩,
    ⟨none, (.ld 112 none (.t 111))⟩,
    ⟨none, (.mv (some 113) (.t 12))⟩,
    ⟨none, (.ar 114 .add (.t 113) (.v (.int .i64 1)))⟩,
    ⟨none, (.sc 115 none (.t 112) (some (.t 114)) none)⟩,
    ⟨none, (.ar 116 .add (.t 107) (.t 115))⟩,
    ⟨none, (.ea 117 39 (.t 95) (.t 96))⟩,
    ⟨none, (.fa 118 39 1 (.t 117))⟩,
    ⟨none, (.st none (.t 118) (.t 116))⟩])
  (.seq (.seq (.seq (.gh 31 [])
  (.reg [⟨none, (.mv (some 119) (.t 2))⟩,
    ⟨none, (.mv (some 120) (.t 0))⟩,
    ⟨none, (.mv (some 121) (.t 10))⟩,
    ⟨none, (.ea 122 39 (.t 120) (.t 121))⟩,
    ⟨none, (.fa 123 39 1 (.t 122))⟩,
    ⟨none, (.ld 124 none (.t 123))⟩,
    ⟨none, (.mv (some 125) (.t 12))⟩,
    ⟨none, (.ix 126 (.t 124) (.t 125))⟩,
    ⟨none, (.ar 127 .eql (.t 119) (.t 126))⟩,
    ⟨none, (.mv (some 128) (.t 127))⟩,
    ⟨(some (128, false)), (.mv (some 129) (.t 9))⟩,
    ⟨(some (128, false)), (.ca (some 130) 15 [(.t 129)])⟩,
    ⟨(some (128, false)), (.mv (some 131) (.t 0))⟩,
    ⟨(some (128, false)), (.ca (some 132) 15 [(.t 131)])⟩,
    ⟨(some (128, false)), (.ar 133 .eql (.t 130) (.t 132))⟩,
    ⟨none, (.pick 134 (.t 128) (.v (.bool true)) (.t 133))⟩]))
  (.cond (.t 134)
    (.seq (.reg [⟨none, (.ca (some 135) 12 [])⟩,
    ⟨none, (.mv (some 6) (.t 135))⟩])
  .ret)
    .skip))
  (.seq (.reg [⟨none, (.mv (some 137) (.t 7))⟩,
    ⟨none, (.mv (some 138) (.t 13))⟩,
    ⟨none, (.sc 139 none (.t 137) none (some (.t 138)))⟩,
    ⟨none, (.mv (some 140) (.t 2))⟩,
    ⟨none, (.bs 141 5 none [(.t 140)])⟩,
    ⟨none, (.cvb 142 (.t 141))⟩,
    ⟨none, (.ar 143 .add (.t 139) (.t 142))⟩,
    ⟨none, (.mv (some 144) (.t 7))⟩,
    ⟨none, (.mv (some 145) (.t 13))⟩,
    ⟨none, (.ar 146 .add (.t 145) (.v (.int .i64 1)))⟩,
    ⟨none, (.sc 147 none (.t 144) (some (.t 146)) none)⟩,
    ⟨none, (.ar 148 .add (.t 143) (.t 147))⟩,
    ⟨none, (.ca (some 149) 24 [(.t 148)])⟩,
    ⟨none, (.mv (some 136) (.t 149))⟩,
    ⟨none, (.ex 150 0 (.t 136))⟩,
    ⟨none, (.ex 151 1 (.t 136))⟩,
    ⟨none, (.mv (some 15) (.t 150))⟩,
    ⟨none, (.mv (some 16) (.t 151))⟩])
  (.seq (.reg [⟨none, (.mv (some 152) (.t 15))⟩,
    ⟨none, (.ln 153 (some 39) (.t 152))⟩,
    ⟨none, (.ar 154 .eql (.t 153) (.v (.int .i64 0)))⟩,
    ⟨none, (.mv (some 155) (.t 154))⟩,
    ⟨(some (155, true)), (.mv (some 156) (.t 16))⟩,
    ⟨(some (155, true)), (.ar 157 .eql (.t 156) (.v (.int .i64 5)))⟩,
    ⟨none, (.pick 158 (.t 155) (.t 157) (.v (.bool false)))⟩,
    ⟨none, (.mv (some 159) (.t 158))⟩,
    ⟨(some (159, true)), (.ca (some 160) 12 [])⟩,
    ⟨none, (.pick 161 (.t 159) (.t 160) (.v (.bool false)))⟩,
    ⟨none, (.mv (some 6) (.t 161))⟩])
  .ret)))))))))))))))))
noncomputable def ent10 : TEnt := ⟨10, [(.sl 39 (.agg 39 (.pair .str .str))), (.int .u16), .byte], .bool, fun x => F10 x.1 x.2.1 x.2.2, .plain⟩
theorem eq10 (x : dens ent10.as) : ent10.F x = evF [ent11, ent12, ent15, ent22, ent24] SHF dc10 [(.tmp 6)] ent10.as ent10.rs x := by kernel_rfl
theorem mixedF : Tryz.prog.follows .mixedOrders = true := by kernel_rfl
section
variable {G : World → Prop} (hG : Keeps G)
include hG in
theorem ok117 : TEnt.Ok Tryz.prog G ent117 :=
  ent_ok hG mixedF (fn := Tryz.f117) (d := dc117) (crs := [(.tmp 2)]) (hint := []) (TT := []) (SH := SHF) rfl rfl (by kernel_rfl) (splitsNil (by kernel_rfl)) (by decide) rfl trivial eq117
include hG in
theorem ok96 (h117 : TEnt.Ok Tryz.prog G ent117) (h118 : TEnt.Ok Tryz.prog G entTZ) : TEnt.Ok Tryz.prog G ent96 :=
  ent_ok hG mixedF (fn := Tryz.f96) (d := dc96) (crs := [(.tmp 10), (.tmp 11)]) (hint := [(30, 12)]) (TT := [ent117, entTZ]) (SH := SHF) rfl rfl (by kernel_rfl) (splitsNil (by kernel_rfl)) (by decide) rfl ⟨h117, h118, trivial⟩ eq96
include hG in
theorem ok81 (h96 : TEnt.Ok Tryz.prog G ent96) : TEnt.Ok Tryz.prog G ent81 :=
  ent_ok hG mixedF (fn := Tryz.f81) (d := dc81) (crs := [(.tmp 4)]) (hint := []) (TT := [ent96]) (SH := SHF) rfl rfl (by kernel_rfl) (splitsNil (by kernel_rfl)) (by decide) rfl ⟨h96, trivial⟩ eq81
include hG in
theorem ok63 (h81 : TEnt.Ok Tryz.prog G ent81) : TEnt.Ok Tryz.prog G ent63 :=
  ent_ok hG mixedF (fn := Tryz.f63) (d := dc63) (crs := [(.tmp 4)]) (hint := []) (TT := [ent81]) (SH := SHF) rfl rfl (by kernel_rfl) (splitsNil (by kernel_rfl)) (by decide) rfl ⟨h81, trivial⟩ eq63
include hG in
theorem ok48 (h63 : TEnt.Ok Tryz.prog G ent63) (h64 : TEnt.Ok Tryz.prog G entRepeat) : TEnt.Ok Tryz.prog G ent48 :=
  ent_ok hG mixedF (fn := Tryz.f48) (d := dc48) (crs := [(.tmp 2)]) (hint := []) (TT := [ent63, entRepeat]) (SH := SHF) rfl rfl (by kernel_rfl) (splitsNil (by kernel_rfl)) (by decide) rfl ⟨h63, h64, trivial⟩ eq48
include hG in
theorem ok27 (h48 : TEnt.Ok Tryz.prog G ent48) : TEnt.Ok Tryz.prog G ent27 :=
  ent_ok hG mixedF (fn := Tryz.f27) (d := dc27) (crs := [(.tmp 2)]) (hint := []) (TT := [ent48]) (SH := SHF) rfl rfl (by kernel_rfl) (splitsNil (by kernel_rfl)) (by decide) rfl ⟨h48, trivial⟩ eq27
include hG in
theorem ok73 (h48 : TEnt.Ok Tryz.prog G ent48) : TEnt.Ok Tryz.prog G ent73 :=
  ent_ok hG mixedF (fn := Tryz.f73) (d := dc73) (crs := [(.tmp 4)]) (hint := []) (TT := [ent48]) (SH := SHF) rfl rfl (by kernel_rfl) (splitsNil (by kernel_rfl)) (by decide) rfl ⟨h48, trivial⟩ eq73
include hG in
theorem ok32 : TEnt.Ok Tryz.prog G ent32 :=
  ent_ok hG mixedF (fn := Tryz.f32) (d := dc32) (crs := [(.tmp 2)]) (hint := []) (TT := []) (SH := SHF) rfl rfl (by kernel_rfl) (splitsNil (by kernel_rfl)) (by decide) rfl trivial eq32
include hG in
theorem ok74 (h32 : TEnt.Ok Tryz.prog G ent32) : TEnt.Ok Tryz.prog G ent74 :=
  ent_ok hG mixedF (fn := Tryz.f74) (d := dc74) (crs := [(.tmp 4)]) (hint := []) (TT := [ent32]) (SH := SHF) rfl rfl (by kernel_rfl) (splitsNil (by kernel_rfl)) (by decide) rfl ⟨h32, trivial⟩ eq74
include hG in
theorem ok57 (h49 : TEnt.Ok Tryz.prog G entTrim) : TEnt.Ok Tryz.prog G ent57 :=
  ent_ok hG mixedF (fn := Tryz.f57) (d := dc57) (crs := [(.tmp 2)]) (hint := []) (TT := [entTrim]) (SH := SHF) rfl rfl (by kernel_rfl) (splitsNil (by kernel_rfl)) (by decide) rfl ⟨h49, trivial⟩ eq57
include hG in
theorem ok58 : TEnt.Ok Tryz.prog G ent58 :=
  ent_ok hG mixedF (fn := Tryz.f58) (d := dc58) (crs := [(.tmp 2)]) (hint := []) (TT := []) (SH := SHF) rfl rfl (by kernel_rfl) (splitsNil (by kernel_rfl)) (by decide) rfl trivial eq58
include hG in
theorem ok52 (h48 : TEnt.Ok Tryz.prog G ent48) : TEnt.Ok Tryz.prog G ent52 :=
  ent_ok hG mixedF (fn := Tryz.f52) (d := dc52) (crs := [(.tmp 2)]) (hint := [(7, 8)]) (TT := [ent48]) (SH := SHF) rfl rfl (by kernel_rfl) (splitsNil (by kernel_rfl)) (by decide) rfl ⟨h48, trivial⟩ eq52
include hG in
theorem ok53 (h73 : TEnt.Ok Tryz.prog G ent73) : TEnt.Ok Tryz.prog G ent53 :=
  ent_ok hG mixedF (fn := Tryz.f53) (d := dc53) (crs := [(.tmp 2)]) (hint := []) (TT := [ent73]) (SH := SHF) rfl rfl (by kernel_rfl) (splitsNil (by kernel_rfl)) (by decide) rfl ⟨h73, trivial⟩ eq53
include hG in
theorem ok54 (h32 : TEnt.Ok Tryz.prog G ent32) : TEnt.Ok Tryz.prog G ent54 :=
  ent_ok hG mixedF (fn := Tryz.f54) (d := dc54) (crs := [(.tmp 2)]) (hint := []) (TT := [ent32]) (SH := SHF) rfl rfl (by kernel_rfl) (splitsNil (by kernel_rfl)) (by decide) rfl ⟨h32, trivial⟩ eq54
include hG in
theorem ok55 (h74 : TEnt.Ok Tryz.prog G ent74) : TEnt.Ok Tryz.prog G ent55 :=
  ent_ok hG mixedF (fn := Tryz.f55) (d := dc55) (crs := [(.tmp 2)]) (hint := []) (TT := [ent74]) (SH := SHF) rfl rfl (by kernel_rfl) (splitsNil (by kernel_rfl)) (by decide) rfl ⟨h74, trivial⟩ eq55
include hG in
theorem ok31 (h27 : TEnt.Ok Tryz.prog G ent27) (h52 : TEnt.Ok Tryz.prog G ent52) (h53 : TEnt.Ok Tryz.prog G ent53) : TEnt.Ok Tryz.prog G ent31 :=
  ent_ok hG mixedF (fn := Tryz.f31) (d := dc31) (crs := [(.tmp 2)]) (hint := []) (TT := [ent27, ent52, ent53]) (SH := SHF) rfl rfl (by kernel_rfl) (splitsNil (by kernel_rfl)) (by decide) rfl ⟨h27, h52, h53, trivial⟩ eq31
include hG in
theorem ok33 (h32 : TEnt.Ok Tryz.prog G ent32) (h54 : TEnt.Ok Tryz.prog G ent54) (h55 : TEnt.Ok Tryz.prog G ent55) : TEnt.Ok Tryz.prog G ent33 :=
  ent_ok hG mixedF (fn := Tryz.f33) (d := dc33) (crs := [(.tmp 2)]) (hint := []) (TT := [ent32, ent54, ent55]) (SH := SHF) rfl rfl (by kernel_rfl) (splitsNil (by kernel_rfl)) (by decide) rfl ⟨h32, h54, h55, trivial⟩ eq33
include hG in
theorem ok29 (h49 : TEnt.Ok Tryz.prog G entTrim) (h50 : TEnt.Ok Tryz.prog G entSplit) : TEnt.Ok Tryz.prog G ent29 :=
  ent_ok hG mixedF (fn := Tryz.f29) (d := dc29) (crs := [(.tmp 2)]) (hint := []) (TT := [entTrim, entSplit]) (SH := SHF) rfl rfl (by kernel_rfl) (splitsNil (by kernel_rfl)) (by decide) rfl ⟨h49, h50, trivial⟩ eq29
include hG in
theorem ok13 (h29 : TEnt.Ok Tryz.prog G ent29) : TEnt.Ok Tryz.prog G ent13 :=
  ent_ok hG mixedF (fn := Tryz.f13) (d := dc13) (crs := [(.tmp 2)]) (hint := []) (TT := [ent29]) (SH := SHF) rfl rfl (by kernel_rfl) (splitsNil (by kernel_rfl)) (by decide) rfl ⟨h29, trivial⟩ eq13
include hG in
theorem ok15 (h27 : TEnt.Ok Tryz.prog G ent27) (h31 : TEnt.Ok Tryz.prog G ent31) : TEnt.Ok Tryz.prog G ent15 :=
  ent_ok hG mixedF (fn := Tryz.f15) (d := dc15) (crs := [(.tmp 2)]) (hint := []) (TT := [ent27, ent31]) (SH := SHF) rfl rfl (by kernel_rfl) (splitsNil (by kernel_rfl)) (by decide) rfl ⟨h27, h31, trivial⟩ eq15
include hG in
theorem ok17 (h13 : TEnt.Ok Tryz.prog G ent13) (h27 : TEnt.Ok Tryz.prog G ent27) (h34 : TEnt.Ok Tryz.prog G entWriteString) (h35 : TEnt.Ok Tryz.prog G entString) : TEnt.Ok Tryz.prog G ent17 :=
  ent_ok hG mixedF (fn := Tryz.f17) (d := dc17) (crs := [(.tmp 2), (.tmp 3)]) (hint := []) (TT := [ent13, ent27, entWriteString, entString]) (SH := SHF) rfl rfl (by kernel_rfl) (splitsNil (by kernel_rfl)) (by decide) rfl ⟨h13, h27, h34, h35, trivial⟩ eq17
include hG in
theorem ok22 (h13 : TEnt.Ok Tryz.prog G ent13) (h15 : TEnt.Ok Tryz.prog G ent15) (h34 : TEnt.Ok Tryz.prog G entWriteString) (h35 : TEnt.Ok Tryz.prog G entString) (h40 : TEnt.Ok Tryz.prog G entItoa) : TEnt.Ok Tryz.prog G ent22 :=
  ent_ok hG mixedF (fn := Tryz.f22) (d := dc22) (crs := [(.tmp 2), (.tmp 3)]) (hint := []) (TT := [ent13, ent15, entWriteString, entString, entItoa]) (SH := SHF) rfl rfl (by kernel_rfl) (splitsNil (by kernel_rfl)) (by decide) rfl ⟨h13, h15, h34, h35, h40, trivial⟩ eq22
include hG in
theorem ok44 (h40 : TEnt.Ok Tryz.prog G entItoa) (h62 : TEnt.Ok Tryz.prog G entAtoi) : TEnt.Ok Tryz.prog G ent44 :=
  ent_ok hG mixedF (fn := Tryz.f44) (d := dc44) (crs := [(.tmp 4), (.tmp 5)]) (hint := []) (TT := [entItoa, entAtoi]) (SH := SHF) rfl rfl (by kernel_rfl) (splitsNil (by kernel_rfl)) (by decide) rfl ⟨h40, h62, trivial⟩ eq44
include hG in
theorem ok24 (h13 : TEnt.Ok Tryz.prog G ent13) (h15 : TEnt.Ok Tryz.prog G ent15) (h42 : TEnt.Ok Tryz.prog G entCutP) (h43 : TEnt.Ok Tryz.prog G entCut) (h44 : TEnt.Ok Tryz.prog G ent44) : TEnt.Ok Tryz.prog G ent24 :=
  ent_ok hG mixedF (fn := Tryz.f24) (d := dc24) (crs := [(.tmp 2), (.tmp 3)]) (hint := [(17, 5000010), (24, 10)]) (TT := [ent13, ent15, entCutP, entCut, ent44]) (SH := SHF) rfl rfl (by kernel_rfl) (splitsOne (a := dc24a) (b := dc24b) (by kernel_rfl) (by kernel_rfl)) (by decide) rfl ⟨h13, h15, h42, h43, h44, trivial⟩ eq24
include hG in
theorem ok51 : TEnt.Ok Tryz.prog G ent51 :=
  ent_ok hG mixedF (fn := Tryz.f51) (d := dc51) (crs := [(.tmp 2)]) (hint := []) (TT := []) (SH := SHF) rfl rfl (by kernel_rfl) (splitsNil (by kernel_rfl)) (by decide) rfl trivial eq51
include hG in
theorem ok30 (h51 : TEnt.Ok Tryz.prog G ent51) : TEnt.Ok Tryz.prog G ent30 :=
  ent_ok hG mixedF (fn := Tryz.f30) (d := dc30) (crs := [(.tmp 2)]) (hint := []) (TT := [ent51]) (SH := SHF) rfl rfl (by kernel_rfl) (splitsNil (by kernel_rfl)) (by decide) rfl ⟨h51, trivial⟩ eq30
include hG in
theorem ok14 (h30 : TEnt.Ok Tryz.prog G ent30) : TEnt.Ok Tryz.prog G ent14 :=
  ent_ok hG mixedF (fn := Tryz.f14) (d := dc14) (crs := [(.tmp 2)]) (hint := []) (TT := [ent30]) (SH := SHF) rfl rfl (by kernel_rfl) (splitsNil (by kernel_rfl)) (by decide) rfl ⟨h30, trivial⟩ eq14
include hG in
theorem ok16 (h32 : TEnt.Ok Tryz.prog G ent32) (h33 : TEnt.Ok Tryz.prog G ent33) : TEnt.Ok Tryz.prog G ent16 :=
  ent_ok hG mixedF (fn := Tryz.f16) (d := dc16) (crs := [(.tmp 2)]) (hint := []) (TT := [ent32, ent33]) (SH := SHF) rfl rfl (by kernel_rfl) (splitsNil (by kernel_rfl)) (by decide) rfl ⟨h32, h33, trivial⟩ eq16
include hG in
theorem ok18 (h14 : TEnt.Ok Tryz.prog G ent14) (h32 : TEnt.Ok Tryz.prog G ent32) : TEnt.Ok Tryz.prog G ent18 :=
  ent_ok hG mixedF (fn := Tryz.f18) (d := dc18) (crs := [(.tmp 2), (.tmp 3)]) (hint := []) (TT := [ent14, ent32]) (SH := SHF) rfl rfl (by kernel_rfl) (splitsNil (by kernel_rfl)) (by decide) rfl ⟨h14, h32, trivial⟩ eq18
include hG in
theorem ok41 : TEnt.Ok Tryz.prog G ent41 :=
  ent_ok hG mixedF (fn := Tryz.f41) (d := dc41) (crs := [(.tmp 2)]) (hint := []) (TT := []) (SH := SHF) rfl rfl (by kernel_rfl) (splitsNil (by kernel_rfl)) (by decide) rfl trivial eq41
include hG in
theorem ok23 (h14 : TEnt.Ok Tryz.prog G ent14) (h16 : TEnt.Ok Tryz.prog G ent16) (h41 : TEnt.Ok Tryz.prog G ent41) : TEnt.Ok Tryz.prog G ent23 :=
  ent_ok hG mixedF (fn := Tryz.f23) (d := dc23) (crs := [(.tmp 2), (.tmp 3)]) (hint := []) (TT := [ent14, ent16, ent41]) (SH := SHF) rfl rfl (by kernel_rfl) (splitsNil (by kernel_rfl)) (by decide) rfl ⟨h14, h16, h41, trivial⟩ eq23
include hG in
theorem ok45 : TEnt.Ok Tryz.prog G ent45 :=
  ent_ok hG mixedF (fn := Tryz.f45) (d := dc45) (crs := [(.tmp 4), (.tmp 5), (.tmp 6)]) (hint := []) (TT := []) (SH := SHF) rfl rfl (by kernel_rfl) (splitsNil (by kernel_rfl)) (by decide) rfl trivial eq45
include hG in
theorem ok46 : TEnt.Ok Tryz.prog G ent46 :=
  ent_ok hG mixedF (fn := Tryz.f46) (d := dc46) (crs := [(.tmp 2), (.tmp 3)]) (hint := []) (TT := []) (SH := SHF) rfl rfl (by kernel_rfl) (splitsNil (by kernel_rfl)) (by decide) rfl trivial eq46
include hG in
theorem ok47 (h46 : TEnt.Ok Tryz.prog G ent46) : TEnt.Ok Tryz.prog G ent47 :=
  ent_ok hG mixedF (fn := Tryz.f47) (d := dc47) (crs := [(.tmp 2), (.tmp 3), (.tmp 4)]) (hint := []) (TT := [ent46]) (SH := SHF) rfl rfl (by kernel_rfl) (splitsNil (by kernel_rfl)) (by decide) rfl ⟨h46, trivial⟩ eq47
include hG in
theorem ok25 (h14 : TEnt.Ok Tryz.prog G ent14) (h16 : TEnt.Ok Tryz.prog G ent16) (h45 : TEnt.Ok Tryz.prog G ent45) (h46 : TEnt.Ok Tryz.prog G ent46) (h47 : TEnt.Ok Tryz.prog G ent47) : TEnt.Ok Tryz.prog G ent25 :=
  ent_ok hG mixedF (fn := Tryz.f25) (d := dc25) (crs := [(.tmp 2), (.tmp 3)]) (hint := []) (TT := [ent14, ent16, ent45, ent46, ent47]) (SH := SHF) rfl rfl (by kernel_rfl) (splitsNil (by kernel_rfl)) (by decide) rfl ⟨h14, h16, h45, h46, h47, trivial⟩ eq25
include hG in
theorem ok26 : TEnt.Ok Tryz.prog G ent26 :=
  ent_ok hG mixedF (fn := Tryz.f26) (d := dc26) (crs := [(.tmp 4)]) (hint := []) (TT := []) (SH := SHF) rfl rfl (by kernel_rfl) (splitsNil (by kernel_rfl)) (by decide) rfl trivial eq26
include hG in
theorem ok11 : TEnt.Ok Tryz.prog G ent11 :=
  ent_ok hG mixedF (fn := Tryz.f11) (d := dc11) (crs := [(.tmp 2)]) (hint := []) (TT := []) (SH := SHF) rfl rfl (by kernel_rfl) (splitsNil (by kernel_rfl)) (by decide) rfl trivial eq11
include hG in
theorem ok37 (h30 : TEnt.Ok Tryz.prog G ent30) (h45 : TEnt.Ok Tryz.prog G ent45) (h58 : TEnt.Ok Tryz.prog G ent58) : TEnt.Ok Tryz.prog G ent37 :=
  ent_ok hG mixedF (fn := Tryz.f37) (d := dc37) (crs := [(.tmp 2), (.tmp 3)]) (hint := []) (TT := [ent30, ent45, ent58]) (SH := SHF) rfl rfl (by kernel_rfl) (splitsNil (by kernel_rfl)) (by decide) rfl ⟨h30, h45, h58, trivial⟩ eq37
include hG in
theorem ok38 (h32 : TEnt.Ok Tryz.prog G ent32) : TEnt.Ok Tryz.prog G ent38 :=
  ent_ok hG mixedF (fn := Tryz.f38) (d := dc38) (crs := [(.tmp 4)]) (hint := []) (TT := [ent32]) (SH := SHF) rfl rfl (by kernel_rfl) (splitsNil (by kernel_rfl)) (by decide) rfl ⟨h32, trivial⟩ eq38
include hG in
theorem ok39 : TEnt.Ok Tryz.prog G ent39 :=
  ent_ok hG mixedF (fn := Tryz.f39) (d := dc39) (crs := [(.tmp 4)]) (hint := []) (TT := []) (SH := SHF) rfl rfl (by kernel_rfl) (splitsNil (by kernel_rfl)) (by decide) rfl trivial eq39
include hG in
theorem ok21 (h37 : TEnt.Ok Tryz.prog G ent37) (h38 : TEnt.Ok Tryz.prog G ent38) (h39 : TEnt.Ok Tryz.prog G ent39) : TEnt.Ok Tryz.prog G ent21 :=
  ent_ok hG mixedF (fn := Tryz.f21) (d := dc21) (crs := [(.tmp 4)]) (hint := []) (TT := [ent37, ent38, ent39]) (SH := SHF) rfl rfl (by kernel_rfl) (splitsNil (by kernel_rfl)) (by decide) rfl ⟨h37, h38, h39, trivial⟩ eq21
include hG in
theorem ok19 : TEnt.Ok Tryz.prog G ent19 :=
  ent_ok hG mixedF (fn := Tryz.f19) (d := dc19) (crs := [(.tmp 4)]) (hint := []) (TT := []) (SH := SHF) rfl rfl (by kernel_rfl) (splitsNil (by kernel_rfl)) (by decide) rfl trivial eq19
include hG in
theorem ok28 : TEnt.Ok Tryz.prog G ent28 :=
  ent_ok hG mixedF (fn := Tryz.f28) (d := dc28) (crs := [(.tmp 0)]) (hint := []) (TT := []) (SH := SHF) rfl rfl (by kernel_rfl) (splitsNil (by kernel_rfl)) (by decide) rfl trivial eq28
include hG in
theorem ok12 (h13 : TEnt.Ok Tryz.prog G ent13) (h15 : TEnt.Ok Tryz.prog G ent15) (h17 : TEnt.Ok Tryz.prog G ent17) (h19 : TEnt.Ok Tryz.prog G ent19) (h20 : TEnt.Ok Tryz.prog G entVerify) (h22 : TEnt.Ok Tryz.prog G ent22) (h24 : TEnt.Ok Tryz.prog G ent24) (h26 : TEnt.Ok Tryz.prog G ent26) (h28 : TEnt.Ok Tryz.prog G ent28) : TEnt.Ok Tryz.prog G ent12 :=
  ent_ok hG mixedF (fn := Tryz.f12) (d := dc12) (crs := [(.tmp 0)]) (hint := []) (TT := [ent13, ent15, ent17, ent19, entVerify, ent22, ent24, ent26, ent28]) (SH := SHF) rfl rfl (by kernel_rfl) (splitsNil (by kernel_rfl)) (by decide) rfl ⟨h13, h15, h17, h19, h20, h22, h24, h26, h28, trivial⟩ eq12
include hG in
theorem ok3 (h11 : TEnt.Ok Tryz.prog G ent11) (h12 : TEnt.Ok Tryz.prog G ent12) (h13 : TEnt.Ok Tryz.prog G ent13) (h14 : TEnt.Ok Tryz.prog G ent14) (h15 : TEnt.Ok Tryz.prog G ent15) (h16 : TEnt.Ok Tryz.prog G ent16) : TEnt.Ok Tryz.prog G ent3 :=
  ent_ok hG mixedF (fn := Tryz.f3) (d := dc3) (crs := [(.tmp 2)]) (hint := []) (TT := [ent11, ent12, ent13, ent14, ent15, ent16]) (SH := SHF) rfl rfl (by kernel_rfl) (splitsNil (by kernel_rfl)) (by decide) rfl ⟨h11, h12, h13, h14, h15, h16, trivial⟩ eq3
include hG in
theorem ok4 (h11 : TEnt.Ok Tryz.prog G ent11) (h12 : TEnt.Ok Tryz.prog G ent12) (h17 : TEnt.Ok Tryz.prog G ent17) (h18 : TEnt.Ok Tryz.prog G ent18) : TEnt.Ok Tryz.prog G ent4 :=
  ent_ok hG mixedF (fn := Tryz.f4) (d := dc4) (crs := [(.tmp 2)]) (hint := []) (TT := [ent11, ent12, ent17, ent18]) (SH := SHF) rfl rfl (by kernel_rfl) (splitsNil (by kernel_rfl)) (by decide) rfl ⟨h11, h12, h17, h18, trivial⟩ eq4
include hG in
theorem ok5 (h11 : TEnt.Ok Tryz.prog G ent11) (h12 : TEnt.Ok Tryz.prog G ent12) (h19 : TEnt.Ok Tryz.prog G ent19) (h20 : TEnt.Ok Tryz.prog G entVerify) (h21 : TEnt.Ok Tryz.prog G ent21) : TEnt.Ok Tryz.prog G ent5 :=
  ent_ok hG mixedF (fn := Tryz.f5) (d := dc5) (crs := [(.tmp 4)]) (hint := []) (TT := [ent11, ent12, ent19, entVerify, ent21]) (SH := SHF) rfl rfl (by kernel_rfl) (splitsNil (by kernel_rfl)) (by decide) rfl ⟨h11, h12, h19, h20, h21, trivial⟩ eq5
include hG in
theorem ok6 (h11 : TEnt.Ok Tryz.prog G ent11) (h12 : TEnt.Ok Tryz.prog G ent12) (h22 : TEnt.Ok Tryz.prog G ent22) (h23 : TEnt.Ok Tryz.prog G ent23) : TEnt.Ok Tryz.prog G ent6 :=
  ent_ok hG mixedF (fn := Tryz.f6) (d := dc6) (crs := [(.tmp 2)]) (hint := []) (TT := [ent11, ent12, ent22, ent23]) (SH := SHF) rfl rfl (by kernel_rfl) (splitsNil (by kernel_rfl)) (by decide) rfl ⟨h11, h12, h22, h23, trivial⟩ eq6
include hG in
theorem ok7 (h12 : TEnt.Ok Tryz.prog G ent12) (h24 : TEnt.Ok Tryz.prog G ent24) (h25 : TEnt.Ok Tryz.prog G ent25) (h26 : TEnt.Ok Tryz.prog G ent26) : TEnt.Ok Tryz.prog G ent7 :=
  ent_ok hG mixedF (fn := Tryz.f7) (d := dc7) (crs := [(.tmp 2)]) (hint := []) (TT := [ent12, ent24, ent25, ent26]) (SH := SHF) rfl rfl (by kernel_rfl) (splitsNil (by kernel_rfl)) (by decide) rfl ⟨h12, h24, h25, h26, trivial⟩ eq7
include hG in
theorem ok8 (h11 : TEnt.Ok Tryz.prog G ent11) (h12 : TEnt.Ok Tryz.prog G ent12) (h22 : TEnt.Ok Tryz.prog G ent22) (h24 : TEnt.Ok Tryz.prog G ent24) (h26 : TEnt.Ok Tryz.prog G ent26) : TEnt.Ok Tryz.prog G ent8 :=
  ent_ok hG mixedF (fn := Tryz.f8) (d := dc8) (crs := [(.tmp 4)]) (hint := []) (TT := [ent11, ent12, ent22, ent24, ent26]) (SH := SHF) rfl rfl (by kernel_rfl) (splitsNil (by kernel_rfl)) (by decide) rfl ⟨h11, h12, h22, h24, h26, trivial⟩ eq8
include hG in
theorem ok9 (h11 : TEnt.Ok Tryz.prog G ent11) (h12 : TEnt.Ok Tryz.prog G ent12) (h13 : TEnt.Ok Tryz.prog G ent13) (h17 : TEnt.Ok Tryz.prog G ent17) (h19 : TEnt.Ok Tryz.prog G ent19) (h20 : TEnt.Ok Tryz.prog G entVerify) (h27 : TEnt.Ok Tryz.prog G ent27) : TEnt.Ok Tryz.prog G ent9 :=
  ent_ok hG mixedF (fn := Tryz.f9) (d := dc9) (crs := [(.tmp 6)]) (hint := [(30000000, 40000046), (30000000, 40000048), (9, 48)]) (TT := [ent11, ent12, ent13, ent17, ent19, entVerify, ent27]) (SH := SHF) rfl rfl (by kernel_rfl) (splitsNil (by kernel_rfl)) (by decide) rfl ⟨h11, h12, h13, h17, h19, h20, h27, trivial⟩ eq9
include hG in
theorem ok10 (h11 : TEnt.Ok Tryz.prog G ent11) (h12 : TEnt.Ok Tryz.prog G ent12) (h15 : TEnt.Ok Tryz.prog G ent15) (h22 : TEnt.Ok Tryz.prog G ent22) (h24 : TEnt.Ok Tryz.prog G ent24) : TEnt.Ok Tryz.prog G ent10 :=
  ent_ok hG mixedF (fn := Tryz.f10) (d := dc10) (crs := [(.tmp 6)]) (hint := [(30000000, 40000029), (30000000, 40000031), (21, 31)]) (TT := [ent11, ent12, ent15, ent22, ent24]) (SH := SHF) rfl rfl (by kernel_rfl) (splitsNil (by kernel_rfl)) (by decide) rfl ⟨h11, h12, h15, h22, h24, trivial⟩ eq10
end
end Go.Proofs.YthpgkpcnajookaaGreatDoor
