/-
  THE FUNCTIONS AS PLAIN ONES (printed by a program of ours), and that they are what the code's runs give.
-/
import Derived.Test.YtnhjoplleldbfaaDoorH
namespace Go.Proofs.YtnhjoplleldbfaaDoor
open Go Go.Nu
set_option maxRecDepth 100000
set_option linter.unusedVariables false
def SHS : List (TypeId × Sh) := [(5, .byte), (9, .str), (24, (.agg 24 (.pair (.int .i64) (.pair (.int .i64) (.pair (.int .i64) (.pair .str (.sl 49 (.agg 49 (.pair .str (.pair .str (.pair (.sl 46 (.agg 46 (.pair .byte .str))) (.int .i64)))))))))))), (46, (.agg 46 (.pair .byte .str))), (49, (.agg 49 (.pair .str (.pair .str (.pair (.sl 46 (.agg 46 (.pair .byte .str))) (.int .i64)))))), (78, (.arr 78 .bool)), (79, (.arr 79 .bool)), (106, (.arr 106 .byte)), (119, (.arr 119 (.int .u64))), (120, (.arr 120 .byte)), (124, (.arr 124 .byte)), (127, (.arr 127 (.agg 126 (.pair .byte .byte)))), (131, (.arr 131 .byte)), (132, (.arr 132 .byte))]
/-- library/exchange.Import -/
noncomputable def F18 (a0 : List UInt8) : Option ((List (Int × Int × Int × List UInt8 × List (List UInt8 × List UInt8 × (List (UInt8 × List UInt8)) × Int))) × Int × Int) :=
  jn (σ := Unit) (fun nextj1 =>
    nextj1 ()) fun j1 =>
  bindO (F11 a0) fun y2 =>
  cond (!decide (y2.2 = (0 : Int)))
    (some (([] : List (Int × Int × Int × List UInt8 × List (List UInt8 × List UInt8 × (List (UInt8 × List UInt8)) × Int))), (-1 : Int), y2.2))
    (cond (decide ((64 : Int) < (List.length y2.1 : Int)))
      (some (([] : List (Int × Int × Int × List UInt8 × List (List UInt8 × List UInt8 × (List (UInt8 × List UInt8)) × Int))), (-1 : Int), (13 : Int)))
      (gdN (List.length ([] : List (Int × Int × Int × List UInt8 × List (List UInt8 × List UInt8 × (List (UInt8 × List UInt8)) × Int)))) (List.length ([] : List (Int × Int × Int × List UInt8 × List (List UInt8 × List UInt8 × (List (UInt8 × List UInt8)) × Int)))) <|
      loopK (σ := (List (Int × Int × Int × List UInt8 × List (List UInt8 × List UInt8 × (List (UInt8 × List UInt8)) × Int))) × Int) (fun p3 againp3 =>
        cond (decide (p3.2 < (List.length y2.1 : Int)))
          (gd (0 ≤ p3.2 ∧ p3.2 < (List.length y2.1 : Int)) <|
          bindO (F13 (List.getD y2.1 (Int.toNat p3.2) [])) fun y4 =>
          cond (!decide (y4.2 = (0 : Int)))
            (some (([] : List (Int × Int × Int × List UInt8 × List (List UInt8 × List UInt8 × (List (UInt8 × List UInt8)) × Int))), p3.2, y4.2))
            (gdN (List.length p3.1) (List.length p3.1) <|
            gd (List.length p3.1 + List.length [y4.1] ≤ big) <|
            bnd (p3.1 ++ [y4.1]) fun l5 =>
            bnd (IntKind.wrap .i64 (p3.2 + (1 : Int))) fun x6 =>
            gdN (List.length l5) (List.length l5) <|
            againp3 (l5, x6)))
          (some (p3.1, (-1 : Int), (0 : Int)))) (([] : List (Int × Int × Int × List UInt8 × List (List UInt8 × List UInt8 × (List (UInt8 × List UInt8)) × Int))), (0 : Int))))
def dc18 : DC :=
  (.jn ⟨[], [], [2, 3, 4].map .s ++ [2].map .f⟩ (.reg [⟨none, (.nl 2 24)⟩,
    ⟨none, (.mv (some 3) (.v (.int .i64 0)))⟩,
    ⟨none, (.mv (some 4) (.v (.int .i64 0)))⟩])
  (.seq (.reg [⟨none, (.mv (some 13) (.t 0))⟩,
    ⟨none, (.ca (some 14) 11 [(.t 13)])⟩,
    ⟨none, (.mv (some 12) (.t 14))⟩,
    ⟨none, (.ex 15 0 (.t 12))⟩,
    ⟨none, (.ex 16 1 (.t 12))⟩,
    ⟨none, (.mv (some 5) (.t 15))⟩,
    ⟨none, (.mv (some 6) (.t 16))⟩])
  (.seq (.seq (.reg [⟨none, (.mv (some 17) (.t 6))⟩,
    ⟨none, (.ar 18 .neq (.t 17) (.v (.int .i64 0)))⟩])
  (.cond (.t 18)
    (.seq (.reg [⟨none, (.mv (some 19) (.t 6))⟩,
    ⟨none, (.nl 2 24)⟩,
    ⟨none, (.mv (some 3) (.v (.int .i64 (-1))))⟩,
    ⟨none, (.mv (some 4) (.t 19))⟩])
  .ret)
    .skip))
  (.seq (.seq (.reg [⟨none, (.mv (some 20) (.t 5))⟩,
    ⟨none, (.ln 21 (some 9) (.t 20))⟩,
    ⟨none, (.ar 22 .gtr (.t 21) (.v (.int .i64 64)))⟩])
  (.cond (.t 22)
    (.seq (.reg [⟨none, (.nl 2 24)⟩,
    ⟨none, (.mv (some 3) (.v (.int .i64 (-1))))⟩,
    ⟨none, (.mv (some 4) (.v (.int .i64 13)))⟩])
  .ret)
    .skip))
  (.seq (.reg [⟨none, (.nl 7 24)⟩])
  (.seq (.seq (.reg [⟨none, (.mv (some 23) (.t 5))⟩,
    ⟨none, (.ln 24 (some 9) (.t 23))⟩,
    ⟨none, (.mv (some 25) (.v (.int .i64 0)))⟩])
  (.block 0 (.loop ⟨[(7, (.row 7 24 (.agg 24 (.pair (.int .i64) (.pair (.int .i64) (.pair (.int .i64) (.pair .str (.sl 49 (.agg 49 (.pair .str (.pair .str (.pair (.sl 46 (.agg 46 (.pair .byte .str))) (.int .i64))))))))))))), (25, (.lf (.int .i64)))], [], [2, 3, 4, 8, 9, 10, 11, 26, 27, 28, 29, 30, 31, 32, 33, 34, 35, 36, 37, 38, 39, 40, 41, 42, 43].map .s ++ [10].map .b ++ [2, 41].map .f⟩ (.seq (.reg [⟨none, (.ar 26 .lss (.t 25) (.t 24))⟩])
  (.seq (.cond (.t 26)
    .skip
    (.exit 0))
  (.seq (.block 1 (.seq (.reg [⟨none, (.mv (some 27) (.t 25))⟩,
    ⟨none, (.ea 28 9 (.t 23) (.t 25))⟩,
    ⟨none, (.ld 29 none (.t 28))⟩,
    ⟨none, (.mv (some 8) (.t 27))⟩,
    ⟨none, (.mv (some 9) (.t 29))⟩])
  (.seq (.reg [⟨none, (.mv (some 31) (.t 9))⟩,
    ⟨none, (.ca (some 32) 13 [(.t 31)])⟩,
    ⟨none, (.mv (some 30) (.t 32))⟩,
    ⟨none, (.ex 33 0 (.t 30))⟩,
    ⟨none, (.ex 34 1 (.t 30))⟩,
    ⟨none, (.al 10 (.agg 24 [(.int .i64 0), (.int .i64 0), (.int .i64 0), (.str []), (.sl none 49 [])]))⟩,
    ⟨none, (.st (some 24) (.t 10) (.t 33))⟩,
    ⟨none, (.mv (some 11) (.t 34))⟩])
  (.seq (.seq (.reg [⟨none, (.mv (some 35) (.t 11))⟩,
    ⟨none, (.ar 36 .neq (.t 35) (.v (.int .i64 0)))⟩])
  (.cond (.t 36)
    (.seq (.reg [⟨none, (.mv (some 37) (.t 8))⟩,
    ⟨none, (.mv (some 38) (.t 11))⟩,
    ⟨none, (.nl 2 24)⟩,
    ⟨none, (.mv (some 3) (.t 37))⟩,
    ⟨none, (.mv (some 4) (.t 38))⟩])
  .ret)
    .skip))
  (.reg [⟨none, (.mv (some 39) (.t 7))⟩,
    ⟨none, (.ld 40 (some 24) (.t 10))⟩,
    ⟨none, (.bs 41 24 (some 24) [(.t 40)])⟩,
    ⟨none, (.ap 42 24 (.t 39) (.t 41))⟩,
    ⟨none, (.mv (some 7) (.t 42))⟩])))))
  (.reg [⟨none, (.ar 43 .add (.t 25) (.v (.int .i64 1)))⟩,
    ⟨none, (.mv (some 25) (.t 43))⟩])))))))
  (.seq (.reg [⟨none, (.mv (some 44) (.t 7))⟩,
    ⟨none, (.mv (some 2) (.t 44))⟩,
    ⟨none, (.mv (some 3) (.v (.int .i64 (-1))))⟩,
    ⟨none, (.mv (some 4) (.v (.int .i64 0)))⟩])
  .ret)))))))
noncomputable def ent18 : TEnt := ⟨18, [.str], (.tup (.pair (.sl 24 (.agg 24 (.pair (.int .i64) (.pair (.int .i64) (.pair (.int .i64) (.pair .str (.sl 49 (.agg 49 (.pair .str (.pair .str (.pair (.sl 46 (.agg 46 (.pair .byte .str))) (.int .i64)))))))))))) (.pair (.int .i64) (.int .i64)))), fun x => F18 x, .plain⟩
theorem eq18 (x : dens ent18.as) : ent18.F x = evF [ent11, ent13] SHS dc18 [(.tmp 2), (.tmp 3), (.tmp 4)] ent18.as ent18.rs x := by kernel_rfl
/-- library/librarylaw10.alive -/
noncomputable def F7 : Option (Bool) :=
  gd ((0 : Int) ≤ (97 : Int) ∧ (97 : Int) < (256 : Int)) <|
  bindO (F9 ((7 : Int), (3 : Int), (1 : Int), ([101, 110, 103] : List UInt8), [(([50, 52, 53] : List UInt8), ([49, 48] : List UInt8), [((UInt8.ofNat (Int.toNat (97 : Int))), ([68, 111, 103, 115] : List UInt8))], (0 : Int))])) fun y1 =>
  cond (!decide (y1.2 = (0 : Int)))
    (some false)
    (cond (!decide (y1.1 = ([48, 48, 48, 53, 49, 110, 98, 51, 101, 110, 103, 48, 48, 48, 51, 55, 48, 48, 48, 55, 52, 53, 48, 48, 50, 52, 53, 48, 48, 49, 51, 48, 48, 48, 48, 48, 30, 49, 48, 48, 48, 48, 48, 31, 97, 68, 111, 103, 115, 30, 29] : List UInt8)))
      (some false)
      (bindO (F9 ((0 : Int), (3 : Int), (1 : Int), ([101, 110, 103] : List UInt8), ([] : List (List UInt8 × List UInt8 × (List (UInt8 × List UInt8)) × Int)))) fun y2 =>
      cond (!decide (y2.2 = (0 : Int)))
        (some false)
        (cond (!decide ((List.length y2.1 : Int) = (26 : Int)))
          (some false)
          (bindO (F18 ([] : List UInt8)) fun y3 =>
          bindO (F11 ([48, 48, 48, 50, 53] : List UInt8)) fun y4 =>
          cond (decide ((List.length y3.1 : Int) = (0 : Int)))
            (cond (decide (y3.2.1 = (-1 : Int)))
              (cond (decide (y3.2.2 = (0 : Int)))
                (some (decide (y4.2 = (3 : Int))))
                (some false))
              (some false))
            (some false)))))
def dc7 : DC :=
  (.seq (.reg [⟨none, (.mv (some 0) (.v (.bool false)))⟩])
  (.seq (.reg [⟨none, (.bd 9 46 [(.int .u8 0), (.str [])] [0, 1] [(.v (.int .u8 97)), (.v (.str [68, 111, 103, 115]))])⟩,
    ⟨none, (.bs 10 46 (some 46) [(.t 9)])⟩,
    ⟨none, (.bd 11 49 [(.str []), (.str []), (.sl none 46 []), (.int .i64 0)] [0, 1, 2] [(.v (.str [50, 52, 53])), (.v (.str [49, 48])), (.t 10)])⟩,
    ⟨none, (.bs 12 49 (some 49) [(.t 11)])⟩,
    ⟨none, (.bd 13 24 [(.int .i64 0), (.int .i64 0), (.int .i64 0), (.str []), (.sl none 49 [])] [0, 1, 2, 3, 4] [(.v (.int .i64 7)), (.v (.int .i64 3)), (.v (.int .i64 1)), (.v (.str [101, 110, 103])), (.t 12)])⟩,
    ⟨none, (.al 1 (.agg 24 [(.int .i64 0), (.int .i64 0), (.int .i64 0), (.str []), (.sl none 49 [])]))⟩,
    ⟨none, (.st (some 24) (.t 1) (.t 13))⟩])
  (.seq (.reg [⟨none, (.ld 15 (some 24) (.t 1))⟩,
    ⟨none, (.ca (some 16) 9 [(.t 15)])⟩,
    ⟨none, (.mv (some 14) (.t 16))⟩,
    ⟨none, (.ex 17 0 (.t 14))⟩,
    ⟨none, (.ex 18 1 (.t 14))⟩,
    ⟨none, (.mv (some 2) (.t 17))⟩,
    ⟨none, (.mv (some 3) (.t 18))⟩])
  (.seq (.seq (.reg [⟨none, (.mv (some 19) (.t 3))⟩,
    ⟨none, (.ar 20 .neq (.t 19) (.v (.int .i64 0)))⟩,
    ⟨none, (.mv (some 21) (.t 20))⟩,
    ⟨(some (21, false)), (.mv (some 22) (.t 2))⟩,
    ⟨(some (21, false)), (.ar 23 .neq (.t 22) (.v (.str [48, 48, 48, 53, 49, 110, 98, 51, 101, 110, 103, 48, 48, 48, 51, 55, 48, 48, 48, 55, 52, 53, 48, 48, 50, 52, 53, 48, 48, 49, 51, 48, 48, 48, 48, 48, 30, 49, 48, 48, 48, 48, 48, 31, 97, 68, 111, 103, 115, 30, 29])))⟩,
    ⟨none, (.pick 24 (.t 21) (.v (.bool true)) (.t 23))⟩])
  (.cond (.t 24)
    (.seq (.reg [⟨none, (.mv (some 0) (.v (.bool false)))⟩])
  .ret)
    .skip))
  (.seq (.reg [⟨none, (.fa 25 24 0 (.t 1))⟩,
    ⟨none, (.st none (.t 25) (.v (.int .i64 0)))⟩])
  (.seq (.reg [⟨none, (.fa 26 24 4 (.t 1))⟩,
    ⟨none, (.st none (.t 26) (.v (.sl none 49 [])))⟩])
  (.seq (.reg [⟨none, (.ld 28 (some 24) (.t 1))⟩,
    ⟨none, (.ca (some 29) 9 [(.t 28)])⟩,
    ⟨none, (.mv (some 27) (.t 29))⟩,
    ⟨none, (.ex 30 0 (.t 27))⟩,
    ⟨none, (.ex 31 1 (.t 27))⟩,
    ⟨none, (.mv (some 4) (.t 30))⟩,
    ⟨none, (.mv (some 3) (.t 31))⟩])
  (.seq (.seq (.reg [⟨none, (.mv (some 32) (.t 3))⟩,
    ⟨none, (.ar 33 .neq (.t 32) (.v (.int .i64 0)))⟩,
    ⟨none, (.mv (some 34) (.t 33))⟩,
    ⟨(some (34, false)), (.mv (some 35) (.t 4))⟩,
    ⟨(some (34, false)), (.ln 36 none (.t 35))⟩,
    ⟨(some (34, false)), (.ar 37 .neq (.t 36) (.v (.int .i64 26)))⟩,
    ⟨none, (.pick 38 (.t 34) (.v (.bool true)) (.t 37))⟩])
  (.cond (.t 38)
    (.seq (.reg [⟨none, (.mv (some 0) (.v (.bool false)))⟩])
  .ret)
    .skip))
  (.seq (.reg [⟨none, (.ca (some 40) 18 [(.v (.str []))])⟩,
    ⟨none, (.mv (some 39) (.t 40))⟩,
    ⟨none, (.ex 41 0 (.t 39))⟩,
    ⟨none, (.ex 42 1 (.t 39))⟩,
    ⟨none, (.ex 43 2 (.t 39))⟩,
    ⟨none, (.mv (some 5) (.t 41))⟩,
    ⟨none, (.mv (some 6) (.t 42))⟩,
    ⟨none, (.mv (some 3) (.t 43))⟩])
  (.seq (.reg [⟨none, (.ca (some 45) 11 [(.v (.str [48, 48, 48, 50, 53]))])⟩,
    ⟨none, (.mv (some 44) (.t 45))⟩,
    ⟨none, (.ex 46 0 (.t 44))⟩,
    ⟨none, (.ex 47 1 (.t 44))⟩,
    ⟨none, (.mv (some 7) (.t 46))⟩,
    ⟨none, (.mv (some 8) (.t 47))⟩])
  (.seq (.reg [⟨none, (.mv (some 48) (.t 5))⟩,
    ⟨none, (.ln 49 (some 24) (.t 48))⟩,
    ⟨none, (.ar 50 .eql (.t 49) (.v (.int .i64 0)))⟩,
    ⟨none, (.mv (some 51) (.t 50))⟩,
    ⟨(some (51, true)), (.mv (some 52) (.t 6))⟩,
    ⟨(some (51, true)), (.ar 53 .eql (.t 52) (.v (.int .i64 (-1))))⟩,
    ⟨none, (.pick 54 (.t 51) (.t 53) (.v (.bool false)))⟩,
    ⟨none, (.mv (some 55) (.t 54))⟩,
    ⟨(some (55, true)), (.mv (some 56) (.t 3))⟩,
    ⟨(some (55, true)), (.ar 57 .eql (.t 56) (.v (.int .i64 0)))⟩,
    ⟨none, (.pick 58 (.t 55) (.t 57) (.v (.bool false)))⟩,
    ⟨none, (.mv (some 59) (.t 58))⟩,
    ⟨(some (59, true)), (.mv (some 60) (.t 8))⟩,
    ⟨(some (59, true)), (.ar 61 .eql (.t 60) (.v (.int .i64 3)))⟩,
    ⟨none, (.pick 62 (.t 59) (.t 61) (.v (.bool false)))⟩,
    ⟨none, (.mv (some 0) (.t 62))⟩])
  .ret)))))))))))
noncomputable def ent7 : TEnt := ⟨7, [], .bool, fun _ => F7, .plain⟩
theorem eq7 (x : dens ent7.as) : ent7.F x = evF [ent9, ent11, ent18] SHS dc7 [(.tmp 0)] ent7.as ent7.rs x := by kernel_rfl
/-- library/librarylaw10.ExchangeEncodes -/
noncomputable def F3 (a0 : Int × Int × Int × List UInt8 × List (List UInt8 × List UInt8 × (List (UInt8 × List UInt8)) × Int)) : Option (Bool) :=
  bindO (F7) fun y1 =>
  cond (!y1)
    (some false)
    (bindO (F8 a0) fun y2 =>
    cond (!y2)
      (some true)
      (bindO (F9 a0) fun y3 =>
      bindO (F10 a0) fun y4 =>
      cond (decide (y3.1 = y4.1))
        (some (decide (y3.2 = y4.2)))
        (some false)))
def dc3 : DC :=
  (.seq (.reg [⟨none, (.bx 1 (some 24) (.t 0))⟩,
    ⟨none, (.mv (some 2) (.v (.bool false)))⟩])
  (.seq (.seq (.reg [⟨none, (.ca (some 7) 7 [])⟩,
    ⟨none, (.un 8 .not (.t 7))⟩])
  (.cond (.t 8)
    (.seq (.reg [⟨none, (.mv (some 2) (.v (.bool false)))⟩])
  .ret)
    .skip))
  (.seq (.seq (.reg [⟨none, (.ld 9 (some 24) (.t 1))⟩,
    ⟨none, (.ca (some 10) 8 [(.t 9)])⟩,
    ⟨none, (.un 11 .not (.t 10))⟩])
  (.cond (.t 11)
    (.seq (.reg [⟨none, (.mv (some 2) (.v (.bool true)))⟩])
  .ret)
    .skip))
  (.seq (.reg [⟨none, (.ld 13 (some 24) (.t 1))⟩,
    ⟨none, (.ca (some 14) 9 [(.t 13)])⟩,
    ⟨none, (.mv (some 12) (.t 14))⟩,
    ⟨none, (.ex 15 0 (.t 12))⟩,
    ⟨none, (.ex 16 1 (.t 12))⟩,
    ⟨none, (.mv (some 3) (.t 15))⟩,
    ⟨none, (.mv (some 4) (.t 16))⟩])
  (.seq (.reg [⟨none, (.ld 18 (some 24) (.t 1))⟩,
    ⟨none, (.ca (some 19) 10 [(.t 18)])⟩,
    ⟨none, (.mv (some 17) (.t 19))⟩,
    ⟨none, (.ex 20 0 (.t 17))⟩,
    ⟨none, (.ex 21 1 (.t 17))⟩,
    ⟨none, (.mv (some 5) (.t 20))⟩,
    ⟨none, (.mv (some 6) (.t 21))⟩])
  (.seq (.reg [⟨none, (.mv (some 22) (.t 3))⟩,
    ⟨none, (.mv (some 23) (.t 5))⟩,
    ⟨none, (.ar 24 .eql (.t 22) (.t 23))⟩,
    ⟨none, (.mv (some 25) (.t 24))⟩,
    ⟨(some (25, true)), (.mv (some 26) (.t 4))⟩,
    ⟨(some (25, true)), (.mv (some 27) (.t 6))⟩,
    ⟨(some (25, true)), (.ar 28 .eql (.t 26) (.t 27))⟩,
    ⟨none, (.pick 29 (.t 25) (.t 28) (.v (.bool false)))⟩,
    ⟨none, (.mv (some 2) (.t 29))⟩])
  .ret))))))
noncomputable def ent3 : TEnt := ⟨3, [(.agg 24 (.pair (.int .i64) (.pair (.int .i64) (.pair (.int .i64) (.pair .str (.sl 49 (.agg 49 (.pair .str (.pair .str (.pair (.sl 46 (.agg 46 (.pair .byte .str))) (.int .i64)))))))))))], .bool, fun x => F3 x, .plain⟩
theorem eq3 (x : dens ent3.as) : ent3.F x = evF [ent7, ent8, ent9, ent10] SHS dc3 [(.tmp 2)] ent3.as ent3.rs x := by kernel_rfl
/-- library/librarylaw10.ExchangeExports -/
noncomputable def F5 (a0 : List (Int × Int × Int × List UInt8 × List (List UInt8 × List UInt8 × (List (UInt8 × List UInt8)) × Int))) (a1 : UInt8) : Option (Bool) :=
  bindO (F7) fun y1 =>
  cond (!y1)
    (some false)
    (bindO (F14 a0) fun y2 =>
    cond (!y2)
      (some true)
      (gdN (List.length ([] : List (Int × Int × Int × List UInt8 × List (List UInt8 × List UInt8 × (List (UInt8 × List UInt8)) × Int)))) (List.length ([] : List (Int × Int × Int × List UInt8 × List (List UInt8 × List UInt8 × (List (UInt8 × List UInt8)) × Int)))) <|
      loopK (σ := (List (Int × Int × Int × List UInt8 × List (List UInt8 × List UInt8 × (List (UInt8 × List UInt8)) × Int))) × Int) (fun p3 againp3 =>
        gd ((9 : Int) ≠ 0) <|
        bnd (Int.tmod (IntKind.wrap .i64 (UInt8.toNat a1 : Int)) (9 : Int)) fun x4 =>
        cond (decide (p3.2 ≤ x4))
          (gdN (List.length p3.1) (List.length p3.1) <|
          gd (List.length p3.1 + List.length a0 ≤ big) <|
          bnd (p3.1 ++ a0) fun l5 =>
          bnd (IntKind.wrap .i64 (p3.2 + (1 : Int))) fun x6 =>
          gdN (List.length l5) (List.length l5) <|
          againp3 (l5, x6))
          (bindO (F15 p3.1) fun y7 =>
          bindO (F16 p3.1) fun y8 =>
          cond (decide (y7.1 = y8.1))
            (some (decide (y7.2 = y8.2)))
            (some false))) (([] : List (Int × Int × Int × List UInt8 × List (List UInt8 × List UInt8 × (List (UInt8 × List UInt8)) × Int))), (0 : Int))))
def dc5 : DC :=
  (.seq (.reg [⟨none, (.mv (some 4) (.v (.bool false)))⟩])
  (.seq (.seq (.reg [⟨none, (.ca (some 11) 7 [])⟩,
    ⟨none, (.un 12 .not (.t 11))⟩])
  (.cond (.t 12)
    (.seq (.reg [⟨none, (.mv (some 4) (.v (.bool false)))⟩])
  .ret)
    .skip))
  (.seq (.seq (.reg [⟨none, (.mv (some 13) (.t 0))⟩,
    ⟨none, (.ca (some 14) 14 [(.t 13)])⟩,
    ⟨none, (.un 15 .not (.t 14))⟩])
  (.cond (.t 15)
    (.seq (.reg [⟨none, (.mv (some 4) (.v (.bool true)))⟩])
  .ret)
    .skip))
  (.seq (.reg [⟨none, (.nl 5 24)⟩])
  (.seq (.seq (.reg [⟨none, (.mv (some 6) (.v (.int .i64 0)))⟩])
  (.block 0 (.loop ⟨[(5, (.row 5 24 (.agg 24 (.pair (.int .i64) (.pair (.int .i64) (.pair (.int .i64) (.pair .str (.sl 49 (.agg 49 (.pair .str (.pair .str (.pair (.sl 46 (.agg 46 (.pair .byte .str))) (.int .i64))))))))))))), (6, (.lf (.int .i64)))], [], [16, 17, 18, 19, 20, 21, 22, 23, 24, 25].map .s⟩ (.seq (.seq (.reg [⟨none, (.mv (some 16) (.t 6))⟩,
    ⟨none, (.mv (some 17) (.t 1))⟩,
    ⟨none, (.cvi 18 .i64 (.t 17))⟩,
    ⟨none, (.ar 19 .rem (.t 18) (.v (.int .i64 9)))⟩,
    ⟨none, (.ar 20 .leq (.t 16) (.t 19))⟩])
  (.cond (.t 20)
    .skip
    (.exit 0)))
  (.seq (.block 1 (.reg [⟨none, (.mv (some 23) (.t 5))⟩,
    ⟨none, (.mv (some 24) (.t 0))⟩,
    ⟨none, (.ap 25 24 (.t 23) (.t 24))⟩,
    ⟨none, (.mv (some 5) (.t 25))⟩]))
  (.reg [⟨none, (.mv (some 21) (.t 6))⟩,
    ⟨none, (.ar 22 .add (.t 21) (.v (.int .i64 1)))⟩,
    ⟨none, (.mv (some 6) (.t 22))⟩]))))))
  (.seq (.reg [⟨none, (.mv (some 27) (.t 5))⟩,
    ⟨none, (.ca (some 28) 15 [(.t 27)])⟩,
    ⟨none, (.mv (some 26) (.t 28))⟩,
    ⟨none, (.ex 29 0 (.t 26))⟩,
    ⟨none, (.ex 30 1 (.t 26))⟩,
    ⟨none, (.mv (some 7) (.t 29))⟩,
    ⟨none, (.mv (some 8) (.t 30))⟩])
  (.seq (.reg [⟨none, (.mv (some 32) (.t 5))⟩,
    ⟨none, (.ca (some 33) 16 [(.t 32)])⟩,
    ⟨none, (.mv (some 31) (.t 33))⟩,
    ⟨none, (.ex 34 0 (.t 31))⟩,
    ⟨none, (.ex 35 1 (.t 31))⟩,
    ⟨none, (.mv (some 9) (.t 34))⟩,
    ⟨none, (.mv (some 10) (.t 35))⟩])
  (.seq (.reg [⟨none, (.mv (some 36) (.t 7))⟩,
    ⟨none, (.mv (some 37) (.t 9))⟩,
    ⟨none, (.ar 38 .eql (.t 36) (.t 37))⟩,
    ⟨none, (.mv (some 39) (.t 38))⟩,
    ⟨(some (39, true)), (.mv (some 40) (.t 8))⟩,
    ⟨(some (39, true)), (.mv (some 41) (.t 10))⟩,
    ⟨(some (39, true)), (.ar 42 .eql (.t 40) (.t 41))⟩,
    ⟨none, (.pick 43 (.t 39) (.t 42) (.v (.bool false)))⟩,
    ⟨none, (.mv (some 4) (.t 43))⟩])
  .ret))))))))
noncomputable def ent5 : TEnt := ⟨5, [(.sl 24 (.agg 24 (.pair (.int .i64) (.pair (.int .i64) (.pair (.int .i64) (.pair .str (.sl 49 (.agg 49 (.pair .str (.pair .str (.pair (.sl 46 (.agg 46 (.pair .byte .str))) (.int .i64)))))))))))), .byte], .bool, fun x => F5 x.1 x.2, .plain⟩
theorem eq5 (x : dens ent5.as) : ent5.F x = evF [ent7, ent14, ent15, ent16] SHS dc5 [(.tmp 4)] ent5.as ent5.rs x := by kernel_rfl
/-- library/librarylaw10.ExchangeBack -/
noncomputable def F6 (a0 : List (Int × Int × Int × List UInt8 × List (List UInt8 × List UInt8 × (List (UInt8 × List UInt8)) × Int))) : Option (Bool) :=
  bindO (F7) fun y1 =>
  cond (!y1)
    (some false)
    (bindO (F14 a0) fun y2 =>
    cond (!y2)
      (some true)
      (bindO (F15 a0) fun y3 =>
      cond (!decide (y3.2 = (0 : Int)))
        (some (decide (y3.1 = ([] : List UInt8))))
        (bindO (F11 y3.1) fun y4 =>
        cond (!decide (y4.2 = (0 : Int)))
          (some false)
          (cond (!decide ((List.length y4.1 : Int) = (List.length a0 : Int)))
            (some false)
            (loopK (σ := Int) (fun p5 againp5 =>
              cond (decide (p5 < (List.length a0 : Int)))
                (gd (0 ≤ p5 ∧ p5 < (List.length a0 : Int)) <|
                bindO (F9 (List.getD a0 (Int.toNat p5) (0, (0, (0, ([], [])))))) fun y6 =>
                gd (0 ≤ p5 ∧ p5 < (List.length y4.1 : Int)) <|
                bindO (F13 (List.getD y4.1 (Int.toNat p5) [])) fun y7 =>
                cond (!decide (y6.2 = (0 : Int)))
                  (some false)
                  (gd (0 ≤ p5 ∧ p5 < (List.length y4.1 : Int)) <|
                  cond (!decide (y6.1 = (List.getD y4.1 (Int.toNat p5) [])))
                    (some false)
                    (cond (!decide (y7.2 = (0 : Int)))
                      (some false)
                      (gd (0 ≤ p5 ∧ p5 < (List.length a0 : Int)) <|
                      bindO (F17 y7.1 (List.getD a0 (Int.toNat p5) (0, (0, (0, ([], [])))))) fun y8 =>
                      cond (!y8)
                        (some false)
                        (bnd (IntKind.wrap .i64 (p5 + (1 : Int))) fun x9 =>
                        againp5 x9)))))
                (bindO (F18 y3.1) fun y10 =>
                cond (decide (y10.2.2 = (0 : Int)))
                  (cond (decide (y10.2.1 = (-1 : Int)))
                    (bindO (F19 y10.1 a0) fun y11 =>
                    some y11)
                    (some false))
                  (some false))) (0 : Int))))))
def dc6 : DC :=
  (.seq (.reg [⟨none, (.mv (some 2) (.v (.bool false)))⟩])
  (.seq (.seq (.reg [⟨none, (.ca (some 15) 7 [])⟩,
    ⟨none, (.un 16 .not (.t 15))⟩])
  (.cond (.t 16)
    (.seq (.reg [⟨none, (.mv (some 2) (.v (.bool false)))⟩])
  .ret)
    .skip))
  (.seq (.seq (.reg [⟨none, (.mv (some 17) (.t 0))⟩,
    ⟨none, (.ca (some 18) 14 [(.t 17)])⟩,
    ⟨none, (.un 19 .not (.t 18))⟩])
  (.cond (.t 19)
    (.seq (.reg [⟨none, (.mv (some 2) (.v (.bool true)))⟩])
  .ret)
    .skip))
  (.seq (.reg [⟨none, (.mv (some 21) (.t 0))⟩,
    ⟨none, (.ca (some 22) 15 [(.t 21)])⟩,
    ⟨none, (.mv (some 20) (.t 22))⟩,
    ⟨none, (.ex 23 0 (.t 20))⟩,
    ⟨none, (.ex 24 1 (.t 20))⟩,
    ⟨none, (.mv (some 3) (.t 23))⟩,
    ⟨none, (.mv (some 4) (.t 24))⟩])
  (.seq (.seq (.reg [⟨none, (.mv (some 25) (.t 4))⟩,
    ⟨none, (.ar 26 .neq (.t 25) (.v (.int .i64 0)))⟩])
  (.cond (.t 26)
    (.seq (.reg [⟨none, (.mv (some 27) (.t 3))⟩,
    ⟨none, (.ar 28 .eql (.t 27) (.v (.str [])))⟩,
    ⟨none, (.mv (some 2) (.t 28))⟩])
  .ret)
    .skip))
  (.seq (.reg [⟨none, (.mv (some 30) (.t 3))⟩,
    ⟨none, (.ca (some 31) 11 [(.t 30)])⟩,
    ⟨none, (.mv (some 29) (.t 31))⟩,
    ⟨none, (.ex 32 0 (.t 29))⟩,
    ⟨none, (.ex 33 1 (.t 29))⟩,
    ⟨none, (.mv (some 5) (.t 32))⟩,
    ⟨none, (.mv (some 6) (.t 33))⟩])
  (.seq (.seq (.reg [⟨none, (.mv (some 34) (.t 6))⟩,
    ⟨none, (.ar 35 .neq (.t 34) (.v (.int .i64 0)))⟩,
    ⟨none, (.mv (some 36) (.t 35))⟩,
    ⟨(some (36, false)), (.mv (some 37) (.t 5))⟩,
    ⟨(some (36, false)), (.ln 38 (some 9) (.t 37))⟩,
    ⟨(some (36, false)), (.mv (some 39) (.t 0))⟩,
    ⟨(some (36, false)), (.ln 40 (some 24) (.t 39))⟩,
    ⟨(some (36, false)), (.ar 41 .neq (.t 38) (.t 40))⟩,
    ⟨none, (.pick 42 (.t 36) (.v (.bool true)) (.t 41))⟩])
  (.cond (.t 42)
    (.seq (.reg [⟨none, (.mv (some 2) (.v (.bool false)))⟩])
  .ret)
    .skip))
  (.seq (.seq (.reg [⟨none, (.mv (some 7) (.v (.int .i64 0)))⟩])
  (.block 0 (.loop ⟨[(7, (.lf (.int .i64)))], [], [2, 8, 9, 10, 11, 43, 44, 45, 46, 47, 48, 49, 50, 51, 52, 53, 54, 55, 56, 57, 58, 59, 60, 61, 62, 63, 64, 65, 66, 67, 68, 69, 70, 71, 72, 73, 74, 75, 76, 77, 78, 79, 80, 81, 82, 83, 84, 85, 86, 87].map .s ++ [10].map .b⟩ (.seq (.seq (.reg [⟨none, (.mv (some 43) (.t 7))⟩,
    ⟨none, (.mv (some 44) (.t 0))⟩,
    ⟨none, (.ln 45 (some 24) (.t 44))⟩,
    ⟨none, (.ar 46 .lss (.t 43) (.t 45))⟩])
  (.cond (.t 46)
    .skip
    (.exit 0)))
  (.seq (.block 1 (.seq (.reg [⟨none, (.mv (some 50) (.t 0))⟩,
    ⟨none, (.mv (some 51) (.t 7))⟩,
    ⟨none, (.ea 52 24 (.t 50) (.t 51))⟩,
    ⟨none, (.ld 53 (some 24) (.t 52))⟩,
    ⟨none, (.ca (some 54) 9 [(.t 53)])⟩,
    ⟨none, (.mv (some 49) (.t 54))⟩,
    ⟨none, (.ex 55 0 (.t 49))⟩,
    ⟨none, (.ex 56 1 (.t 49))⟩,
    ⟨none, (.mv (some 8) (.t 55))⟩,
    ⟨none, (.mv (some 9) (.t 56))⟩])
  (.seq (.reg [⟨none, (.mv (some 58) (.t 5))⟩,
    ⟨none, (.mv (some 59) (.t 7))⟩,
    ⟨none, (.ea 60 9 (.t 58) (.t 59))⟩,
    ⟨none, (.ld 61 none (.t 60))⟩,
    ⟨none, (.ca (some 62) 13 [(.t 61)])⟩,
    ⟨none, (.mv (some 57) (.t 62))⟩,
    ⟨none, (.ex 63 0 (.t 57))⟩,
    ⟨none, (.ex 64 1 (.t 57))⟩,
    ⟨none, (.al 10 (.agg 24 [(.int .i64 0), (.int .i64 0), (.int .i64 0), (.str []), (.sl none 49 [])]))⟩,
    ⟨none, (.st (some 24) (.t 10) (.t 63))⟩,
    ⟨none, (.mv (some 11) (.t 64))⟩])
  (.seq (.reg [⟨none, (.mv (some 65) (.t 9))⟩,
    ⟨none, (.ar 66 .neq (.t 65) (.v (.int .i64 0)))⟩,
    ⟨none, (.mv (some 67) (.t 66))⟩,
    ⟨(some (67, false)), (.mv (some 68) (.t 8))⟩,
    ⟨(some (67, false)), (.mv (some 69) (.t 5))⟩,
    ⟨(some (67, false)), (.mv (some 70) (.t 7))⟩,
    ⟨(some (67, false)), (.ea 71 9 (.t 69) (.t 70))⟩,
    ⟨(some (67, false)), (.ld 72 none (.t 71))⟩,
    ⟨(some (67, false)), (.ar 73 .neq (.t 68) (.t 72))⟩,
    ⟨none, (.pick 74 (.t 67) (.v (.bool true)) (.t 73))⟩,
    ⟨none, (.mv (some 75) (.t 74))⟩,
    ⟨(some (75, false)), (.mv (some 76) (.t 11))⟩,
    ⟨(some (75, false)), (.ar 77 .neq (.t 76) (.v (.int .i64 0)))⟩,
    ⟨none, (.pick 78 (.t 75) (.v (.bool true)) (.t 77))⟩,
    ⟨none, (.mv (some 79) (.t 78))⟩,
    ⟨(some (79, false)), (.ld 80 (some 24) (.t 10))⟩,
    ⟨(some (79, false)), (.mv (some 81) (.t 0))⟩,
    ⟨(some (79, false)), (.mv (some 82) (.t 7))⟩,
    ⟨(some (79, false)), (.ea 83 24 (.t 81) (.t 82))⟩,
    ⟨(some (79, false)), (.ld 84 (some 24) (.t 83))⟩,
    ⟨(some (79, false)), (.ca (some 85) 17 [(.t 80), (.t 84)])⟩,
    ⟨(some (79, false)), (.un 86 .not (.t 85))⟩,
    ⟨none, (.pick 87 (.t 79) (.v (.bool true)) (.t 86))⟩])
  (.cond (.t 87)
    (.seq (.reg [⟨none, (.mv (some 2) (.v (.bool false)))⟩])
  .ret)
    .skip)))))
  (.reg [⟨none, (.mv (some 47) (.t 7))⟩,
    ⟨none, (.ar 48 .add (.t 47) (.v (.int .i64 1)))⟩,
    ⟨none, (.mv (some 7) (.t 48))⟩]))))))
  (.seq (.reg [⟨none, (.mv (some 89) (.t 3))⟩,
    ⟨none, (.ca (some 90) 18 [(.t 89)])⟩,
    ⟨none, (.mv (some 88) (.t 90))⟩,
    ⟨none, (.ex 91 0 (.t 88))⟩,
    ⟨none, (.ex 92 1 (.t 88))⟩,
    ⟨none, (.ex 93 2 (.t 88))⟩,
    ⟨none, (.mv (some 12) (.t 91))⟩,
    ⟨none, (.mv (some 13) (.t 92))⟩,
    ⟨none, (.mv (some 14) (.t 93))⟩])
  (.seq (.reg [⟨none, (.mv (some 94) (.t 14))⟩,
    ⟨none, (.ar 95 .eql (.t 94) (.v (.int .i64 0)))⟩,
    ⟨none, (.mv (some 96) (.t 95))⟩,
    ⟨(some (96, true)), (.mv (some 97) (.t 13))⟩,
    ⟨(some (96, true)), (.ar 98 .eql (.t 97) (.v (.int .i64 (-1))))⟩,
    ⟨none, (.pick 99 (.t 96) (.t 98) (.v (.bool false)))⟩,
    ⟨none, (.mv (some 100) (.t 99))⟩,
    ⟨(some (100, true)), (.mv (some 101) (.t 12))⟩,
    ⟨(some (100, true)), (.mv (some 102) (.t 0))⟩,
    ⟨(some (100, true)), (.ca (some 103) 19 [(.t 101), (.t 102)])⟩,
    ⟨none, (.pick 104 (.t 100) (.t 103) (.v (.bool false)))⟩,
    ⟨none, (.mv (some 2) (.t 104))⟩])
  .ret))))))))))
noncomputable def ent6 : TEnt := ⟨6, [(.sl 24 (.agg 24 (.pair (.int .i64) (.pair (.int .i64) (.pair (.int .i64) (.pair .str (.sl 49 (.agg 49 (.pair .str (.pair .str (.pair (.sl 46 (.agg 46 (.pair .byte .str))) (.int .i64))))))))))))], .bool, fun x => F6 x, .plain⟩
theorem eq6 (x : dens ent6.as) : ent6.F x = evF [ent7, ent9, ent11, ent13, ent14, ent15, ent17, ent18, ent19] SHS dc6 [(.tmp 2)] ent6.as ent6.rs x := by kernel_rfl
theorem mixedS : Tryd.prog.follows .mixedOrders = true := by kernel_rfl
section
variable {G : World → Prop} (hG : Keeps G)
include hG in
theorem ok18 (h11 : TEnt.Ok Tryd.prog G ent11) (h13 : TEnt.Ok Tryd.prog G ent13) : TEnt.Ok Tryd.prog G ent18 :=
  ent_ok hG mixedS (fn := Tryd.f18) (d := dc18) (crs := [(.tmp 2), (.tmp 3), (.tmp 4)]) (hint := []) (TT := [ent11, ent13]) (SH := SHS) rfl rfl (by kernel_rfl) (splitsNil (by kernel_rfl)) (by decide) rfl ⟨h11, h13, trivial⟩ eq18
include hG in
theorem ok7 (h9 : TEnt.Ok Tryd.prog G ent9) (h11 : TEnt.Ok Tryd.prog G ent11) (h18 : TEnt.Ok Tryd.prog G ent18) : TEnt.Ok Tryd.prog G ent7 :=
  ent_ok hG mixedS (fn := Tryd.f7) (d := dc7) (crs := [(.tmp 0)]) (hint := []) (TT := [ent9, ent11, ent18]) (SH := SHS) rfl rfl (by kernel_rfl) (splitsNil (by kernel_rfl)) (by decide) rfl ⟨h9, h11, h18, trivial⟩ eq7
include hG in
theorem ok3 (h7 : TEnt.Ok Tryd.prog G ent7) (h8 : TEnt.Ok Tryd.prog G ent8) (h9 : TEnt.Ok Tryd.prog G ent9) (h10 : TEnt.Ok Tryd.prog G ent10) : TEnt.Ok Tryd.prog G ent3 :=
  ent_ok hG mixedS (fn := Tryd.f3) (d := dc3) (crs := [(.tmp 2)]) (hint := []) (TT := [ent7, ent8, ent9, ent10]) (SH := SHS) rfl rfl (by kernel_rfl) (splitsNil (by kernel_rfl)) (by decide) rfl ⟨h7, h8, h9, h10, trivial⟩ eq3
include hG in
theorem ok5 (h7 : TEnt.Ok Tryd.prog G ent7) (h14 : TEnt.Ok Tryd.prog G ent14) (h15 : TEnt.Ok Tryd.prog G ent15) (h16 : TEnt.Ok Tryd.prog G ent16) : TEnt.Ok Tryd.prog G ent5 :=
  ent_ok hG mixedS (fn := Tryd.f5) (d := dc5) (crs := [(.tmp 4)]) (hint := []) (TT := [ent7, ent14, ent15, ent16]) (SH := SHS) rfl rfl (by kernel_rfl) (splitsNil (by kernel_rfl)) (by decide) rfl ⟨h7, h14, h15, h16, trivial⟩ eq5
include hG in
theorem ok6 (h7 : TEnt.Ok Tryd.prog G ent7) (h9 : TEnt.Ok Tryd.prog G ent9) (h11 : TEnt.Ok Tryd.prog G ent11) (h13 : TEnt.Ok Tryd.prog G ent13) (h14 : TEnt.Ok Tryd.prog G ent14) (h15 : TEnt.Ok Tryd.prog G ent15) (h17 : TEnt.Ok Tryd.prog G ent17) (h18 : TEnt.Ok Tryd.prog G ent18) (h19 : TEnt.Ok Tryd.prog G ent19) : TEnt.Ok Tryd.prog G ent6 :=
  ent_ok hG mixedS (fn := Tryd.f6) (d := dc6) (crs := [(.tmp 2)]) (hint := []) (TT := [ent7, ent9, ent11, ent13, ent14, ent15, ent17, ent18, ent19]) (SH := SHS) rfl rfl (by kernel_rfl) (splitsNil (by kernel_rfl)) (by decide) rfl ⟨h7, h9, h11, h13, h14, h15, h17, h18, h19, trivial⟩ eq6
end
end Go.Proofs.YtnhjoplleldbfaaDoor
