/-
  THE FUNCTIONS AS PLAIN ONES (printed by a program of ours), and that they are what the code's runs give.
-/
import Derived.Test.YtnhjoplleldbfaaDoorE
namespace Go.Proofs.YtnhjoplleldbfaaDoor
open Go Go.Nu
set_option maxRecDepth 100000
set_option linter.unusedVariables false
def SHF : List (TypeId × Sh) := [(5, .byte), (9, .str), (24, (.agg 24 (.pair (.int .i64) (.pair (.int .i64) (.pair (.int .i64) (.pair .str (.sl 49 (.agg 49 (.pair .str (.pair .str (.pair (.sl 46 (.agg 46 (.pair .byte .str))) (.int .i64)))))))))))), (46, (.agg 46 (.pair .byte .str))), (49, (.agg 49 (.pair .str (.pair .str (.pair (.sl 46 (.agg 46 (.pair .byte .str))) (.int .i64)))))), (78, (.arr 78 .bool)), (79, (.arr 79 .bool)), (106, (.arr 106 .byte)), (119, (.arr 119 (.int .u64))), (120, (.arr 120 .byte)), (124, (.arr 124 .byte)), (127, (.arr 127 (.agg 126 (.pair .byte .byte)))), (131, (.arr 131 .byte)), (132, (.arr 132 .byte))]
/-- library/field.digits -/
noncomputable def F50 (a0 : List UInt8) : Option (Bool) :=
  bindO (fTrim a0 ([48, 49, 50, 51, 52, 53, 54, 55, 56, 57] : List UInt8)) fun y1 =>
  some (decide (y1 = ([] : List UInt8)))
def dc50 : DC :=
  (.seq (.reg [⟨none, (.mv (some 2) (.v (.bool false)))⟩])
  (.seq (.reg [⟨none, (.mv (some 3) (.t 0))⟩,
    ⟨none, (.ca (some 4) 34 [(.t 3), (.v (.str [48, 49, 50, 51, 52, 53, 54, 55, 56, 57]))])⟩,
    ⟨none, (.ar 5 .eql (.t 4) (.v (.str [])))⟩,
    ⟨none, (.mv (some 2) (.t 5))⟩])
  .ret))
noncomputable def ent50 : TEnt := ⟨50, [.str], .bool, fun x => F50 x, .plain⟩
theorem eq50 (x : dens ent50.as) : ent50.F x = evF [entTrim] SHF dc50 [(.tmp 2)] ent50.as ent50.rs x := by kernel_rfl
/-- library/text.Valid -/
noncomputable def F71 (a0 : List UInt8) : Option (Bool) :=
  bindO (fVal a0) fun y1 =>
  cond (!y1)
    (some false)
    (loopK (σ := (List UInt8 × Nat)) (fun p2 againp2 =>
      cond (decide (p2.2 < List.length p2.1))
        (cond (decide ((((Utf8.decode ⟨List.toArray p2.1⟩ p2.2).1 : Nat) : Int) < (32 : Int)))
          (some false)
          (cond (decide ((127 : Int) ≤ (((Utf8.decode ⟨List.toArray p2.1⟩ p2.2).1 : Nat) : Int)))
            (cond (decide ((((Utf8.decode ⟨List.toArray p2.1⟩ p2.2).1 : Nat) : Int) ≤ (159 : Int)))
              (some false)
              (cond (decide ((65535 : Int) < (((Utf8.decode ⟨List.toArray p2.1⟩ p2.2).1 : Nat) : Int)))
                (some false)
                (againp2 (p2.1, (p2.2 + (Utf8.decode ⟨List.toArray p2.1⟩ p2.2).2)))))
            (cond (decide ((65535 : Int) < (((Utf8.decode ⟨List.toArray p2.1⟩ p2.2).1 : Nat) : Int)))
              (some false)
              (againp2 (p2.1, (p2.2 + (Utf8.decode ⟨List.toArray p2.1⟩ p2.2).2))))))
        (some true)) (a0, 0))
def dc71 : DC :=
  (.seq (.reg [⟨none, (.mv (some 2) (.v (.bool false)))⟩])
  (.seq (.seq (.reg [⟨none, (.mv (some 5) (.t 0))⟩,
    ⟨none, (.ca (some 6) 89 [(.t 5)])⟩,
    ⟨none, (.un 7 .not (.t 6))⟩])
  (.cond (.t 7)
    (.seq (.reg [⟨none, (.mv (some 2) (.v (.bool false)))⟩])
  .ret)
    .skip))
  (.seq (.seq (.reg [⟨none, (.mv (some 8) (.t 0))⟩,
    ⟨none, (.rg 9 (.t 8))⟩])
  (.block 0 (.loop ⟨[], [(9, .itc)], [2, 4, 10, 11, 12, 13, 14, 15, 16, 17, 18, 19, 20, 21, 22, 23, 24, 25, 26].map .s⟩ (.seq (.reg [⟨none, (.nx 10 (.t 9))⟩,
    ⟨none, (.ex 11 0 (.t 10))⟩])
  (.seq (.cond (.t 11)
    .skip
    (.exit 0))
  (.block 1 (.seq (.reg [⟨none, (.ex 12 2 (.t 10))⟩,
    ⟨none, (.mv (some 4) (.t 12))⟩])
  (.seq (.reg [⟨none, (.mv (some 13) (.t 4))⟩,
    ⟨none, (.ar 14 .lss (.t 13) (.v (.int .i32 32)))⟩,
    ⟨none, (.mv (some 15) (.t 14))⟩,
    ⟨(some (15, false)), (.mv (some 16) (.t 4))⟩,
    ⟨(some (15, false)), (.ar 17 .geq (.t 16) (.v (.int .i32 127)))⟩,
    ⟨(some (15, false)), (.mv (some 18) (.t 17))⟩,
    ⟨(some (18, true)), (.mv (some 19) (.t 4))⟩,
    ⟨(some (18, true)), (.ar 20 .leq (.t 19) (.v (.int .i32 159)))⟩,
    ⟨(some (15, false)), (.pick 21 (.t 18) (.t 20) (.v (.bool false)))⟩,
    ⟨none, (.pick 22 (.t 15) (.v (.bool true)) (.t 21))⟩,
    ⟨none, (.mv (some 23) (.t 22))⟩,
    ⟨(some (23, false)), (.mv (some 24) (.t 4))⟩,
    ⟨(some (23, false)), (.ar 25 .gtr (.t 24) (.v (.int .i32 65535)))⟩,
    ⟨none, (.pick 26 (.t 23) (.v (.bool true)) (.t 25))⟩])
  (.cond (.t 26)
    (.seq (.reg [⟨none, (.mv (some 2) (.v (.bool false)))⟩])
  .ret)
    .skip)))))))))
  (.seq (.reg [⟨none, (.mv (some 2) (.v (.bool true)))⟩])
  .ret))))
noncomputable def ent71 : TEnt := ⟨71, [.str], .bool, fun x => F71 x, .plain⟩
theorem eq71 (x : dens ent71.as) : ent71.F x = evF [entVal] SHF dc71 [(.tmp 2)] ent71.as ent71.rs x := by kernel_rfl
/-- library/field.coded -/
noncomputable def F70 (a0 : UInt8) : Option (Bool) :=
  cond (decide ((97 : Int) ≤ (UInt8.toNat a0 : Int)))
    (cond (decide ((UInt8.toNat a0 : Int) ≤ (122 : Int)))
      (some true)
      (cond (decide ((48 : Int) ≤ (UInt8.toNat a0 : Int)))
        (some (decide ((UInt8.toNat a0 : Int) ≤ (57 : Int))))
        (some false)))
    (cond (decide ((48 : Int) ≤ (UInt8.toNat a0 : Int)))
      (some (decide ((UInt8.toNat a0 : Int) ≤ (57 : Int))))
      (some false))
def dc70 : DC :=
  (.seq (.reg [⟨none, (.mv (some 2) (.v (.bool false)))⟩])
  (.seq (.reg [⟨none, (.mv (some 3) (.t 0))⟩,
    ⟨none, (.ar 4 .geq (.t 3) (.v (.int .u8 97)))⟩,
    ⟨none, (.mv (some 5) (.t 4))⟩,
    ⟨(some (5, true)), (.mv (some 6) (.t 0))⟩,
    ⟨(some (5, true)), (.ar 7 .leq (.t 6) (.v (.int .u8 122)))⟩,
    ⟨none, (.pick 8 (.t 5) (.t 7) (.v (.bool false)))⟩,
    ⟨none, (.mv (some 9) (.t 8))⟩,
    ⟨(some (9, false)), (.mv (some 10) (.t 0))⟩,
    ⟨(some (9, false)), (.ar 11 .geq (.t 10) (.v (.int .u8 48)))⟩,
    ⟨(some (9, false)), (.mv (some 12) (.t 11))⟩,
    ⟨(some (12, true)), (.mv (some 13) (.t 0))⟩,
    ⟨(some (12, true)), (.ar 14 .leq (.t 13) (.v (.int .u8 57)))⟩,
    ⟨(some (9, false)), (.pick 15 (.t 12) (.t 14) (.v (.bool false)))⟩,
    ⟨none, (.pick 16 (.t 9) (.v (.bool true)) (.t 15))⟩,
    ⟨none, (.mv (some 2) (.t 16))⟩])
  .ret))
noncomputable def ent70 : TEnt := ⟨70, [.byte], .bool, fun x => F70 x, .plain⟩
theorem eq70 (x : dens ent70.as) : ent70.F x = evF [] SHF dc70 [(.tmp 2)] ent70.as ent70.rs x := by kernel_rfl
/-- library/field.checkSub -/
noncomputable def F52 (a0 : UInt8 × List UInt8) : Option (Int) :=
  bindO (F70 a0.1) fun y1 =>
  cond (!y1)
    (some (1 : Int))
    (cond (decide (a0.2 = ([] : List UInt8)))
      (some (8 : Int))
      (bindO (F71 a0.2) fun y2 =>
      cond (!y2)
        (some (3 : Int))
        (cond (decide ((200 : Int) < (List.length a0.2 : Int)))
          (some (4 : Int))
          (some (0 : Int)))))
def dc52 : DC :=
  (.seq (.reg [⟨none, (.bx 1 (some 46) (.t 0))⟩,
    ⟨none, (.mv (some 2) (.v (.int .i64 0)))⟩])
  (.seq (.block 0 (.seq (.reg [⟨none, (.fa 4 46 0 (.t 1))⟩,
    ⟨none, (.ld 5 none (.t 4))⟩,
    ⟨none, (.ca (some 6) 70 [(.t 5)])⟩,
    ⟨none, (.un 7 .not (.t 6))⟩,
    ⟨none, (.mv (some 3) (.t 7))⟩])
  (.cond (.t 3)
    (.seq (.reg [⟨none, (.mv (some 2) (.v (.int .i64 1)))⟩])
  .ret)
    (.seq (.reg [⟨none, (.fa 9 46 1 (.t 1))⟩,
    ⟨none, (.ld 10 none (.t 9))⟩,
    ⟨none, (.ar 11 .eql (.t 10) (.v (.str [])))⟩,
    ⟨none, (.mv (some 8) (.t 11))⟩])
  (.cond (.t 8)
    (.seq (.reg [⟨none, (.mv (some 2) (.v (.int .i64 8)))⟩])
  .ret)
    (.seq (.reg [⟨none, (.fa 13 46 1 (.t 1))⟩,
    ⟨none, (.ld 14 none (.t 13))⟩,
    ⟨none, (.ca (some 15) 71 [(.t 14)])⟩,
    ⟨none, (.un 16 .not (.t 15))⟩,
    ⟨none, (.mv (some 12) (.t 16))⟩])
  (.cond (.t 12)
    (.seq (.reg [⟨none, (.mv (some 2) (.v (.int .i64 3)))⟩])
  .ret)
    (.seq (.reg [⟨none, (.fa 18 46 1 (.t 1))⟩,
    ⟨none, (.ld 19 none (.t 18))⟩,
    ⟨none, (.ln 20 none (.t 19))⟩,
    ⟨none, (.ar 21 .gtr (.t 20) (.v (.int .i64 200)))⟩,
    ⟨none, (.mv (some 17) (.t 21))⟩])
  (.cond (.t 17)
    (.seq (.reg [⟨none, (.mv (some 2) (.v (.int .i64 4)))⟩])
  .ret)
    .skip)))))))))
  (.seq (.reg [⟨none, (.mv (some 2) (.v (.int .i64 0)))⟩])
  .ret)))
noncomputable def ent52 : TEnt := ⟨52, [(.agg 46 (.pair .byte .str))], (.int .i64), fun x => F52 x, .plain⟩
theorem eq52 (x : dens ent52.as) : ent52.F x = evF [ent70, ent71] SHF dc52 [(.tmp 2)] ent52.as ent52.rs x := by kernel_rfl
/-- library/field.Right -/
noncomputable def F35 (a0 : List UInt8 × List UInt8 × (List (UInt8 × List UInt8)) × Int) : Option (Int) :=
  jn (σ := Bool) (fun nextj1 =>
    cond (!decide ((List.length a0.1 : Int) = (3 : Int)))
      (nextj1 true)
      (bindO (F50 a0.1) fun y2 =>
      cond (!y2)
        (nextj1 true)
        (nextj1 (Op.bytesLess a0.1 ([48, 49, 48] : List UInt8))))) fun j1 =>
  cond (j1)
    (some (6 : Int))
    (jn (σ := Bool) (fun nextj3 =>
      cond (!decide ((List.length a0.2.1 : Int) = (2 : Int)))
        (nextj3 true)
        (bindO (fRepl a0.2.1 ([32] : List UInt8) ([48] : List UInt8)) fun y4 =>
        bindO (F50 y4) fun y5 =>
        nextj3 (!y5))) fun j3 =>
    cond (j3)
      (some (3 : Int))
      (cond (decide ((List.length a0.2.2.1 : Int) = (0 : Int)))
        (some (8 : Int))
        (cond (decide ((16 : Int) < (List.length a0.2.2.1 : Int)))
          (some (4 : Int))
          (loopK (σ := Int) (fun p6 againp6 =>
            cond (decide (p6 < (List.length a0.2.2.1 : Int)))
              (gd (0 ≤ p6 ∧ p6 < (List.length a0.2.2.1 : Int)) <|
              bindO (F52 (List.getD a0.2.2.1 (Int.toNat p6) (0, []))) fun y7 =>
              cond (!decide (y7 = (0 : Int)))
                (some y7)
                (bnd (IntKind.wrap .i64 (p6 + (1 : Int))) fun x8 =>
                againp6 x8))
              (cond (decide (a0.2.2.2 < (0 : Int)))
                (some (2 : Int))
                (cond (decide ((9999 : Int) < a0.2.2.2))
                  (some (2 : Int))
                  (some (0 : Int))))) (0 : Int)))))
def dc35 : DC :=
  (.seq (.reg [⟨none, (.bx 1 (some 49) (.t 0))⟩,
    ⟨none, (.mv (some 2) (.v (.int .i64 0)))⟩])
  (.seq (.block 0 (.jn ⟨[(6, (.lf .bool))], [], [7, 8, 9, 10, 11, 12, 13, 14, 15, 16, 17, 18, 19, 20, 21].map .s⟩ (.reg [⟨none, (.fa 7 49 0 (.t 1))⟩,
    ⟨none, (.ld 8 none (.t 7))⟩,
    ⟨none, (.ln 9 none (.t 8))⟩,
    ⟨none, (.ar 10 .neq (.t 9) (.v (.int .i64 3)))⟩,
    ⟨none, (.mv (some 11) (.t 10))⟩,
    ⟨(some (11, false)), (.fa 12 49 0 (.t 1))⟩,
    ⟨(some (11, false)), (.ld 13 none (.t 12))⟩,
    ⟨(some (11, false)), (.ca (some 14) 50 [(.t 13)])⟩,
    ⟨(some (11, false)), (.un 15 .not (.t 14))⟩,
    ⟨none, (.pick 16 (.t 11) (.v (.bool true)) (.t 15))⟩,
    ⟨none, (.mv (some 17) (.t 16))⟩,
    ⟨(some (17, false)), (.fa 18 49 0 (.t 1))⟩,
    ⟨(some (17, false)), (.ld 19 none (.t 18))⟩,
    ⟨(some (17, false)), (.ar 20 .lss (.t 19) (.v (.str [48, 49, 48])))⟩,
    ⟨none, (.pick 21 (.t 17) (.v (.bool true)) (.t 20))⟩,
    ⟨none, (.mv (some 6) (.t 21))⟩])
  (.cond (.t 6)
    (.seq (.reg [⟨none, (.mv (some 2) (.v (.int .i64 6)))⟩])
  .ret)
    (.jn ⟨[(22, (.lf .bool))], [], [23, 24, 25, 26, 27, 28, 29, 30, 31, 32, 33].map .s⟩ (.reg [⟨none, (.fa 23 49 1 (.t 1))⟩,
    ⟨none, (.ld 24 none (.t 23))⟩,
    ⟨none, (.ln 25 none (.t 24))⟩,
    ⟨none, (.ar 26 .neq (.t 25) (.v (.int .i64 2)))⟩,
    ⟨none, (.mv (some 27) (.t 26))⟩,
    ⟨(some (27, false)), (.fa 28 49 1 (.t 1))⟩,
    ⟨(some (27, false)), (.ld 29 none (.t 28))⟩,
    ⟨(some (27, false)), (.ca (some 30) 51 [(.t 29), (.v (.str [32])), (.v (.str [48]))])⟩,
    ⟨(some (27, false)), (.ca (some 31) 50 [(.t 30)])⟩,
    ⟨(some (27, false)), (.un 32 .not (.t 31))⟩,
    ⟨none, (.pick 33 (.t 27) (.v (.bool true)) (.t 32))⟩,
    ⟨none, (.mv (some 22) (.t 33))⟩])
  (.cond (.t 22)
    (.seq (.reg [⟨none, (.mv (some 2) (.v (.int .i64 3)))⟩])
  .ret)
    (.seq (.reg [⟨none, (.fa 35 49 2 (.t 1))⟩,
    ⟨none, (.ld 36 none (.t 35))⟩,
    ⟨none, (.ln 37 (some 46) (.t 36))⟩,
    ⟨none, (.ar 38 .eql (.t 37) (.v (.int .i64 0)))⟩,
    ⟨none, (.mv (some 34) (.t 38))⟩])
  (.cond (.t 34)
    (.seq (.reg [⟨none, (.mv (some 2) (.v (.int .i64 8)))⟩])
  .ret)
    (.seq (.reg [⟨none, (.fa 40 49 2 (.t 1))⟩,
    ⟨none, (.ld 41 none (.t 40))⟩,
    ⟨none, (.ln 42 (some 46) (.t 41))⟩,
    ⟨none, (.ar 43 .gtr (.t 42) (.v (.int .i64 16)))⟩,
    ⟨none, (.mv (some 39) (.t 43))⟩])
  (.cond (.t 39)
    (.seq (.reg [⟨none, (.mv (some 2) (.v (.int .i64 4)))⟩])
  .ret)
    .skip)))))))))
  (.seq (.seq (.reg [⟨none, (.fa 44 49 2 (.t 1))⟩,
    ⟨none, (.ld 45 none (.t 44))⟩,
    ⟨none, (.ln 46 (some 46) (.t 45))⟩,
    ⟨none, (.mv (some 47) (.v (.int .i64 0)))⟩])
  (.block 1 (.loop ⟨[(47, (.lf (.int .i64)))], [], [2, 4, 5, 48, 49, 50, 51, 52, 53, 54, 55, 56].map .s ++ [4].map .b⟩ (.seq (.reg [⟨none, (.ar 48 .lss (.t 47) (.t 46))⟩])
  (.seq (.cond (.t 48)
    .skip
    (.exit 1))
  (.seq (.block 2 (.seq (.reg [⟨none, (.ea 49 46 (.t 45) (.t 47))⟩,
    ⟨none, (.ld 50 (some 46) (.t 49))⟩,
    ⟨none, (.al 4 (.agg 46 [(.int .u8 0), (.str [])]))⟩,
    ⟨none, (.st (some 46) (.t 4) (.t 50))⟩])
  (.seq (.reg [⟨none, (.ld 51 (some 46) (.t 4))⟩,
    ⟨none, (.ca (some 52) 52 [(.t 51)])⟩,
    ⟨none, (.mv (some 5) (.t 52))⟩])
  (.seq (.reg [⟨none, (.mv (some 53) (.t 5))⟩,
    ⟨none, (.ar 54 .neq (.t 53) (.v (.int .i64 0)))⟩])
  (.cond (.t 54)
    (.seq (.reg [⟨none, (.mv (some 55) (.t 5))⟩,
    ⟨none, (.mv (some 2) (.t 55))⟩])
  .ret)
    .skip)))))
  (.reg [⟨none, (.ar 56 .add (.t 47) (.v (.int .i64 1)))⟩,
    ⟨none, (.mv (some 47) (.t 56))⟩])))))))
  (.seq (.seq (.reg [⟨none, (.fa 57 49 3 (.t 1))⟩,
    ⟨none, (.ld 58 none (.t 57))⟩,
    ⟨none, (.ar 59 .lss (.t 58) (.v (.int .i64 0)))⟩,
    ⟨none, (.mv (some 60) (.t 59))⟩,
    ⟨(some (60, false)), (.fa 61 49 3 (.t 1))⟩,
    ⟨(some (60, false)), (.ld 62 none (.t 61))⟩,
    ⟨(some (60, false)), (.ar 63 .gtr (.t 62) (.v (.int .i64 9999)))⟩,
    ⟨none, (.pick 64 (.t 60) (.v (.bool true)) (.t 63))⟩])
  (.cond (.t 64)
    (.seq (.reg [⟨none, (.mv (some 2) (.v (.int .i64 2)))⟩])
  .ret)
    .skip))
  (.seq (.reg [⟨none, (.mv (some 2) (.v (.int .i64 0)))⟩])
  .ret)))))
noncomputable def ent35 : TEnt := ⟨35, [(.agg 49 (.pair .str (.pair .str (.pair (.sl 46 (.agg 46 (.pair .byte .str))) (.int .i64)))))], (.int .i64), fun x => F35 x, .plain⟩
theorem eq35 (x : dens ent35.as) : ent35.F x = evF [ent50, entRepl, ent52] SHF dc35 [(.tmp 2)] ent35.as ent35.rs x := by kernel_rfl
/-- library/record.Right -/
noncomputable def F20 (a0 : Int × Int × Int × List UInt8 × List (List UInt8 × List UInt8 × (List (UInt8 × List UInt8)) × Int)) : Option (Int) :=
  jn (σ := Bool) (fun nextj1 =>
    cond (decide (a0.1 < (0 : Int)))
      (nextj1 true)
      (nextj1 (decide ((9999 : Int) < a0.1)))) fun j1 =>
  cond (j1)
    (some (2 : Int))
    (jn (σ := Bool) (fun nextj2 =>
      cond (decide (a0.2.1 < (1 : Int)))
        (nextj2 true)
        (nextj2 (decide ((3 : Int) < a0.2.1)))) fun j2 =>
    cond (j2)
      (some (20 : Int))
      (jn (σ := Bool) (fun nextj3 =>
        cond (decide (a0.2.2.1 < (1 : Int)))
          (nextj3 true)
          (nextj3 (decide ((4 : Int) < a0.2.2.1)))) fun j3 =>
      cond (j3)
        (some (1 : Int))
        (jn (σ := Bool) (fun nextj4 =>
          cond (!decide ((List.length a0.2.2.2.1 : Int) = (3 : Int)))
            (nextj4 true)
            (bindO (fTrim a0.2.2.2.1 ([97, 98, 99, 100, 101, 102, 103, 104, 105, 106, 107, 108, 109, 110, 111, 112, 113, 114, 115, 116, 117, 118, 119, 120, 121, 122] : List UInt8)) fun y5 =>
            nextj4 (!decide (y5 = ([] : List UInt8))))) fun j4 =>
        cond (j4)
          (some (3 : Int))
          (cond (decide ((64 : Int) < (List.length a0.2.2.2.2 : Int)))
            (some (4 : Int))
            (loopK (σ := Int) (fun p6 againp6 =>
              cond (decide (p6 < (List.length a0.2.2.2.2 : Int)))
                (gd (0 ≤ p6 ∧ p6 < (List.length a0.2.2.2.2 : Int)) <|
                bindO (F35 (List.getD a0.2.2.2.2 (Int.toNat p6) ([], ([], ([], 0))))) fun y7 =>
                cond (!decide (y7 = (0 : Int)))
                  (some y7)
                  (bnd (IntKind.wrap .i64 (p6 + (1 : Int))) fun x8 =>
                  againp6 x8))
                (some (0 : Int))) (0 : Int))))))
def dc20 : DC :=
  (.seq (.reg [⟨none, (.bx 1 (some 24) (.t 0))⟩,
    ⟨none, (.mv (some 2) (.v (.int .i64 0)))⟩])
  (.seq (.block 0 (.jn ⟨[(6, (.lf .bool))], [], [7, 8, 9, 10, 11, 12, 13, 14].map .s⟩ (.reg [⟨none, (.fa 7 24 0 (.t 1))⟩,
    ⟨none, (.ld 8 none (.t 7))⟩,
    ⟨none, (.ar 9 .lss (.t 8) (.v (.int .i64 0)))⟩,
    ⟨none, (.mv (some 10) (.t 9))⟩,
    ⟨(some (10, false)), (.fa 11 24 0 (.t 1))⟩,
    ⟨(some (10, false)), (.ld 12 none (.t 11))⟩,
    ⟨(some (10, false)), (.ar 13 .gtr (.t 12) (.v (.int .i64 9999)))⟩,
    ⟨none, (.pick 14 (.t 10) (.v (.bool true)) (.t 13))⟩,
    ⟨none, (.mv (some 6) (.t 14))⟩])
  (.cond (.t 6)
    (.seq (.reg [⟨none, (.mv (some 2) (.v (.int .i64 2)))⟩])
  .ret)
    (.jn ⟨[(15, (.lf .bool))], [], [16, 17, 18, 19, 20, 21, 22, 23].map .s⟩ (.reg [⟨none, (.fa 16 24 1 (.t 1))⟩,
    ⟨none, (.ld 17 none (.t 16))⟩,
    ⟨none, (.ar 18 .lss (.t 17) (.v (.int .i64 1)))⟩,
    ⟨none, (.mv (some 19) (.t 18))⟩,
    ⟨(some (19, false)), (.fa 20 24 1 (.t 1))⟩,
    ⟨(some (19, false)), (.ld 21 none (.t 20))⟩,
    ⟨(some (19, false)), (.ar 22 .gtr (.t 21) (.v (.int .i64 3)))⟩,
    ⟨none, (.pick 23 (.t 19) (.v (.bool true)) (.t 22))⟩,
    ⟨none, (.mv (some 15) (.t 23))⟩])
  (.cond (.t 15)
    (.seq (.reg [⟨none, (.mv (some 2) (.v (.int .i64 20)))⟩])
  .ret)
    (.jn ⟨[(24, (.lf .bool))], [], [25, 26, 27, 28, 29, 30, 31, 32].map .s⟩ (.reg [⟨none, (.fa 25 24 2 (.t 1))⟩,
    ⟨none, (.ld 26 none (.t 25))⟩,
    ⟨none, (.ar 27 .lss (.t 26) (.v (.int .i64 1)))⟩,
    ⟨none, (.mv (some 28) (.t 27))⟩,
    ⟨(some (28, false)), (.fa 29 24 2 (.t 1))⟩,
    ⟨(some (28, false)), (.ld 30 none (.t 29))⟩,
    ⟨(some (28, false)), (.ar 31 .gtr (.t 30) (.v (.int .i64 4)))⟩,
    ⟨none, (.pick 32 (.t 28) (.v (.bool true)) (.t 31))⟩,
    ⟨none, (.mv (some 24) (.t 32))⟩])
  (.cond (.t 24)
    (.seq (.reg [⟨none, (.mv (some 2) (.v (.int .i64 1)))⟩])
  .ret)
    (.jn ⟨[(33, (.lf .bool))], [], [34, 35, 36, 37, 38, 39, 40, 41, 42, 43].map .s⟩ (.reg [⟨none, (.fa 34 24 3 (.t 1))⟩,
    ⟨none, (.ld 35 none (.t 34))⟩,
    ⟨none, (.ln 36 none (.t 35))⟩,
    ⟨none, (.ar 37 .neq (.t 36) (.v (.int .i64 3)))⟩,
    ⟨none, (.mv (some 38) (.t 37))⟩,
    ⟨(some (38, false)), (.fa 39 24 3 (.t 1))⟩,
    ⟨(some (38, false)), (.ld 40 none (.t 39))⟩,
    ⟨(some (38, false)), (.ca (some 41) 34 [(.t 40), (.v (.str [97, 98, 99, 100, 101, 102, 103, 104, 105, 106, 107, 108, 109, 110, 111, 112, 113, 114, 115, 116, 117, 118, 119, 120, 121, 122]))])⟩,
    ⟨(some (38, false)), (.ar 42 .neq (.t 41) (.v (.str [])))⟩,
    ⟨none, (.pick 43 (.t 38) (.v (.bool true)) (.t 42))⟩,
    ⟨none, (.mv (some 33) (.t 43))⟩])
  (.cond (.t 33)
    (.seq (.reg [⟨none, (.mv (some 2) (.v (.int .i64 3)))⟩])
  .ret)
    (.seq (.reg [⟨none, (.fa 45 24 4 (.t 1))⟩,
    ⟨none, (.ld 46 none (.t 45))⟩,
    ⟨none, (.ln 47 (some 49) (.t 46))⟩,
    ⟨none, (.ar 48 .gtr (.t 47) (.v (.int .i64 64)))⟩,
    ⟨none, (.mv (some 44) (.t 48))⟩])
  (.cond (.t 44)
    (.seq (.reg [⟨none, (.mv (some 2) (.v (.int .i64 4)))⟩])
  .ret)
    .skip)))))))))))
  (.seq (.seq (.reg [⟨none, (.fa 49 24 4 (.t 1))⟩,
    ⟨none, (.ld 50 none (.t 49))⟩,
    ⟨none, (.ln 51 (some 49) (.t 50))⟩,
    ⟨none, (.mv (some 52) (.v (.int .i64 0)))⟩])
  (.block 1 (.loop ⟨[(52, (.lf (.int .i64)))], [], [2, 4, 5, 53, 54, 55, 56, 57, 58, 59, 60, 61].map .s ++ [4].map .b⟩ (.seq (.reg [⟨none, (.ar 53 .lss (.t 52) (.t 51))⟩])
  (.seq (.cond (.t 53)
    .skip
    (.exit 1))
  (.seq (.block 2 (.seq (.reg [⟨none, (.ea 54 49 (.t 50) (.t 52))⟩,
    ⟨none, (.ld 55 (some 49) (.t 54))⟩,
    ⟨none, (.al 4 (.agg 49 [(.str []), (.str []), (.sl none 46 []), (.int .i64 0)]))⟩,
    ⟨none, (.st (some 49) (.t 4) (.t 55))⟩])
  (.seq (.reg [⟨none, (.ld 56 (some 49) (.t 4))⟩,
    ⟨none, (.ca (some 57) 35 [(.t 56)])⟩,
    ⟨none, (.mv (some 5) (.t 57))⟩])
  (.seq (.reg [⟨none, (.mv (some 58) (.t 5))⟩,
    ⟨none, (.ar 59 .neq (.t 58) (.v (.int .i64 0)))⟩])
  (.cond (.t 59)
    (.seq (.reg [⟨none, (.mv (some 60) (.t 5))⟩,
    ⟨none, (.mv (some 2) (.t 60))⟩])
  .ret)
    .skip)))))
  (.reg [⟨none, (.ar 61 .add (.t 52) (.v (.int .i64 1)))⟩,
    ⟨none, (.mv (some 52) (.t 61))⟩])))))))
  (.seq (.reg [⟨none, (.mv (some 2) (.v (.int .i64 0)))⟩])
  .ret))))
noncomputable def ent20 : TEnt := ⟨20, [(.agg 24 (.pair (.int .i64) (.pair (.int .i64) (.pair (.int .i64) (.pair .str (.sl 49 (.agg 49 (.pair .str (.pair .str (.pair (.sl 46 (.agg 46 (.pair .byte .str))) (.int .i64)))))))))))], (.int .i64), fun x => F20 x, .plain⟩
theorem eq20 (x : dens ent20.as) : ent20.F x = evF [entTrim, ent35] SHF dc20 [(.tmp 2)] ent20.as ent20.rs x := by kernel_rfl
/-- library/exchange.number -/
noncomputable def F23 (a0 : Int) (a1 : Int) : Option (List UInt8) :=
  bindO (fItoa a0) fun y1 =>
  bnd (IntKind.wrap .i64 (a1 - (List.length y1 : Int))) fun x2 =>
  bnd (max x2 (0 : Int)) fun x3 =>
  bindO (fRepeat ([48] : List UInt8) x3) fun y4 =>
  gd (List.length y4 + List.length y1 ≤ big) <|
  bnd (y4 ++ y1) fun x5 =>
  some x5
def dc23 : DC :=
  (.seq (.reg [⟨none, (.mv (some 4) (.v (.str [])))⟩])
  (.seq (.reg [⟨none, (.mv (some 6) (.t 0))⟩,
    ⟨none, (.ca (some 7) 24 [(.t 6)])⟩,
    ⟨none, (.mv (some 5) (.t 7))⟩])
  (.seq (.reg [⟨none, (.mv (some 8) (.t 1))⟩,
    ⟨none, (.mv (some 9) (.t 5))⟩,
    ⟨none, (.ln 10 none (.t 9))⟩,
    ⟨none, (.ar 11 .sub (.t 8) (.t 10))⟩,
    ⟨none, (.mn 12 true (.t 11) (.v (.int .i64 0)))⟩,
    ⟨none, (.ca (some 13) 37 [(.v (.str [48])), (.t 12)])⟩,
    ⟨none, (.mv (some 14) (.t 5))⟩,
    ⟨none, (.ar 15 .add (.t 13) (.t 14))⟩,
    ⟨none, (.mv (some 4) (.t 15))⟩])
  .ret)))
noncomputable def ent23 : TEnt := ⟨23, [(.int .i64), (.int .i64)], .str, fun x => F23 x.1 x.2, .plain⟩
theorem eq23 (x : dens ent23.as) : ent23.F x = evF [entItoa, entRepeat] SHF dc23 [(.tmp 4)] ent23.as ent23.rs x := by kernel_rfl
/-- library/exchange.Encode -/
noncomputable def F9 (a0 : Int × Int × Int × List UInt8 × List (List UInt8 × List UInt8 × (List (UInt8 × List UInt8)) × Int)) : Option (List UInt8 × Int) :=
  bindO (F20 a0) fun y1 =>
  cond (!decide (y1 = (0 : Int)))
    (some (([] : List UInt8), y1))
    (gdN (0) (List.length ([] : List UInt8)) <|
    gdN (0) (List.length ([] : List UInt8)) <|
    loopK (σ := Int × List UInt8 × List UInt8) (fun p2 againp2 =>
      cond (decide (p2.1 < (List.length a0.2.2.2.2 : Int)))
        (gd (0 ≤ p2.1 ∧ p2.1 < (List.length a0.2.2.2.2 : Int)) <|
        gdN (List.length p2.2.2) (List.length p2.2.2) <|
        bindO (F23 ((List.getD a0.2.2.2.2 (Int.toNat p2.1) ([], ([], ([], 0)))).2.2.2) (4 : Int)) fun y3 =>
        gd (List.length ((List.getD a0.2.2.2.2 (Int.toNat p2.1) ([], ([], ([], 0)))).2.1) + List.length y3 ≤ big) <|
        bnd (((List.getD a0.2.2.2.2 (Int.toNat p2.1) ([], ([], ([], 0)))).2.1) ++ y3) fun x4 =>
        gdN (List.length p2.2.2) (List.length p2.2.2) <|
        gd (List.length p2.2.2 + List.length x4 ≤ big) <|
        bnd (p2.2.2 ++ x4) fun b5 =>
        gdN (List.length b5) (List.length b5) <|
        loopK (σ := Int × List UInt8) (fun p6 againp6 =>
          cond (decide (p6.1 < (List.length ((List.getD a0.2.2.2.2 (Int.toNat p2.1) ([], ([], ([], 0)))).2.2.1) : Int)))
            (gd (0 ≤ p6.1 ∧ p6.1 < (List.length ((List.getD a0.2.2.2.2 (Int.toNat p2.1) ([], ([], ([], 0)))).2.2.1) : Int)) <|
            gd (List.length ([31] : List UInt8) + List.length [(List.getD ((List.getD a0.2.2.2.2 (Int.toNat p2.1) ([], ([], ([], 0)))).2.2.1) (Int.toNat p6.1) (0, [])).1] ≤ big) <|
            bnd (([31] : List UInt8) ++ [(List.getD ((List.getD a0.2.2.2.2 (Int.toNat p2.1) ([], ([], ([], 0)))).2.2.1) (Int.toNat p6.1) (0, [])).1]) fun x7 =>
            gd (List.length x7 + List.length ((List.getD ((List.getD a0.2.2.2.2 (Int.toNat p2.1) ([], ([], ([], 0)))).2.2.1) (Int.toNat p6.1) (0, [])).2) ≤ big) <|
            bnd (x7 ++ ((List.getD ((List.getD a0.2.2.2.2 (Int.toNat p2.1) ([], ([], ([], 0)))).2.2.1) (Int.toNat p6.1) (0, [])).2)) fun x8 =>
            gdN (List.length p6.2) (List.length p6.2) <|
            gd (List.length p6.2 + List.length x8 ≤ big) <|
            bnd (p6.2 ++ x8) fun b9 =>
            bnd (IntKind.wrap .i64 (p6.1 + (1 : Int))) fun x10 =>
            gdN (List.length b9) (List.length b9) <|
            againp6 (x10, b9))
            (gdN (List.length p6.2) (List.length p6.2) <|
            gd (List.length p6.2 + List.length ([30] : List UInt8) ≤ big) <|
            bnd (p6.2 ++ ([30] : List UInt8)) fun b11 =>
            gdN (List.length b11) (List.length b11) <|
            bnd (IntKind.wrap .i64 ((List.length b11 : Int) - (List.length p2.2.2 : Int))) fun x12 =>
            bindO (F23 x12 (4 : Int)) fun y13 =>
            gd (List.length ((List.getD a0.2.2.2.2 (Int.toNat p2.1) ([], ([], ([], 0)))).1) + List.length y13 ≤ big) <|
            bnd (((List.getD a0.2.2.2.2 (Int.toNat p2.1) ([], ([], ([], 0)))).1) ++ y13) fun x14 =>
            bindO (F23 (List.length p2.2.2 : Int) (5 : Int)) fun y15 =>
            gd (List.length x14 + List.length y15 ≤ big) <|
            bnd (x14 ++ y15) fun x16 =>
            gdN (List.length p2.2.1) (List.length p2.2.1) <|
            gd (List.length p2.2.1 + List.length x16 ≤ big) <|
            bnd (p2.2.1 ++ x16) fun b17 =>
            bnd (IntKind.wrap .i64 (p2.1 + (1 : Int))) fun x18 =>
            gdN (List.length b17) (List.length b17) <|
            gdN (List.length b11) (List.length b11) <|
            againp2 (x18, b17, b11))) ((0 : Int), b5))
        (gdN (List.length p2.2.1) (List.length p2.2.1) <|
        bnd (IntKind.wrap .i64 ((24 : Int) + (List.length p2.2.1 : Int))) fun x19 =>
        bnd (IntKind.wrap .i64 (x19 + (1 : Int))) fun x20 =>
        gdN (List.length p2.2.2) (List.length p2.2.2) <|
        bnd (IntKind.wrap .i64 (x20 + (List.length p2.2.2 : Int))) fun x21 =>
        bnd (IntKind.wrap .i64 (x21 + (1 : Int))) fun x22 =>
        cond (decide ((9999 : Int) < x22))
          (some (([] : List UInt8), (4 : Int)))
          (bindO (F23 x22 (5 : Int)) fun y23 =>
          gd (List.length y23 + List.length ([110] : List UInt8) ≤ big) <|
          bnd (y23 ++ ([110] : List UInt8)) fun x24 =>
          bnd (IntKind.wrap .i64 (a0.2.2.1 - (1 : Int))) fun x25 =>
          gd (0 ≤ x25 ∧ x25 ≤ a0.2.2.1 ∧ a0.2.2.1 ≤ (List.length ([98, 115, 109, 100] : List UInt8) : Int)) <|
          bnd (List.drop (Int.toNat x25) (List.take (Int.toNat a0.2.2.1) ([98, 115, 109, 100] : List UInt8))) fun x26 =>
          gd (List.length x24 + List.length x26 ≤ big) <|
          bnd (x24 ++ x26) fun x27 =>
          bindO (fItoa a0.2.1) fun y28 =>
          gd (List.length x27 + List.length y28 ≤ big) <|
          bnd (x27 ++ y28) fun x29 =>
          gd (List.length x29 + List.length a0.2.2.2.1 ≤ big) <|
          bnd (x29 ++ a0.2.2.2.1) fun x30 =>
          bindO (F23 x20 (5 : Int)) fun y31 =>
          gd (List.length x30 + List.length y31 ≤ big) <|
          bnd (x30 ++ y31) fun x32 =>
          bindO (F23 a0.1 (4 : Int)) fun y33 =>
          gd (List.length x32 + List.length y33 ≤ big) <|
          bnd (x32 ++ y33) fun x34 =>
          gd (List.length x34 + List.length ([52, 53, 48, 48] : List UInt8) ≤ big) <|
          bnd (x34 ++ ([52, 53, 48, 48] : List UInt8)) fun x35 =>
          gdN (List.length p2.2.1) (List.length p2.2.1) <|
          gd (List.length x35 + List.length p2.2.1 ≤ big) <|
          bnd (x35 ++ p2.2.1) fun x36 =>
          gd (List.length x36 + List.length ([30] : List UInt8) ≤ big) <|
          bnd (x36 ++ ([30] : List UInt8)) fun x37 =>
          gdN (List.length p2.2.2) (List.length p2.2.2) <|
          gd (List.length x37 + List.length p2.2.2 ≤ big) <|
          bnd (x37 ++ p2.2.2) fun x38 =>
          gd (List.length x38 + List.length ([29] : List UInt8) ≤ big) <|
          bnd (x38 ++ ([29] : List UInt8)) fun x39 =>
          some (x39, (0 : Int))))) ((0 : Int), ([] : List UInt8), ([] : List UInt8)))
def dc9 : DC :=
  (.seq (.reg [⟨none, (.bx 1 (some 24) (.t 0))⟩,
    ⟨none, (.mv (some 2) (.v (.str [])))⟩,
    ⟨none, (.mv (some 3) (.v (.int .i64 0)))⟩])
  (.seq (.seq (.reg [⟨none, (.ld 15 (some 24) (.t 1))⟩,
    ⟨none, (.ca (some 16) 20 [(.t 15)])⟩,
    ⟨none, (.mv (some 4) (.t 16))⟩])
  (.seq (.reg [⟨none, (.mv (some 17) (.t 4))⟩,
    ⟨none, (.ar 18 .neq (.t 17) (.v (.int .i64 0)))⟩])
  (.cond (.t 18)
    (.seq (.reg [⟨none, (.mv (some 19) (.t 4))⟩,
    ⟨none, (.mv (some 2) (.v (.str [])))⟩,
    ⟨none, (.mv (some 3) (.t 19))⟩])
  .ret)
    .skip)))
  (.seq (.reg [⟨none, (.ab 5 54 5)⟩,
    ⟨none, (.ab 6 54 5)⟩])
  (.seq (.seq (.reg [⟨none, (.fa 20 24 4 (.t 1))⟩,
    ⟨none, (.ld 21 none (.t 20))⟩,
    ⟨none, (.ln 22 (some 49) (.t 21))⟩,
    ⟨none, (.mv (some 23) (.v (.int .i64 0)))⟩])
  (.block 0 (.loop ⟨[(23, (.lf (.int .i64)))], [(5, (.bld 3000005 54 5)), (6, (.bld 3000006 54 5))], [8, 9, 11, 24, 25, 26, 27, 28, 29, 30, 31, 32, 33, 34, 35, 36, 37, 38, 39, 40, 41, 42, 43, 44, 45, 46, 47, 48, 49, 50, 51, 52, 53, 54, 55, 56, 57, 58, 59, 60, 61, 62, 63, 64].map .s ++ [8, 11].map .b ++ [44].map .f⟩ (.seq (.reg [⟨none, (.ar 24 .lss (.t 23) (.t 22))⟩])
  (.seq (.cond (.t 24)
    .skip
    (.exit 0))
  (.seq (.block 1 (.seq (.reg [⟨none, (.ea 25 49 (.t 21) (.t 23))⟩,
    ⟨none, (.ld 26 (some 49) (.t 25))⟩,
    ⟨none, (.al 8 (.agg 49 [(.str []), (.str []), (.sl none 46 []), (.int .i64 0)]))⟩,
    ⟨none, (.st (some 49) (.t 8) (.t 26))⟩])
  (.seq (.reg [⟨none, (.cw (some 27) 21 .len [(.t 6)])⟩,
    ⟨none, (.mv (some 9) (.t 27))⟩])
  (.seq (.reg [⟨none, (.fa 28 49 1 (.t 8))⟩,
    ⟨none, (.ld 29 none (.t 28))⟩,
    ⟨none, (.fa 30 49 3 (.t 8))⟩,
    ⟨none, (.ld 31 none (.t 30))⟩,
    ⟨none, (.ca (some 32) 23 [(.t 31), (.v (.int .i64 4))])⟩,
    ⟨none, (.ar 33 .add (.t 29) (.t 32))⟩,
    ⟨none, (.cw (some 34) 22 .wstr [(.t 6), (.t 33)])⟩])
  (.seq (.seq (.reg [⟨none, (.fa 35 49 2 (.t 8))⟩,
    ⟨none, (.ld 36 none (.t 35))⟩,
    ⟨none, (.ln 37 (some 46) (.t 36))⟩,
    ⟨none, (.mv (some 38) (.v (.int .i64 0)))⟩])
  (.block 2 (.loop ⟨[(38, (.lf (.int .i64)))], [(6, (.bld 3000006 54 5))], [11, 39, 40, 41, 42, 43, 44, 45, 46, 47, 48, 49, 50, 51].map .s ++ [11].map .b ++ [44].map .f⟩ (.seq (.reg [⟨none, (.ar 39 .lss (.t 38) (.t 37))⟩])
  (.seq (.cond (.t 39)
    .skip
    (.exit 2))
  (.seq (.block 3 (.seq (.reg [⟨none, (.ea 40 46 (.t 36) (.t 38))⟩,
    ⟨none, (.ld 41 (some 46) (.t 40))⟩,
    ⟨none, (.al 11 (.agg 46 [(.int .u8 0), (.str [])]))⟩,
    ⟨none, (.st (some 46) (.t 11) (.t 41))⟩])
  (.reg [⟨none, (.fa 42 46 0 (.t 11))⟩,
    ⟨none, (.ld 43 none (.t 42))⟩,
    ⟨none, (.bs 44 5 none [(.t 43)])⟩,
    ⟨none, (.cvb 45 (.t 44))⟩,
    ⟨none, (.ar 46 .add (.v (.str [31])) (.t 45))⟩,
    ⟨none, (.fa 47 46 1 (.t 11))⟩,
    ⟨none, (.ld 48 none (.t 47))⟩,
    ⟨none, (.ar 49 .add (.t 46) (.t 48))⟩,
    ⟨none, (.cw (some 50) 22 .wstr [(.t 6), (.t 49)])⟩])))
  (.reg [⟨none, (.ar 51 .add (.t 38) (.v (.int .i64 1)))⟩,
    ⟨none, (.mv (some 38) (.t 51))⟩])))))))
  (.seq (.reg [⟨none, (.cw (some 52) 22 .wstr [(.t 6), (.v (.str [30]))])⟩])
  (.reg [⟨none, (.fa 53 49 0 (.t 8))⟩,
    ⟨none, (.ld 54 none (.t 53))⟩,
    ⟨none, (.cw (some 55) 21 .len [(.t 6)])⟩,
    ⟨none, (.mv (some 56) (.t 9))⟩,
    ⟨none, (.ar 57 .sub (.t 55) (.t 56))⟩,
    ⟨none, (.ca (some 58) 23 [(.t 57), (.v (.int .i64 4))])⟩,
    ⟨none, (.ar 59 .add (.t 54) (.t 58))⟩,
    ⟨none, (.mv (some 60) (.t 9))⟩,
    ⟨none, (.ca (some 61) 23 [(.t 60), (.v (.int .i64 5))])⟩,
    ⟨none, (.ar 62 .add (.t 59) (.t 61))⟩,
    ⟨none, (.cw (some 63) 22 .wstr [(.t 5), (.t 62)])⟩])))))))
  (.reg [⟨none, (.ar 64 .add (.t 23) (.v (.int .i64 1)))⟩,
    ⟨none, (.mv (some 23) (.t 64))⟩])))))))
  (.seq (.reg [⟨none, (.cw (some 65) 21 .len [(.t 5)])⟩,
    ⟨none, (.ar 66 .add (.v (.int .i64 24)) (.t 65))⟩,
    ⟨none, (.ar 67 .add (.t 66) (.v (.int .i64 1)))⟩,
    ⟨none, (.mv (some 12) (.t 67))⟩])
  (.seq (.reg [⟨none, (.mv (some 68) (.t 12))⟩,
    ⟨none, (.cw (some 69) 21 .len [(.t 6)])⟩,
    ⟨none, (.ar 70 .add (.t 68) (.t 69))⟩,
    ⟨none, (.ar 71 .add (.t 70) (.v (.int .i64 1)))⟩,
    ⟨none, (.mv (some 13) (.t 71))⟩])
  (.seq (.seq (.reg [⟨none, (.mv (some 72) (.t 13))⟩,
    ⟨none, (.ar 73 .gtr (.t 72) (.v (.int .i64 9999)))⟩])
  (.cond (.t 73)
    (.seq (.reg [⟨none, (.mv (some 2) (.v (.str [])))⟩,
    ⟨none, (.mv (some 3) (.v (.int .i64 4)))⟩])
  .ret)
    .skip))
  (.seq (.reg [⟨none, (.mv (some 74) (.t 13))⟩,
    ⟨none, (.ca (some 75) 23 [(.t 74), (.v (.int .i64 5))])⟩,
    ⟨none, (.ar 76 .add (.t 75) (.v (.str [110])))⟩,
    ⟨none, (.fa 77 24 2 (.t 1))⟩,
    ⟨none, (.ld 78 none (.t 77))⟩,
    ⟨none, (.ar 79 .sub (.t 78) (.v (.int .i64 1)))⟩,
    ⟨none, (.fa 80 24 2 (.t 1))⟩,
    ⟨none, (.ld 81 none (.t 80))⟩,
    ⟨none, (.sc 82 none (.v (.str [98, 115, 109, 100])) (some (.t 79)) (some (.t 81)))⟩,
    ⟨none, (.ar 83 .add (.t 76) (.t 82))⟩,
    ⟨none, (.fa 84 24 1 (.t 1))⟩,
    ⟨none, (.ld 85 none (.t 84))⟩,
    ⟨none, (.ca (some 86) 24 [(.t 85)])⟩,
    ⟨none, (.ar 87 .add (.t 83) (.t 86))⟩,
    ⟨none, (.fa 88 24 3 (.t 1))⟩,
    ⟨none, (.ld 89 none (.t 88))⟩,
    ⟨none, (.ar 90 .add (.t 87) (.t 89))⟩,
    ⟨none, (.mv (some 91) (.t 12))⟩,
    ⟨none, (.ca (some 92) 23 [(.t 91), (.v (.int .i64 5))])⟩,
    ⟨none, (.ar 93 .add (.t 90) (.t 92))⟩,
    ⟨none, (.fa 94 24 0 (.t 1))⟩,
    ⟨none, (.ld 95 none (.t 94))⟩,
    ⟨none, (.ca (some 96) 23 [(.t 95), (.v (.int .i64 4))])⟩,
    ⟨none, (.ar 97 .add (.t 93) (.t 96))⟩,
    ⟨none, (.ar 98 .add (.t 97) (.v (.str [52, 53, 48, 48])))⟩,
    ⟨none, (.mv (some 14) (.t 98))⟩])
  (.seq (.reg [⟨none, (.mv (some 99) (.t 14))⟩,
    ⟨none, (.cw (some 100) 25 .str [(.t 5)])⟩,
    ⟨none, (.ar 101 .add (.t 99) (.t 100))⟩,
    ⟨none, (.ar 102 .add (.t 101) (.v (.str [30])))⟩,
    ⟨none, (.cw (some 103) 25 .str [(.t 6)])⟩,
    ⟨none, (.ar 104 .add (.t 102) (.t 103))⟩,
    ⟨none, (.ar 105 .add (.t 104) (.v (.str [29])))⟩,
    ⟨none, (.mv (some 2) (.t 105))⟩,
    ⟨none, (.mv (some 3) (.v (.int .i64 0)))⟩])
  .ret)))))))))
noncomputable def ent9 : TEnt := ⟨9, [(.agg 24 (.pair (.int .i64) (.pair (.int .i64) (.pair (.int .i64) (.pair .str (.sl 49 (.agg 49 (.pair .str (.pair .str (.pair (.sl 46 (.agg 46 (.pair .byte .str))) (.int .i64)))))))))))], (.tup (.pair .str (.int .i64))), fun x => F9 x, .plain⟩
theorem eq9 (x : dens ent9.as) : ent9.F x = evF [ent20, entLen, entWriteString, ent23, entItoa, entString] SHF dc9 [(.tmp 2), (.tmp 3)] ent9.as ent9.rs x := by kernel_rfl
/-- library/libraryref01.decode -/
noncomputable def F80 (a0 : List UInt8) (a1 : Int) : Option (Int × Int) :=
  gd (0 ≤ a1 ∧ a1 < (List.length a0 : Int)) <|
  jn (σ := Unit) (fun nextj1 =>
    cond (decide ((32 : Int) ≤ (IntKind.wrap .i64 (UInt8.toNat (List.getD a0 (Int.toNat a1) 0) : Int))))
      (cond (decide ((IntKind.wrap .i64 (UInt8.toNat (List.getD a0 (Int.toNat a1) 0) : Int)) < (127 : Int)))
        (some ((IntKind.wrap .i64 (UInt8.toNat (List.getD a0 (Int.toNat a1) 0) : Int)), (1 : Int)))
        (nextj1 ()))
      (nextj1 ())) fun j1 =>
  jn (σ := Bool) (fun nextj2 =>
    cond (decide ((194 : Int) ≤ (IntKind.wrap .i64 (UInt8.toNat (List.getD a0 (Int.toNat a1) 0) : Int))))
      (cond (decide ((IntKind.wrap .i64 (UInt8.toNat (List.getD a0 (Int.toNat a1) 0) : Int)) < (224 : Int)))
        (bnd (IntKind.wrap .i64 (a1 + (1 : Int))) fun x3 =>
        cond (decide (x3 < (List.length a0 : Int)))
          (bnd (IntKind.wrap .i64 (a1 + (1 : Int))) fun x4 =>
          gd (0 ≤ x4 ∧ x4 < (List.length a0 : Int)) <|
          cond (decide ((128 : Int) ≤ (UInt8.toNat (List.getD a0 (Int.toNat x4) 0) : Int)))
            (bnd (IntKind.wrap .i64 (a1 + (1 : Int))) fun x5 =>
            gd (0 ≤ x5 ∧ x5 < (List.length a0 : Int)) <|
            nextj2 (decide ((UInt8.toNat (List.getD a0 (Int.toNat x5) 0) : Int) < (192 : Int))))
            (nextj2 false))
          (nextj2 false))
        (nextj2 false))
      (nextj2 false)) fun j2 =>
  cond (j2)
    (bnd (IntKind.wrap .i64 ((IntKind.wrap .i64 (UInt8.toNat (List.getD a0 (Int.toNat a1) 0) : Int)) - (192 : Int))) fun x6 =>
    bnd (IntKind.wrap .i64 (x6 * (64 : Int))) fun x7 =>
    bnd (IntKind.wrap .i64 (a1 + (1 : Int))) fun x8 =>
    gd (0 ≤ x8 ∧ x8 < (List.length a0 : Int)) <|
    bnd (IntKind.wrap .i64 (x7 + (IntKind.wrap .i64 (UInt8.toNat (List.getD a0 (Int.toNat x8) 0) : Int)))) fun x9 =>
    bnd (IntKind.wrap .i64 (x9 - (128 : Int))) fun x10 =>
    cond (decide ((160 : Int) ≤ x10))
      (some (x10, (2 : Int)))
      (some ((0 : Int), (0 : Int))))
    (jn (σ := Bool) (fun nextj11 =>
      cond (decide ((224 : Int) ≤ (IntKind.wrap .i64 (UInt8.toNat (List.getD a0 (Int.toNat a1) 0) : Int))))
        (cond (decide ((IntKind.wrap .i64 (UInt8.toNat (List.getD a0 (Int.toNat a1) 0) : Int)) < (240 : Int)))
          (bnd (IntKind.wrap .i64 (a1 + (2 : Int))) fun x12 =>
          cond (decide (x12 < (List.length a0 : Int)))
            (bnd (IntKind.wrap .i64 (a1 + (1 : Int))) fun x13 =>
            gd (0 ≤ x13 ∧ x13 < (List.length a0 : Int)) <|
            cond (decide ((128 : Int) ≤ (UInt8.toNat (List.getD a0 (Int.toNat x13) 0) : Int)))
              (bnd (IntKind.wrap .i64 (a1 + (1 : Int))) fun x14 =>
              gd (0 ≤ x14 ∧ x14 < (List.length a0 : Int)) <|
              cond (decide ((UInt8.toNat (List.getD a0 (Int.toNat x14) 0) : Int) < (192 : Int)))
                (bnd (IntKind.wrap .i64 (a1 + (2 : Int))) fun x15 =>
                gd (0 ≤ x15 ∧ x15 < (List.length a0 : Int)) <|
                cond (decide ((128 : Int) ≤ (UInt8.toNat (List.getD a0 (Int.toNat x15) 0) : Int)))
                  (bnd (IntKind.wrap .i64 (a1 + (2 : Int))) fun x16 =>
                  gd (0 ≤ x16 ∧ x16 < (List.length a0 : Int)) <|
                  nextj11 (decide ((UInt8.toNat (List.getD a0 (Int.toNat x16) 0) : Int) < (192 : Int))))
                  (nextj11 false))
                (nextj11 false))
              (nextj11 false))
            (nextj11 false))
          (nextj11 false))
        (nextj11 false)) fun j11 =>
    cond (j11)
      (bnd (IntKind.wrap .i64 ((IntKind.wrap .i64 (UInt8.toNat (List.getD a0 (Int.toNat a1) 0) : Int)) - (224 : Int))) fun x17 =>
      bnd (IntKind.wrap .i64 (x17 * (4096 : Int))) fun x18 =>
      bnd (IntKind.wrap .i64 (a1 + (1 : Int))) fun x19 =>
      gd (0 ≤ x19 ∧ x19 < (List.length a0 : Int)) <|
      bnd (IntKind.wrap .i64 ((IntKind.wrap .i64 (UInt8.toNat (List.getD a0 (Int.toNat x19) 0) : Int)) - (128 : Int))) fun x20 =>
      bnd (IntKind.wrap .i64 (x20 * (64 : Int))) fun x21 =>
      bnd (IntKind.wrap .i64 (x18 + x21)) fun x22 =>
      bnd (IntKind.wrap .i64 (a1 + (2 : Int))) fun x23 =>
      gd (0 ≤ x23 ∧ x23 < (List.length a0 : Int)) <|
      bnd (IntKind.wrap .i64 (x22 + (IntKind.wrap .i64 (UInt8.toNat (List.getD a0 (Int.toNat x23) 0) : Int)))) fun x24 =>
      bnd (IntKind.wrap .i64 (x24 - (128 : Int))) fun x25 =>
      cond (decide ((2048 : Int) ≤ x25))
        (cond (decide (x25 < (55296 : Int)))
          (some (x25, (3 : Int)))
          (cond (decide ((57343 : Int) < x25))
            (some (x25, (3 : Int)))
            (some ((0 : Int), (0 : Int)))))
        (some ((0 : Int), (0 : Int))))
      (some ((0 : Int), (0 : Int))))
def dc80 : DC :=
  (.seq (.reg [⟨none, (.mv (some 4) (.v (.int .i64 0)))⟩,
    ⟨none, (.mv (some 5) (.v (.int .i64 0)))⟩])
  (.seq (.reg [⟨none, (.mv (some 9) (.t 0))⟩,
    ⟨none, (.mv (some 10) (.t 1))⟩,
    ⟨none, (.ix 11 (.t 9) (.t 10))⟩,
    ⟨none, (.cvi 12 .i64 (.t 11))⟩,
    ⟨none, (.mv (some 6) (.t 12))⟩])
  (.jn ⟨[], [], [13, 14, 15, 16, 17, 18].map .s⟩ (.seq (.reg [⟨none, (.mv (some 13) (.t 6))⟩,
    ⟨none, (.ar 14 .geq (.t 13) (.v (.int .i64 32)))⟩,
    ⟨none, (.mv (some 15) (.t 14))⟩,
    ⟨(some (15, true)), (.mv (some 16) (.t 6))⟩,
    ⟨(some (15, true)), (.ar 17 .lss (.t 16) (.v (.int .i64 127)))⟩,
    ⟨none, (.pick 18 (.t 15) (.t 17) (.v (.bool false)))⟩])
  (.cond (.t 18)
    (.seq (.reg [⟨none, (.mv (some 19) (.t 6))⟩,
    ⟨none, (.mv (some 4) (.t 19))⟩,
    ⟨none, (.mv (some 5) (.v (.int .i64 1)))⟩])
  .ret)
    .skip))
  (.seq (.jn ⟨[(46, (.lf .bool))], [], [20, 21, 22, 23, 24, 25, 26, 27, 28, 29, 30, 31, 32, 33, 34, 35, 36, 37, 38, 39, 40, 41, 42, 43, 44, 45].map .s⟩ (.reg [⟨none, (.mv (some 20) (.t 6))⟩,
    ⟨none, (.ar 21 .geq (.t 20) (.v (.int .i64 194)))⟩,
    ⟨none, (.mv (some 22) (.t 21))⟩,
    ⟨(some (22, true)), (.mv (some 23) (.t 6))⟩,
    ⟨(some (22, true)), (.ar 24 .lss (.t 23) (.v (.int .i64 224)))⟩,
    ⟨none, (.pick 25 (.t 22) (.t 24) (.v (.bool false)))⟩,
    ⟨none, (.mv (some 26) (.t 25))⟩,
    ⟨(some (26, true)), (.mv (some 27) (.t 1))⟩,
    ⟨(some (26, true)), (.ar 28 .add (.t 27) (.v (.int .i64 1)))⟩,
    ⟨(some (26, true)), (.mv (some 29) (.t 0))⟩,
    ⟨(some (26, true)), (.ln 30 none (.t 29))⟩,
    ⟨(some (26, true)), (.ar 31 .lss (.t 28) (.t 30))⟩,
    ⟨none, (.pick 32 (.t 26) (.t 31) (.v (.bool false)))⟩,
    ⟨none, (.mv (some 33) (.t 32))⟩,
    ⟨(some (33, true)), (.mv (some 34) (.t 0))⟩,
    ⟨(some (33, true)), (.mv (some 35) (.t 1))⟩,
    ⟨(some (33, true)), (.ar 36 .add (.t 35) (.v (.int .i64 1)))⟩,
    ⟨(some (33, true)), (.ix 37 (.t 34) (.t 36))⟩,
    ⟨(some (33, true)), (.ar 38 .geq (.t 37) (.v (.int .u8 128)))⟩,
    ⟨none, (.pick 39 (.t 33) (.t 38) (.v (.bool false)))⟩,
    ⟨none, (.mv (some 40) (.t 39))⟩,
    ⟨(some (40, true)), (.mv (some 41) (.t 0))⟩,
    ⟨(some (40, true)), (.mv (some 42) (.t 1))⟩,
    ⟨(some (40, true)), (.ar 43 .add (.t 42) (.v (.int .i64 1)))⟩,
    ⟨(some (40, true)), (.ix 44 (.t 41) (.t 43))⟩,
    ⟨(some (40, true)), (.ar 45 .lss (.t 44) (.v (.int .u8 192)))⟩,
    ⟨none, (.pick 46 (.t 40) (.t 45) (.v (.bool false)))⟩])
  (.cond (.t 46)
    (.seq (.reg [⟨none, (.mv (some 47) (.t 6))⟩,
    ⟨none, (.ar 48 .sub (.t 47) (.v (.int .i64 192)))⟩,
    ⟨none, (.ar 49 .mul (.t 48) (.v (.int .i64 64)))⟩,
    ⟨none, (.mv (some 50) (.t 0))⟩,
    ⟨none, (.mv (some 51) (.t 1))⟩,
    ⟨none, (.ar 52 .add (.t 51) (.v (.int .i64 1)))⟩,
    ⟨none, (.ix 53 (.t 50) (.t 52))⟩,
    ⟨none, (.cvi 54 .i64 (.t 53))⟩,
    ⟨none, (.ar 55 .add (.t 49) (.t 54))⟩,
    ⟨none, (.ar 56 .sub (.t 55) (.v (.int .i64 128)))⟩,
    ⟨none, (.mv (some 7) (.t 56))⟩])
  (.seq (.seq (.reg [⟨none, (.mv (some 57) (.t 7))⟩,
    ⟨none, (.ar 58 .geq (.t 57) (.v (.int .i64 160)))⟩])
  (.cond (.t 58)
    (.seq (.reg [⟨none, (.mv (some 59) (.t 7))⟩,
    ⟨none, (.mv (some 4) (.t 59))⟩,
    ⟨none, (.mv (some 5) (.v (.int .i64 2)))⟩])
  .ret)
    .skip))
  (.seq (.reg [⟨none, (.mv (some 4) (.v (.int .i64 0)))⟩,
    ⟨none, (.mv (some 5) (.v (.int .i64 0)))⟩])
  .ret)))
    .skip))
  (.seq (.jn ⟨[(100, (.lf .bool))], [], [60, 61, 62, 63, 64, 65, 66, 67, 68, 69, 70, 71, 72, 73, 74, 75, 76, 77, 78, 79, 80, 81, 82, 83, 84, 85, 86, 87, 88, 89, 90, 91, 92, 93, 94, 95, 96, 97, 98, 99].map .s⟩ (.reg [⟨none, (.mv (some 60) (.t 6))⟩,
    ⟨none, (.ar 61 .geq (.t 60) (.v (.int .i64 224)))⟩,
    ⟨none, (.mv (some 62) (.t 61))⟩,
    ⟨(some (62, true)), (.mv (some 63) (.t 6))⟩,
    ⟨(some (62, true)), (.ar 64 .lss (.t 63) (.v (.int .i64 240)))⟩,
    ⟨none, (.pick 65 (.t 62) (.t 64) (.v (.bool false)))⟩,
    ⟨none, (.mv (some 66) (.t 65))⟩,
    ⟨(some (66, true)), (.mv (some 67) (.t 1))⟩,
    ⟨(some (66, true)), (.ar 68 .add (.t 67) (.v (.int .i64 2)))⟩,
    ⟨(some (66, true)), (.mv (some 69) (.t 0))⟩,
    ⟨(some (66, true)), (.ln 70 none (.t 69))⟩,
    ⟨(some (66, true)), (.ar 71 .lss (.t 68) (.t 70))⟩,
    ⟨none, (.pick 72 (.t 66) (.t 71) (.v (.bool false)))⟩,
    ⟨none, (.mv (some 73) (.t 72))⟩,
    ⟨(some (73, true)), (.mv (some 74) (.t 0))⟩,
    ⟨(some (73, true)), (.mv (some 75) (.t 1))⟩,
    ⟨(some (73, true)), (.ar 76 .add (.t 75) (.v (.int .i64 1)))⟩,
    ⟨(some (73, true)), (.ix 77 (.t 74) (.t 76))⟩,
    ⟨(some (73, true)), (.ar 78 .geq (.t 77) (.v (.int .u8 128)))⟩,
    ⟨none, (.pick 79 (.t 73) (.t 78) (.v (.bool false)))⟩,
    ⟨none, (.mv (some 80) (.t 79))⟩,
    ⟨(some (80, true)), (.mv (some 81) (.t 0))⟩,
    ⟨(some (80, true)), (.mv (some 82) (.t 1))⟩,
    ⟨(some (80, true)), (.ar 83 .add (.t 82) (.v (.int .i64 1)))⟩,
    ⟨(some (80, true)), (.ix 84 (.t 81) (.t 83))⟩,
    ⟨(some (80, true)), (.ar 85 .lss (.t 84) (.v (.int .u8 192)))⟩,
    ⟨none, (.pick 86 (.t 80) (.t 85) (.v (.bool false)))⟩,
    ⟨none, (.mv (some 87) (.t 86))⟩,
    ⟨(some (87, true)), (.mv (some 88) (.t 0))⟩,
    ⟨(some (87, true)), (.mv (some 89) (.t 1))⟩,
    ⟨(some (87, true)), (.ar 90 .add (.t 89) (.v (.int .i64 2)))⟩,
    ⟨(some (87, true)), (.ix 91 (.t 88) (.t 90))⟩,
    ⟨(some (87, true)), (.ar 92 .geq (.t 91) (.v (.int .u8 128)))⟩,
    ⟨none, (.pick 93 (.t 87) (.t 92) (.v (.bool false)))⟩,
    ⟨none, (.mv (some 94) (.t 93))⟩,
    ⟨(some (94, true)), (.mv (some 95) (.t 0))⟩,
    ⟨(some (94, true)), (.mv (some 96) (.t 1))⟩,
    ⟨(some (94, true)), (.ar 97 .add (.t 96) (.v (.int .i64 2)))⟩,
    ⟨(some (94, true)), (.ix 98 (.t 95) (.t 97))⟩,
    ⟨(some (94, true)), (.ar 99 .lss (.t 98) (.v (.int .u8 192)))⟩,
    ⟨none, (.pick 100 (.t 94) (.t 99) (.v (.bool false)))⟩])
  (.cond (.t 100)
    (.seq (.reg [⟨none, (.mv (some 101) (.t 6))⟩,
    ⟨none, (.ar 102 .sub (.t 101) (.v (.int .i64 224)))⟩,
    ⟨none, (.ar 103 .mul (.t 102) (.v (.int .i64 4096)))⟩,
    ⟨none, (.mv (some 104) (.t 0))⟩,
    ⟨none, (.mv (some 105) (.t 1))⟩,
    ⟨none, (.ar 106 .add (.t 105) (.v (.int .i64 1)))⟩,
    ⟨none, (.ix 107 (.t 104) (.t 106))⟩,
    ⟨none, (.cvi 108 .i64 (.t 107))⟩,
    ⟨none, (.ar 109 .sub (.t 108) (.v (.int .i64 128)))⟩,
    ⟨none, (.ar 110 .mul (.t 109) (.v (.int .i64 64)))⟩,
    ⟨none, (.ar 111 .add (.t 103) (.t 110))⟩,
    ⟨none, (.mv (some 112) (.t 0))⟩,
    ⟨none, (.mv (some 113) (.t 1))⟩,
    ⟨none, (.ar 114 .add (.t 113) (.v (.int .i64 2)))⟩,
    ⟨none, (.ix 115 (.t 112) (.t 114))⟩,
    ⟨none, (.cvi 116 .i64 (.t 115))⟩,
    ⟨none, (.ar 117 .add (.t 111) (.t 116))⟩,
    ⟨none, (.ar 118 .sub (.t 117) (.v (.int .i64 128)))⟩,
    ⟨none, (.mv (some 8) (.t 118))⟩])
  (.seq (.reg [⟨none, (.mv (some 119) (.t 8))⟩,
    ⟨none, (.ar 120 .geq (.t 119) (.v (.int .i64 2048)))⟩,
    ⟨none, (.mv (some 121) (.t 120))⟩,
    ⟨(some (121, true)), (.mv (some 122) (.t 8))⟩,
    ⟨(some (121, true)), (.ar 123 .lss (.t 122) (.v (.int .i64 55296)))⟩,
    ⟨(some (121, true)), (.mv (some 124) (.t 123))⟩,
    ⟨(some (124, false)), (.mv (some 125) (.t 8))⟩,
    ⟨(some (124, false)), (.ar 126 .gtr (.t 125) (.v (.int .i64 57343)))⟩,
    ⟨(some (121, true)), (.pick 127 (.t 124) (.v (.bool true)) (.t 126))⟩,
    ⟨none, (.pick 128 (.t 121) (.t 127) (.v (.bool false)))⟩])
  (.cond (.t 128)
    (.seq (.reg [⟨none, (.mv (some 129) (.t 8))⟩,
    ⟨none, (.mv (some 4) (.t 129))⟩,
    ⟨none, (.mv (some 5) (.v (.int .i64 3)))⟩])
  .ret)
    .skip)))
    .skip))
  (.seq (.reg [⟨none, (.mv (some 4) (.v (.int .i64 0)))⟩,
    ⟨none, (.mv (some 5) (.v (.int .i64 0)))⟩])
  .ret))))))
noncomputable def ent80 : TEnt := ⟨80, [.str, (.int .i64)], (.tup (.pair (.int .i64) (.int .i64))), fun x => F80 x.1 x.2, .plain⟩
theorem eq80 (x : dens ent80.as) : ent80.F x = evF [] SHF dc80 [(.tmp 4), (.tmp 5)] ent80.as ent80.rs x := by kernel_rfl
/-- library/libraryref01.Valid -/
noncomputable def F61 (a0 : List UInt8) : Option (Bool) :=
  loopK (σ := Int) (fun p1 againp1 =>
    cond (decide (p1 < (List.length a0 : Int)))
      (bindO (F80 a0 p1) fun y2 =>
      cond (decide (y2.2 = (0 : Int)))
        (some false)
        (bnd (IntKind.wrap .i64 (p1 + y2.2)) fun x3 =>
        againp1 x3))
      (some true)) (0 : Int)
def dc61 : DC :=
  (.seq (.reg [⟨none, (.mv (some 2) (.v (.bool false)))⟩])
  (.seq (.reg [⟨none, (.mv (some 3) (.v (.int .i64 0)))⟩])
  (.seq (.block 0 (.loop ⟨[(3, (.lf (.int .i64)))], [], [2, 4, 5, 6, 7, 8, 9, 10, 11, 12, 13, 14, 15, 16, 17, 18, 19, 20].map .s⟩ (.seq (.seq (.reg [⟨none, (.mv (some 6) (.t 3))⟩,
    ⟨none, (.mv (some 7) (.t 0))⟩,
    ⟨none, (.ln 8 none (.t 7))⟩,
    ⟨none, (.ar 9 .lss (.t 6) (.t 8))⟩])
  (.cond (.t 9)
    .skip
    (.exit 0)))
  (.block 1 (.seq (.reg [⟨none, (.mv (some 11) (.t 0))⟩,
    ⟨none, (.mv (some 12) (.t 3))⟩,
    ⟨none, (.ca (some 13) 80 [(.t 11), (.t 12)])⟩,
    ⟨none, (.mv (some 10) (.t 13))⟩,
    ⟨none, (.ex 14 0 (.t 10))⟩,
    ⟨none, (.ex 15 1 (.t 10))⟩,
    ⟨none, (.mv (some 4) (.t 14))⟩,
    ⟨none, (.mv (some 5) (.t 15))⟩])
  (.seq (.seq (.reg [⟨none, (.mv (some 16) (.t 5))⟩,
    ⟨none, (.ar 17 .eql (.t 16) (.v (.int .i64 0)))⟩])
  (.cond (.t 17)
    (.seq (.reg [⟨none, (.mv (some 2) (.v (.bool false)))⟩])
  .ret)
    .skip))
  (.reg [⟨none, (.mv (some 18) (.t 3))⟩,
    ⟨none, (.mv (some 19) (.t 5))⟩,
    ⟨none, (.ar 20 .add (.t 18) (.t 19))⟩,
    ⟨none, (.mv (some 3) (.t 20))⟩])))))))
  (.seq (.reg [⟨none, (.mv (some 2) (.v (.bool true)))⟩])
  .ret))))
noncomputable def ent61 : TEnt := ⟨61, [.str], .bool, fun x => F61 x, .plain⟩
theorem eq61 (x : dens ent61.as) : ent61.F x = evF [ent80] SHF dc61 [(.tmp 2)] ent61.as ent61.rs x := by kernel_rfl
/-- library/libraryref07.digit -/
noncomputable def F59 (a0 : UInt8) : Option (Bool) :=
  cond (decide ((48 : Int) ≤ (UInt8.toNat a0 : Int)))
    (some (decide ((UInt8.toNat a0 : Int) ≤ (57 : Int))))
    (some false)
def dc59 : DC :=
  (.seq (.reg [⟨none, (.mv (some 2) (.v (.bool false)))⟩])
  (.seq (.reg [⟨none, (.mv (some 3) (.t 0))⟩,
    ⟨none, (.ar 4 .geq (.t 3) (.v (.int .u8 48)))⟩,
    ⟨none, (.mv (some 5) (.t 4))⟩,
    ⟨(some (5, true)), (.mv (some 6) (.t 0))⟩,
    ⟨(some (5, true)), (.ar 7 .leq (.t 6) (.v (.int .u8 57)))⟩,
    ⟨none, (.pick 8 (.t 5) (.t 7) (.v (.bool false)))⟩,
    ⟨none, (.mv (some 2) (.t 8))⟩])
  .ret))
noncomputable def ent59 : TEnt := ⟨59, [.byte], .bool, fun x => F59 x, .plain⟩
theorem eq59 (x : dens ent59.as) : ent59.F x = evF [] SHF dc59 [(.tmp 2)] ent59.as ent59.rs x := by kernel_rfl
/-- library/libraryref07.Tag -/
noncomputable def F58 (a0 : List UInt8) : Option (Bool) :=
  cond (decide ((List.length a0 : Int) = (3 : Int)))
    (gd (0 ≤ (0 : Int) ∧ (0 : Int) < (List.length a0 : Int)) <|
    bindO (F59 (List.getD a0 (Int.toNat (0 : Int)) 0)) fun y1 =>
    cond (y1)
      (gd (0 ≤ (1 : Int) ∧ (1 : Int) < (List.length a0 : Int)) <|
      bindO (F59 (List.getD a0 (Int.toNat (1 : Int)) 0)) fun y2 =>
      cond (y2)
        (gd (0 ≤ (2 : Int) ∧ (2 : Int) < (List.length a0 : Int)) <|
        bindO (F59 (List.getD a0 (Int.toNat (2 : Int)) 0)) fun y3 =>
        cond (y3)
          (some (!(Op.bytesLess a0 ([48, 49, 48] : List UInt8))))
          (some false))
        (some false))
      (some false))
    (some false)
def dc58 : DC :=
  (.seq (.reg [⟨none, (.mv (some 2) (.v (.bool false)))⟩])
  (.seq (.reg [⟨none, (.mv (some 3) (.t 0))⟩,
    ⟨none, (.ln 4 none (.t 3))⟩,
    ⟨none, (.ar 5 .eql (.t 4) (.v (.int .i64 3)))⟩,
    ⟨none, (.mv (some 6) (.t 5))⟩,
    ⟨(some (6, true)), (.mv (some 7) (.t 0))⟩,
    ⟨(some (6, true)), (.ix 8 (.t 7) (.v (.int .i64 0)))⟩,
    ⟨(some (6, true)), (.ca (some 9) 59 [(.t 8)])⟩,
    ⟨none, (.pick 10 (.t 6) (.t 9) (.v (.bool false)))⟩,
    ⟨none, (.mv (some 11) (.t 10))⟩,
    ⟨(some (11, true)), (.mv (some 12) (.t 0))⟩,
    ⟨(some (11, true)), (.ix 13 (.t 12) (.v (.int .i64 1)))⟩,
    ⟨(some (11, true)), (.ca (some 14) 59 [(.t 13)])⟩,
    ⟨none, (.pick 15 (.t 11) (.t 14) (.v (.bool false)))⟩,
    ⟨none, (.mv (some 16) (.t 15))⟩,
    ⟨(some (16, true)), (.mv (some 17) (.t 0))⟩,
    ⟨(some (16, true)), (.ix 18 (.t 17) (.v (.int .i64 2)))⟩,
    ⟨(some (16, true)), (.ca (some 19) 59 [(.t 18)])⟩,
    ⟨none, (.pick 20 (.t 16) (.t 19) (.v (.bool false)))⟩,
    ⟨none, (.mv (some 21) (.t 20))⟩,
    ⟨(some (21, true)), (.mv (some 22) (.t 0))⟩,
    ⟨(some (21, true)), (.ar 23 .geq (.t 22) (.v (.str [48, 49, 48])))⟩,
    ⟨none, (.pick 24 (.t 21) (.t 23) (.v (.bool false)))⟩,
    ⟨none, (.mv (some 2) (.t 24))⟩])
  .ret))
noncomputable def ent58 : TEnt := ⟨58, [.str], .bool, fun x => F58 x, .plain⟩
theorem eq58 (x : dens ent58.as) : ent58.F x = evF [ent59] SHF dc58 [(.tmp 2)] ent58.as ent58.rs x := by kernel_rfl
/-- library/libraryref07.Code -/
noncomputable def F60 (a0 : UInt8) : Option (Bool) :=
  bindO (F59 a0) fun y1 =>
  cond (y1)
    (some true)
    (cond (decide ((97 : Int) ≤ (UInt8.toNat a0 : Int)))
      (some (decide ((UInt8.toNat a0 : Int) ≤ (122 : Int))))
      (some false))
def dc60 : DC :=
  (.seq (.reg [⟨none, (.mv (some 2) (.v (.bool false)))⟩])
  (.seq (.reg [⟨none, (.mv (some 3) (.t 0))⟩,
    ⟨none, (.ca (some 4) 59 [(.t 3)])⟩,
    ⟨none, (.mv (some 5) (.t 4))⟩,
    ⟨(some (5, false)), (.mv (some 6) (.t 0))⟩,
    ⟨(some (5, false)), (.ar 7 .geq (.t 6) (.v (.int .u8 97)))⟩,
    ⟨(some (5, false)), (.mv (some 8) (.t 7))⟩,
    ⟨(some (8, true)), (.mv (some 9) (.t 0))⟩,
    ⟨(some (8, true)), (.ar 10 .leq (.t 9) (.v (.int .u8 122)))⟩,
    ⟨(some (5, false)), (.pick 11 (.t 8) (.t 10) (.v (.bool false)))⟩,
    ⟨none, (.pick 12 (.t 5) (.v (.bool true)) (.t 11))⟩,
    ⟨none, (.mv (some 2) (.t 12))⟩])
  .ret))
noncomputable def ent60 : TEnt := ⟨60, [.byte], .bool, fun x => F60 x, .plain⟩
theorem eq60 (x : dens ent60.as) : ent60.F x = evF [ent59] SHF dc60 [(.tmp 2)] ent60.as ent60.rs x := by kernel_rfl
/-- library/libraryref07.Right -/
noncomputable def F39 (a0 : List UInt8 × List UInt8 × (List (UInt8 × List UInt8)) × Int) : Option (Int) :=
  bindO (F58 a0.1) fun y1 =>
  cond (!y1)
    (some (6 : Int))
    (jn (σ := Unit) (fun nextj2 =>
      cond (!decide ((List.length a0.2.1 : Int) = (2 : Int)))
        (some (3 : Int))
        (gd (0 ≤ (0 : Int) ∧ (0 : Int) < (List.length a0.2.1 : Int)) <|
        cond (!decide ((UInt8.toNat (List.getD a0.2.1 (Int.toNat (0 : Int)) 0) : Int) = (32 : Int)))
          (gd (0 ≤ (0 : Int) ∧ (0 : Int) < (List.length a0.2.1 : Int)) <|
          bindO (F59 (List.getD a0.2.1 (Int.toNat (0 : Int)) 0)) fun y3 =>
          cond (!y3)
            (some (3 : Int))
            (gd (0 ≤ (1 : Int) ∧ (1 : Int) < (List.length a0.2.1 : Int)) <|
            cond (!decide ((UInt8.toNat (List.getD a0.2.1 (Int.toNat (1 : Int)) 0) : Int) = (32 : Int)))
              (gd (0 ≤ (1 : Int) ∧ (1 : Int) < (List.length a0.2.1 : Int)) <|
              bindO (F59 (List.getD a0.2.1 (Int.toNat (1 : Int)) 0)) fun y4 =>
              cond (!y4)
                (some (3 : Int))
                (nextj2 ()))
              (nextj2 ())))
          (gd (0 ≤ (1 : Int) ∧ (1 : Int) < (List.length a0.2.1 : Int)) <|
          cond (!decide ((UInt8.toNat (List.getD a0.2.1 (Int.toNat (1 : Int)) 0) : Int) = (32 : Int)))
            (gd (0 ≤ (1 : Int) ∧ (1 : Int) < (List.length a0.2.1 : Int)) <|
            bindO (F59 (List.getD a0.2.1 (Int.toNat (1 : Int)) 0)) fun y5 =>
            cond (!y5)
              (some (3 : Int))
              (nextj2 ()))
            (nextj2 ())))) fun j2 =>
    cond (decide ((List.length a0.2.2.1 : Int) = (0 : Int)))
      (some (8 : Int))
      (cond (decide ((16 : Int) < (List.length a0.2.2.1 : Int)))
        (some (4 : Int))
        (loopK (σ := Int) (fun p6 againp6 =>
          cond (decide (p6 < (List.length a0.2.2.1 : Int)))
            (gd (0 ≤ p6 ∧ p6 < (List.length a0.2.2.1 : Int)) <|
            bindO (F60 ((List.getD a0.2.2.1 (Int.toNat p6) (0, [])).1)) fun y7 =>
            cond (!y7)
              (some (1 : Int))
              (cond (decide ((List.getD a0.2.2.1 (Int.toNat p6) (0, [])).2 = ([] : List UInt8)))
                (some (8 : Int))
                (bindO (F61 ((List.getD a0.2.2.1 (Int.toNat p6) (0, [])).2)) fun y8 =>
                cond (!y8)
                  (some (3 : Int))
                  (cond (decide ((200 : Int) < (List.length ((List.getD a0.2.2.1 (Int.toNat p6) (0, [])).2) : Int)))
                    (some (4 : Int))
                    (bnd (IntKind.wrap .i64 (p6 + (1 : Int))) fun x9 =>
                    againp6 x9)))))
            (cond (decide (a0.2.2.2 < (0 : Int)))
              (some (2 : Int))
              (cond (decide ((9999 : Int) < a0.2.2.2))
                (some (2 : Int))
                (some (0 : Int))))) (0 : Int))))
def dc39 : DC :=
  (.seq (.reg [⟨none, (.bx 1 (some 49) (.t 0))⟩,
    ⟨none, (.mv (some 2) (.v (.int .i64 0)))⟩])
  (.seq (.seq (.reg [⟨none, (.fa 5 49 0 (.t 1))⟩,
    ⟨none, (.ld 6 none (.t 5))⟩,
    ⟨none, (.ca (some 7) 58 [(.t 6)])⟩,
    ⟨none, (.un 8 .not (.t 7))⟩])
  (.cond (.t 8)
    (.seq (.reg [⟨none, (.mv (some 2) (.v (.int .i64 6)))⟩])
  .ret)
    .skip))
  (.jn ⟨[], [], [9, 10, 11, 12, 13, 14, 15, 16, 17, 18, 19, 20, 21, 22, 23, 24, 25, 26, 27, 28, 29, 30, 31, 32, 33, 34, 35, 36, 37, 38].map .s⟩ (.seq (.reg [⟨none, (.fa 9 49 1 (.t 1))⟩,
    ⟨none, (.ld 10 none (.t 9))⟩,
    ⟨none, (.ln 11 none (.t 10))⟩,
    ⟨none, (.ar 12 .neq (.t 11) (.v (.int .i64 2)))⟩,
    ⟨none, (.mv (some 13) (.t 12))⟩,
    ⟨(some (13, false)), (.fa 14 49 1 (.t 1))⟩,
    ⟨(some (13, false)), (.ld 15 none (.t 14))⟩,
    ⟨(some (13, false)), (.ix 16 (.t 15) (.v (.int .i64 0)))⟩,
    ⟨(some (13, false)), (.ar 17 .neq (.t 16) (.v (.int .u8 32)))⟩,
    ⟨(some (13, false)), (.mv (some 18) (.t 17))⟩,
    ⟨(some (18, true)), (.fa 19 49 1 (.t 1))⟩,
    ⟨(some (18, true)), (.ld 20 none (.t 19))⟩,
    ⟨(some (18, true)), (.ix 21 (.t 20) (.v (.int .i64 0)))⟩,
    ⟨(some (18, true)), (.ca (some 22) 59 [(.t 21)])⟩,
    ⟨(some (18, true)), (.un 23 .not (.t 22))⟩,
    ⟨(some (13, false)), (.pick 24 (.t 18) (.t 23) (.v (.bool false)))⟩,
    ⟨none, (.pick 25 (.t 13) (.v (.bool true)) (.t 24))⟩,
    ⟨none, (.mv (some 26) (.t 25))⟩,
    ⟨(some (26, false)), (.fa 27 49 1 (.t 1))⟩,
    ⟨(some (26, false)), (.ld 28 none (.t 27))⟩,
    ⟨(some (26, false)), (.ix 29 (.t 28) (.v (.int .i64 1)))⟩,
    ⟨(some (26, false)), (.ar 30 .neq (.t 29) (.v (.int .u8 32)))⟩,
    ⟨(some (26, false)), (.mv (some 31) (.t 30))⟩,
    ⟨(some (31, true)), (.fa 32 49 1 (.t 1))⟩,
    ⟨(some (31, true)), (.ld 33 none (.t 32))⟩,
    ⟨(some (31, true)), (.ix 34 (.t 33) (.v (.int .i64 1)))⟩,
    ⟨(some (31, true)), (.ca (some 35) 59 [(.t 34)])⟩,
    ⟨(some (31, true)), (.un 36 .not (.t 35))⟩,
    ⟨(some (26, false)), (.pick 37 (.t 31) (.t 36) (.v (.bool false)))⟩,
    ⟨none, (.pick 38 (.t 26) (.v (.bool true)) (.t 37))⟩])
  (.cond (.t 38)
    (.seq (.reg [⟨none, (.mv (some 2) (.v (.int .i64 3)))⟩])
  .ret)
    .skip))
  (.seq (.seq (.reg [⟨none, (.fa 39 49 2 (.t 1))⟩,
    ⟨none, (.ld 40 none (.t 39))⟩,
    ⟨none, (.ln 41 (some 46) (.t 40))⟩,
    ⟨none, (.ar 42 .eql (.t 41) (.v (.int .i64 0)))⟩])
  (.cond (.t 42)
    (.seq (.reg [⟨none, (.mv (some 2) (.v (.int .i64 8)))⟩])
  .ret)
    .skip))
  (.seq (.seq (.reg [⟨none, (.fa 43 49 2 (.t 1))⟩,
    ⟨none, (.ld 44 none (.t 43))⟩,
    ⟨none, (.ln 45 (some 46) (.t 44))⟩,
    ⟨none, (.ar 46 .gtr (.t 45) (.v (.int .i64 16)))⟩])
  (.cond (.t 46)
    (.seq (.reg [⟨none, (.mv (some 2) (.v (.int .i64 4)))⟩])
  .ret)
    .skip))
  (.seq (.seq (.reg [⟨none, (.mv (some 3) (.v (.int .i64 0)))⟩])
  (.block 0 (.loop ⟨[(3, (.lf (.int .i64)))], [], [2, 4, 47, 48, 49, 50, 51, 52, 53, 54, 55, 56, 57, 58, 59, 60, 61, 62, 63, 64, 65, 66, 67, 68, 69, 70, 71, 72, 73].map .s ++ [4].map .b⟩ (.seq (.seq (.reg [⟨none, (.mv (some 47) (.t 3))⟩,
    ⟨none, (.fa 48 49 2 (.t 1))⟩,
    ⟨none, (.ld 49 none (.t 48))⟩,
    ⟨none, (.ln 50 (some 46) (.t 49))⟩,
    ⟨none, (.ar 51 .lss (.t 47) (.t 50))⟩])
  (.cond (.t 51)
    .skip
    (.exit 0)))
  (.seq (.block 1 (.seq (.reg [⟨none, (.fa 54 49 2 (.t 1))⟩,
    ⟨none, (.ld 55 none (.t 54))⟩,
    ⟨none, (.mv (some 56) (.t 3))⟩,
    ⟨none, (.ea 57 46 (.t 55) (.t 56))⟩,
    ⟨none, (.ld 58 (some 46) (.t 57))⟩,
    ⟨none, (.al 4 (.agg 46 [(.int .u8 0), (.str [])]))⟩,
    ⟨none, (.st (some 46) (.t 4) (.t 58))⟩])
  (.seq (.seq (.reg [⟨none, (.fa 59 46 0 (.t 4))⟩,
    ⟨none, (.ld 60 none (.t 59))⟩,
    ⟨none, (.ca (some 61) 60 [(.t 60)])⟩,
    ⟨none, (.un 62 .not (.t 61))⟩])
  (.cond (.t 62)
    (.seq (.reg [⟨none, (.mv (some 2) (.v (.int .i64 1)))⟩])
  .ret)
    .skip))
  (.seq (.seq (.reg [⟨none, (.fa 63 46 1 (.t 4))⟩,
    ⟨none, (.ld 64 none (.t 63))⟩,
    ⟨none, (.ar 65 .eql (.t 64) (.v (.str [])))⟩])
  (.cond (.t 65)
    (.seq (.reg [⟨none, (.mv (some 2) (.v (.int .i64 8)))⟩])
  .ret)
    .skip))
  (.seq (.seq (.reg [⟨none, (.fa 66 46 1 (.t 4))⟩,
    ⟨none, (.ld 67 none (.t 66))⟩,
    ⟨none, (.ca (some 68) 61 [(.t 67)])⟩,
    ⟨none, (.un 69 .not (.t 68))⟩])
  (.cond (.t 69)
    (.seq (.reg [⟨none, (.mv (some 2) (.v (.int .i64 3)))⟩])
  .ret)
    .skip))
  (.seq (.reg [⟨none, (.fa 70 46 1 (.t 4))⟩,
    ⟨none, (.ld 71 none (.t 70))⟩,
    ⟨none, (.ln 72 none (.t 71))⟩,
    ⟨none, (.ar 73 .gtr (.t 72) (.v (.int .i64 200)))⟩])
  (.cond (.t 73)
    (.seq (.reg [⟨none, (.mv (some 2) (.v (.int .i64 4)))⟩])
  .ret)
    .skip)))))))
  (.reg [⟨none, (.mv (some 52) (.t 3))⟩,
    ⟨none, (.ar 53 .add (.t 52) (.v (.int .i64 1)))⟩,
    ⟨none, (.mv (some 3) (.t 53))⟩]))))))
  (.seq (.seq (.reg [⟨none, (.fa 74 49 3 (.t 1))⟩,
    ⟨none, (.ld 75 none (.t 74))⟩,
    ⟨none, (.ar 76 .lss (.t 75) (.v (.int .i64 0)))⟩,
    ⟨none, (.mv (some 77) (.t 76))⟩,
    ⟨(some (77, false)), (.fa 78 49 3 (.t 1))⟩,
    ⟨(some (77, false)), (.ld 79 none (.t 78))⟩,
    ⟨(some (77, false)), (.ar 80 .gtr (.t 79) (.v (.int .i64 9999)))⟩,
    ⟨none, (.pick 81 (.t 77) (.v (.bool true)) (.t 80))⟩])
  (.cond (.t 81)
    (.seq (.reg [⟨none, (.mv (some 2) (.v (.int .i64 2)))⟩])
  .ret)
    .skip))
  (.seq (.reg [⟨none, (.mv (some 2) (.v (.int .i64 0)))⟩])
  .ret))))))))
noncomputable def ent39 : TEnt := ⟨39, [(.agg 49 (.pair .str (.pair .str (.pair (.sl 46 (.agg 46 (.pair .byte .str))) (.int .i64)))))], (.int .i64), fun x => F39 x, .plain⟩
theorem eq39 (x : dens ent39.as) : ent39.F x = evF [ent58, ent59, ent60, ent61] SHF dc39 [(.tmp 2)] ent39.as ent39.rs x := by kernel_rfl
/-- library/libraryref08.Right -/
noncomputable def F26 (a0 : Int × Int × Int × List UInt8 × List (List UInt8 × List UInt8 × (List (UInt8 × List UInt8)) × Int)) : Option (Int) :=
  cond (decide (a0.1 < (0 : Int)))
    (some (2 : Int))
    (cond (decide ((9999 : Int) < a0.1))
      (some (2 : Int))
      (cond (decide (a0.2.1 < (1 : Int)))
        (some (20 : Int))
        (cond (decide ((3 : Int) < a0.2.1))
          (some (20 : Int))
          (cond (decide (a0.2.2.1 < (1 : Int)))
            (some (1 : Int))
            (cond (decide ((4 : Int) < a0.2.2.1))
              (some (1 : Int))
              (cond (!decide ((List.length a0.2.2.2.1 : Int) = (3 : Int)))
                (some (3 : Int))
                (loopK (σ := Int) (fun p1 againp1 =>
                  cond (decide (p1 < (3 : Int)))
                    (gd (0 ≤ p1 ∧ p1 < (List.length a0.2.2.2.1 : Int)) <|
                    cond (decide ((UInt8.toNat (List.getD a0.2.2.2.1 (Int.toNat p1) 0) : Int) < (97 : Int)))
                      (some (3 : Int))
                      (gd (0 ≤ p1 ∧ p1 < (List.length a0.2.2.2.1 : Int)) <|
                      cond (decide ((122 : Int) < (UInt8.toNat (List.getD a0.2.2.2.1 (Int.toNat p1) 0) : Int)))
                        (some (3 : Int))
                        (bnd (IntKind.wrap .i64 (p1 + (1 : Int))) fun x2 =>
                        againp1 x2)))
                    (cond (decide ((64 : Int) < (List.length a0.2.2.2.2 : Int)))
                      (some (4 : Int))
                      (loopK (σ := Int) (fun p3 againp3 =>
                        cond (decide (p3 < (List.length a0.2.2.2.2 : Int)))
                          (gd (0 ≤ p3 ∧ p3 < (List.length a0.2.2.2.2 : Int)) <|
                          bindO (F39 (List.getD a0.2.2.2.2 (Int.toNat p3) ([], ([], ([], 0))))) fun y4 =>
                          cond (!decide (y4 = (0 : Int)))
                            (some y4)
                            (bnd (IntKind.wrap .i64 (p3 + (1 : Int))) fun x5 =>
                            againp3 x5))
                          (some (0 : Int))) (0 : Int)))) (0 : Int))))))))
def dc26 : DC :=
  (.seq (.reg [⟨none, (.bx 1 (some 24) (.t 0))⟩,
    ⟨none, (.mv (some 2) (.v (.int .i64 0)))⟩])
  (.seq (.seq (.reg [⟨none, (.fa 6 24 0 (.t 1))⟩,
    ⟨none, (.ld 7 none (.t 6))⟩,
    ⟨none, (.ar 8 .lss (.t 7) (.v (.int .i64 0)))⟩,
    ⟨none, (.mv (some 9) (.t 8))⟩,
    ⟨(some (9, false)), (.fa 10 24 0 (.t 1))⟩,
    ⟨(some (9, false)), (.ld 11 none (.t 10))⟩,
    ⟨(some (9, false)), (.ar 12 .gtr (.t 11) (.v (.int .i64 9999)))⟩,
    ⟨none, (.pick 13 (.t 9) (.v (.bool true)) (.t 12))⟩])
  (.cond (.t 13)
    (.seq (.reg [⟨none, (.mv (some 2) (.v (.int .i64 2)))⟩])
  .ret)
    .skip))
  (.seq (.seq (.reg [⟨none, (.fa 14 24 1 (.t 1))⟩,
    ⟨none, (.ld 15 none (.t 14))⟩,
    ⟨none, (.ar 16 .lss (.t 15) (.v (.int .i64 1)))⟩,
    ⟨none, (.mv (some 17) (.t 16))⟩,
    ⟨(some (17, false)), (.fa 18 24 1 (.t 1))⟩,
    ⟨(some (17, false)), (.ld 19 none (.t 18))⟩,
    ⟨(some (17, false)), (.ar 20 .gtr (.t 19) (.v (.int .i64 3)))⟩,
    ⟨none, (.pick 21 (.t 17) (.v (.bool true)) (.t 20))⟩])
  (.cond (.t 21)
    (.seq (.reg [⟨none, (.mv (some 2) (.v (.int .i64 20)))⟩])
  .ret)
    .skip))
  (.seq (.seq (.reg [⟨none, (.fa 22 24 2 (.t 1))⟩,
    ⟨none, (.ld 23 none (.t 22))⟩,
    ⟨none, (.ar 24 .lss (.t 23) (.v (.int .i64 1)))⟩,
    ⟨none, (.mv (some 25) (.t 24))⟩,
    ⟨(some (25, false)), (.fa 26 24 2 (.t 1))⟩,
    ⟨(some (25, false)), (.ld 27 none (.t 26))⟩,
    ⟨(some (25, false)), (.ar 28 .gtr (.t 27) (.v (.int .i64 4)))⟩,
    ⟨none, (.pick 29 (.t 25) (.v (.bool true)) (.t 28))⟩])
  (.cond (.t 29)
    (.seq (.reg [⟨none, (.mv (some 2) (.v (.int .i64 1)))⟩])
  .ret)
    .skip))
  (.seq (.seq (.reg [⟨none, (.fa 30 24 3 (.t 1))⟩,
    ⟨none, (.ld 31 none (.t 30))⟩,
    ⟨none, (.ln 32 none (.t 31))⟩,
    ⟨none, (.ar 33 .neq (.t 32) (.v (.int .i64 3)))⟩])
  (.cond (.t 33)
    (.seq (.reg [⟨none, (.mv (some 2) (.v (.int .i64 3)))⟩])
  .ret)
    .skip))
  (.seq (.seq (.reg [⟨none, (.mv (some 3) (.v (.int .i64 0)))⟩])
  (.block 0 (.loop ⟨[(3, (.lf (.int .i64)))], [], [2, 34, 35, 36, 37, 38, 39, 40, 41, 42, 43, 44, 45, 46, 47, 48, 49].map .s⟩ (.seq (.seq (.reg [⟨none, (.mv (some 34) (.t 3))⟩,
    ⟨none, (.ar 35 .lss (.t 34) (.v (.int .i64 3)))⟩])
  (.cond (.t 35)
    .skip
    (.exit 0)))
  (.seq (.block 1 (.seq (.reg [⟨none, (.fa 38 24 3 (.t 1))⟩,
    ⟨none, (.ld 39 none (.t 38))⟩,
    ⟨none, (.mv (some 40) (.t 3))⟩,
    ⟨none, (.ix 41 (.t 39) (.t 40))⟩,
    ⟨none, (.ar 42 .lss (.t 41) (.v (.int .u8 97)))⟩,
    ⟨none, (.mv (some 43) (.t 42))⟩,
    ⟨(some (43, false)), (.fa 44 24 3 (.t 1))⟩,
    ⟨(some (43, false)), (.ld 45 none (.t 44))⟩,
    ⟨(some (43, false)), (.mv (some 46) (.t 3))⟩,
    ⟨(some (43, false)), (.ix 47 (.t 45) (.t 46))⟩,
    ⟨(some (43, false)), (.ar 48 .gtr (.t 47) (.v (.int .u8 122)))⟩,
    ⟨none, (.pick 49 (.t 43) (.v (.bool true)) (.t 48))⟩])
  (.cond (.t 49)
    (.seq (.reg [⟨none, (.mv (some 2) (.v (.int .i64 3)))⟩])
  .ret)
    .skip)))
  (.reg [⟨none, (.mv (some 36) (.t 3))⟩,
    ⟨none, (.ar 37 .add (.t 36) (.v (.int .i64 1)))⟩,
    ⟨none, (.mv (some 3) (.t 37))⟩]))))))
  (.seq (.seq (.reg [⟨none, (.fa 50 24 4 (.t 1))⟩,
    ⟨none, (.ld 51 none (.t 50))⟩,
    ⟨none, (.ln 52 (some 49) (.t 51))⟩,
    ⟨none, (.ar 53 .gtr (.t 52) (.v (.int .i64 64)))⟩])
  (.cond (.t 53)
    (.seq (.reg [⟨none, (.mv (some 2) (.v (.int .i64 4)))⟩])
  .ret)
    .skip))
  (.seq (.seq (.reg [⟨none, (.mv (some 4) (.v (.int .i64 0)))⟩])
  (.block 2 (.loop ⟨[(4, (.lf (.int .i64)))], [], [2, 5, 54, 55, 56, 57, 58, 59, 60, 61, 62, 63, 64, 65, 66, 67, 68, 69].map .s⟩ (.seq (.seq (.reg [⟨none, (.mv (some 54) (.t 4))⟩,
    ⟨none, (.fa 55 24 4 (.t 1))⟩,
    ⟨none, (.ld 56 none (.t 55))⟩,
    ⟨none, (.ln 57 (some 49) (.t 56))⟩,
    ⟨none, (.ar 58 .lss (.t 54) (.t 57))⟩])
  (.cond (.t 58)
    .skip
    (.exit 2)))
  (.seq (.block 3 (.seq (.reg [⟨none, (.fa 61 24 4 (.t 1))⟩,
    ⟨none, (.ld 62 none (.t 61))⟩,
    ⟨none, (.mv (some 63) (.t 4))⟩,
    ⟨none, (.ea 64 49 (.t 62) (.t 63))⟩,
    ⟨none, (.ld 65 (some 49) (.t 64))⟩,
    ⟨none, (.ca (some 66) 39 [(.t 65)])⟩,
    ⟨none, (.mv (some 5) (.t 66))⟩])
  (.seq (.reg [⟨none, (.mv (some 67) (.t 5))⟩,
    ⟨none, (.ar 68 .neq (.t 67) (.v (.int .i64 0)))⟩])
  (.cond (.t 68)
    (.seq (.reg [⟨none, (.mv (some 69) (.t 5))⟩,
    ⟨none, (.mv (some 2) (.t 69))⟩])
  .ret)
    .skip))))
  (.reg [⟨none, (.mv (some 59) (.t 4))⟩,
    ⟨none, (.ar 60 .add (.t 59) (.v (.int .i64 1)))⟩,
    ⟨none, (.mv (some 4) (.t 60))⟩]))))))
  (.seq (.reg [⟨none, (.mv (some 2) (.v (.int .i64 0)))⟩])
  .ret)))))))))
noncomputable def ent26 : TEnt := ⟨26, [(.agg 24 (.pair (.int .i64) (.pair (.int .i64) (.pair (.int .i64) (.pair .str (.sl 49 (.agg 49 (.pair .str (.pair .str (.pair (.sl 46 (.agg 46 (.pair .byte .str))) (.int .i64)))))))))))], (.int .i64), fun x => F26 x, .plain⟩
theorem eq26 (x : dens ent26.as) : ent26.F x = evF [ent39] SHF dc26 [(.tmp 2)] ent26.as ent26.rs x := by kernel_rfl
/-- library/libraryref01.Digits -/
noncomputable def F27 (a0 : Int) (a1 : Int) : Option (List UInt8) :=
  loopK (σ := Int × List UInt8) (fun p1 againp1 =>
    jn (σ := Unit) (fun nextj2 =>
      cond (decide ((0 : Int) < p1.1))
        (nextj2 ())
        (cond (decide (p1.2 = ([] : List UInt8)))
          (nextj2 ())
          (loopK (σ := List UInt8) (fun p3 againp3 =>
            cond (decide ((List.length p3 : Int) < a1))
              (gd (List.length ([48] : List UInt8) + List.length p3 ≤ big) <|
              bnd (([48] : List UInt8) ++ p3) fun x4 =>
              againp3 x4)
              (some p3)) p1.2))) fun j2 =>
    gd ((10 : Int) ≠ 0) <|
    bnd (Int.tmod p1.1 (10 : Int)) fun x5 =>
    gd ((10 : Int) ≠ 0) <|
    bnd (Int.tmod p1.1 (10 : Int)) fun x6 =>
    bnd (IntKind.wrap .i64 (x6 + (1 : Int))) fun x7 =>
    gd (0 ≤ x5 ∧ x5 ≤ x7 ∧ x7 ≤ (List.length ([48, 49, 50, 51, 52, 53, 54, 55, 56, 57] : List UInt8) : Int)) <|
    bnd (List.drop (Int.toNat x5) (List.take (Int.toNat x7) ([48, 49, 50, 51, 52, 53, 54, 55, 56, 57] : List UInt8))) fun x8 =>
    gd (List.length x8 + List.length p1.2 ≤ big) <|
    bnd (x8 ++ p1.2) fun x9 =>
    gd ((10 : Int) ≠ 0) <|
    bnd (IntKind.wrap .i64 (Int.tdiv p1.1 (10 : Int))) fun x10 =>
    againp1 (x10, x9)) (a0, ([] : List UInt8))
def dc27 : DC :=
  (.seq (.reg [⟨none, (.mv (some 4) (.v (.str [])))⟩])
  (.seq (.reg [⟨none, (.mv (some 5) (.v (.str [48, 49, 50, 51, 52, 53, 54, 55, 56, 57])))⟩])
  (.seq (.reg [⟨none, (.mv (some 6) (.v (.str [])))⟩])
  (.seq (.block 0 (.loop ⟨[(0, (.lf (.int .i64))), (6, (.lf .str))], [], [7, 8, 9, 10, 11, 12, 13, 14, 15, 16, 17, 18, 19, 20, 21, 22, 23].map .s⟩ (.jn ⟨[], [], [7, 8, 9, 10, 11, 12].map .s⟩ (.seq (.reg [⟨none, (.mv (some 7) (.t 0))⟩,
    ⟨none, (.ar 8 .gtr (.t 7) (.v (.int .i64 0)))⟩,
    ⟨none, (.mv (some 9) (.t 8))⟩,
    ⟨(some (9, false)), (.mv (some 10) (.t 6))⟩,
    ⟨(some (9, false)), (.ar 11 .eql (.t 10) (.v (.str [])))⟩,
    ⟨none, (.pick 12 (.t 9) (.v (.bool true)) (.t 11))⟩])
  (.cond (.t 12)
    .skip
    (.exit 0)))
  (.block 1 (.seq (.reg [⟨none, (.mv (some 13) (.t 5))⟩,
    ⟨none, (.mv (some 14) (.t 0))⟩,
    ⟨none, (.ar 15 .rem (.t 14) (.v (.int .i64 10)))⟩,
    ⟨none, (.mv (some 16) (.t 0))⟩,
    ⟨none, (.ar 17 .rem (.t 16) (.v (.int .i64 10)))⟩,
    ⟨none, (.ar 18 .add (.t 17) (.v (.int .i64 1)))⟩,
    ⟨none, (.sc 19 none (.t 13) (some (.t 15)) (some (.t 18)))⟩,
    ⟨none, (.mv (some 20) (.t 6))⟩,
    ⟨none, (.ar 21 .add (.t 19) (.t 20))⟩,
    ⟨none, (.mv (some 6) (.t 21))⟩])
  (.reg [⟨none, (.mv (some 22) (.t 0))⟩,
    ⟨none, (.ar 23 .quo (.t 22) (.v (.int .i64 10)))⟩,
    ⟨none, (.mv (some 0) (.t 23))⟩]))))))
  (.seq (.block 2 (.loop ⟨[(6, (.lf .str))], [], [24, 25, 26, 27, 28, 29].map .s⟩ (.seq (.seq (.reg [⟨none, (.mv (some 24) (.t 6))⟩,
    ⟨none, (.ln 25 none (.t 24))⟩,
    ⟨none, (.mv (some 26) (.t 1))⟩,
    ⟨none, (.ar 27 .lss (.t 25) (.t 26))⟩])
  (.cond (.t 27)
    .skip
    (.exit 2)))
  (.block 3 (.reg [⟨none, (.mv (some 28) (.t 6))⟩,
    ⟨none, (.ar 29 .add (.v (.str [48])) (.t 28))⟩,
    ⟨none, (.mv (some 6) (.t 29))⟩])))))
  (.seq (.reg [⟨none, (.mv (some 30) (.t 6))⟩,
    ⟨none, (.mv (some 4) (.t 30))⟩])
  .ret))))))
noncomputable def ent27 : TEnt := ⟨27, [(.int .i64), (.int .i64)], .str, fun x => F27 x.1 x.2, .plain⟩
theorem eq27 (x : dens ent27.as) : ent27.F x = evF [] SHF dc27 [(.tmp 4)] ent27.as ent27.rs x := by kernel_rfl
/-- library/libraryref10.Encode -/
noncomputable def F10 (a0 : Int × Int × Int × List UInt8 × List (List UInt8 × List UInt8 × (List (UInt8 × List UInt8)) × Int)) : Option (List UInt8 × Int) :=
  bindO (F26 a0) fun y1 =>
  cond (!decide (y1 = (0 : Int)))
    (some (([] : List UInt8), y1))
    (loopK (σ := List UInt8 × List UInt8 × Int) (fun p2 againp2 =>
      cond (decide (p2.2.2 < (List.length a0.2.2.2.2 : Int)))
        (gd (0 ≤ p2.2.2 ∧ p2.2.2 < (List.length a0.2.2.2.2 : Int)) <|
        bindO (F27 ((List.getD a0.2.2.2.2 (Int.toNat p2.2.2) ([], ([], ([], 0)))).2.2.2) (4 : Int)) fun y3 =>
        gd (List.length ((List.getD a0.2.2.2.2 (Int.toNat p2.2.2) ([], ([], ([], 0)))).2.1) + List.length y3 ≤ big) <|
        bnd (((List.getD a0.2.2.2.2 (Int.toNat p2.2.2) ([], ([], ([], 0)))).2.1) ++ y3) fun x4 =>
        loopK (σ := List UInt8 × Int) (fun p5 againp5 =>
          cond (decide (p5.2 < (List.length ((List.getD a0.2.2.2.2 (Int.toNat p2.2.2) ([], ([], ([], 0)))).2.2.1) : Int)))
            (gd (List.length p5.1 + List.length ([31] : List UInt8) ≤ big) <|
            bnd (p5.1 ++ ([31] : List UInt8)) fun x6 =>
            gd (0 ≤ p5.2 ∧ p5.2 < (List.length ((List.getD a0.2.2.2.2 (Int.toNat p2.2.2) ([], ([], ([], 0)))).2.2.1) : Int)) <|
            gd (List.length x6 + List.length [(List.getD ((List.getD a0.2.2.2.2 (Int.toNat p2.2.2) ([], ([], ([], 0)))).2.2.1) (Int.toNat p5.2) (0, [])).1] ≤ big) <|
            bnd (x6 ++ [(List.getD ((List.getD a0.2.2.2.2 (Int.toNat p2.2.2) ([], ([], ([], 0)))).2.2.1) (Int.toNat p5.2) (0, [])).1]) fun x7 =>
            gd (0 ≤ p5.2 ∧ p5.2 < (List.length ((List.getD a0.2.2.2.2 (Int.toNat p2.2.2) ([], ([], ([], 0)))).2.2.1) : Int)) <|
            gd (List.length x7 + List.length ((List.getD ((List.getD a0.2.2.2.2 (Int.toNat p2.2.2) ([], ([], ([], 0)))).2.2.1) (Int.toNat p5.2) (0, [])).2) ≤ big) <|
            bnd (x7 ++ ((List.getD ((List.getD a0.2.2.2.2 (Int.toNat p2.2.2) ([], ([], ([], 0)))).2.2.1) (Int.toNat p5.2) (0, [])).2)) fun x8 =>
            bnd (IntKind.wrap .i64 (p5.2 + (1 : Int))) fun x9 =>
            againp5 (x8, x9))
            (gd (List.length p5.1 + List.length ([30] : List UInt8) ≤ big) <|
            bnd (p5.1 ++ ([30] : List UInt8)) fun x10 =>
            gd (List.length p2.1 + List.length ((List.getD a0.2.2.2.2 (Int.toNat p2.2.2) ([], ([], ([], 0)))).1) ≤ big) <|
            bnd (p2.1 ++ ((List.getD a0.2.2.2.2 (Int.toNat p2.2.2) ([], ([], ([], 0)))).1)) fun x11 =>
            bindO (F27 (List.length x10 : Int) (4 : Int)) fun y12 =>
            gd (List.length x11 + List.length y12 ≤ big) <|
            bnd (x11 ++ y12) fun x13 =>
            bindO (F27 (List.length p2.2.1 : Int) (5 : Int)) fun y14 =>
            gd (List.length x13 + List.length y14 ≤ big) <|
            bnd (x13 ++ y14) fun x15 =>
            gd (List.length p2.2.1 + List.length x10 ≤ big) <|
            bnd (p2.2.1 ++ x10) fun x16 =>
            bnd (IntKind.wrap .i64 (p2.2.2 + (1 : Int))) fun x17 =>
            againp2 (x15, x16, x17))) (x4, (0 : Int)))
        (bnd (IntKind.wrap .i64 ((24 : Int) + (List.length p2.1 : Int))) fun x18 =>
        bnd (IntKind.wrap .i64 (x18 + (1 : Int))) fun x19 =>
        bnd (IntKind.wrap .i64 (x19 + (List.length p2.2.1 : Int))) fun x20 =>
        bnd (IntKind.wrap .i64 (x20 + (1 : Int))) fun x21 =>
        cond (decide ((9999 : Int) < x21))
          (some (([] : List UInt8), (4 : Int)))
          (bindO (F27 x21 (5 : Int)) fun y22 =>
          gd (List.length y22 + List.length ([110] : List UInt8) ≤ big) <|
          bnd (y22 ++ ([110] : List UInt8)) fun x23 =>
          bnd (IntKind.wrap .i64 (a0.2.2.1 - (1 : Int))) fun x24 =>
          gd (0 ≤ x24 ∧ x24 ≤ a0.2.2.1 ∧ a0.2.2.1 ≤ (List.length ([98, 115, 109, 100] : List UInt8) : Int)) <|
          bnd (List.drop (Int.toNat x24) (List.take (Int.toNat a0.2.2.1) ([98, 115, 109, 100] : List UInt8))) fun x25 =>
          gd (List.length x23 + List.length x25 ≤ big) <|
          bnd (x23 ++ x25) fun x26 =>
          bindO (F27 a0.2.1 (1 : Int)) fun y27 =>
          gd (List.length x26 + List.length y27 ≤ big) <|
          bnd (x26 ++ y27) fun x28 =>
          gd (List.length x28 + List.length a0.2.2.2.1 ≤ big) <|
          bnd (x28 ++ a0.2.2.2.1) fun x29 =>
          bindO (F27 x19 (5 : Int)) fun y30 =>
          gd (List.length x29 + List.length y30 ≤ big) <|
          bnd (x29 ++ y30) fun x31 =>
          bindO (F27 a0.1 (4 : Int)) fun y32 =>
          gd (List.length x31 + List.length y32 ≤ big) <|
          bnd (x31 ++ y32) fun x33 =>
          gd (List.length x33 + List.length ([52, 53, 48, 48] : List UInt8) ≤ big) <|
          bnd (x33 ++ ([52, 53, 48, 48] : List UInt8)) fun x34 =>
          gd (List.length x34 + List.length p2.1 ≤ big) <|
          bnd (x34 ++ p2.1) fun x35 =>
          gd (List.length x35 + List.length ([30] : List UInt8) ≤ big) <|
          bnd (x35 ++ ([30] : List UInt8)) fun x36 =>
          gd (List.length x36 + List.length p2.2.1 ≤ big) <|
          bnd (x36 ++ p2.2.1) fun x37 =>
          gd (List.length x37 + List.length ([29] : List UInt8) ≤ big) <|
          bnd (x37 ++ ([29] : List UInt8)) fun x38 =>
          some (x38, (0 : Int))))) (([] : List UInt8), ([] : List UInt8), (0 : Int)))
def dc10 : DC :=
  (.seq (.reg [⟨none, (.bx 1 (some 24) (.t 0))⟩,
    ⟨none, (.mv (some 2) (.v (.str [])))⟩,
    ⟨none, (.mv (some 3) (.v (.int .i64 0)))⟩])
  (.seq (.reg [⟨none, (.ld 15 (some 24) (.t 1))⟩,
    ⟨none, (.ca (some 16) 26 [(.t 15)])⟩,
    ⟨none, (.mv (some 4) (.t 16))⟩])
  (.seq (.seq (.reg [⟨none, (.mv (some 17) (.t 4))⟩,
    ⟨none, (.ar 18 .neq (.t 17) (.v (.int .i64 0)))⟩])
  (.cond (.t 18)
    (.seq (.reg [⟨none, (.mv (some 19) (.t 4))⟩,
    ⟨none, (.mv (some 2) (.v (.str [])))⟩,
    ⟨none, (.mv (some 3) (.t 19))⟩])
  .ret)
    .skip))
  (.seq (.reg [⟨none, (.mv (some 5) (.v (.str [])))⟩])
  (.seq (.reg [⟨none, (.mv (some 6) (.v (.str [])))⟩])
  (.seq (.seq (.reg [⟨none, (.mv (some 7) (.v (.int .i64 0)))⟩])
  (.block 0 (.loop ⟨[(5, (.lf .str)), (6, (.lf .str)), (7, (.lf (.int .i64)))], [], [8, 9, 10, 20, 21, 22, 23, 24, 25, 26, 27, 28, 29, 30, 31, 32, 33, 34, 35, 36, 37, 38, 39, 40, 41, 42, 43, 44, 45, 46, 47, 48, 49, 50, 51, 52, 53, 54, 55, 56, 57, 58, 59, 60, 61, 62, 63, 64, 65, 66, 67, 68, 69, 70, 71, 72, 73, 74, 75, 76, 77, 78, 79].map .s ++ [8].map .b ++ [53].map .f⟩ (.seq (.seq (.reg [⟨none, (.mv (some 20) (.t 7))⟩,
    ⟨none, (.fa 21 24 4 (.t 1))⟩,
    ⟨none, (.ld 22 none (.t 21))⟩,
    ⟨none, (.ln 23 (some 49) (.t 22))⟩,
    ⟨none, (.ar 24 .lss (.t 20) (.t 23))⟩])
  (.cond (.t 24)
    .skip
    (.exit 0)))
  (.seq (.block 1 (.seq (.reg [⟨none, (.fa 27 24 4 (.t 1))⟩,
    ⟨none, (.ld 28 none (.t 27))⟩,
    ⟨none, (.mv (some 29) (.t 7))⟩,
    ⟨none, (.ea 30 49 (.t 28) (.t 29))⟩,
    ⟨none, (.ld 31 (some 49) (.t 30))⟩,
    ⟨none, (.al 8 (.agg 49 [(.str []), (.str []), (.sl none 46 []), (.int .i64 0)]))⟩,
    ⟨none, (.st (some 49) (.t 8) (.t 31))⟩])
  (.seq (.reg [⟨none, (.fa 32 49 1 (.t 8))⟩,
    ⟨none, (.ld 33 none (.t 32))⟩,
    ⟨none, (.fa 34 49 3 (.t 8))⟩,
    ⟨none, (.ld 35 none (.t 34))⟩,
    ⟨none, (.ca (some 36) 27 [(.t 35), (.v (.int .i64 4))])⟩,
    ⟨none, (.ar 37 .add (.t 33) (.t 36))⟩,
    ⟨none, (.mv (some 9) (.t 37))⟩])
  (.seq (.seq (.reg [⟨none, (.mv (some 10) (.v (.int .i64 0)))⟩])
  (.block 2 (.loop ⟨[(9, (.lf .str)), (10, (.lf (.int .i64)))], [], [38, 39, 40, 41, 42, 43, 44, 45, 46, 47, 48, 49, 50, 51, 52, 53, 54, 55, 56, 57, 58, 59, 60, 61, 62].map .s ++ [53].map .f⟩ (.seq (.seq (.reg [⟨none, (.mv (some 38) (.t 10))⟩,
    ⟨none, (.fa 39 49 2 (.t 8))⟩,
    ⟨none, (.ld 40 none (.t 39))⟩,
    ⟨none, (.ln 41 (some 46) (.t 40))⟩,
    ⟨none, (.ar 42 .lss (.t 38) (.t 41))⟩])
  (.cond (.t 42)
    .skip
    (.exit 2)))
  (.seq (.block 3 (.reg [⟨none, (.mv (some 45) (.t 9))⟩,
    ⟨none, (.ar 46 .add (.t 45) (.v (.str [31])))⟩,
    ⟨none, (.fa 47 49 2 (.t 8))⟩,
    ⟨none, (.ld 48 none (.t 47))⟩,
    ⟨none, (.mv (some 49) (.t 10))⟩,
    ⟨none, (.ea 50 46 (.t 48) (.t 49))⟩,
    ⟨none, (.fa 51 46 0 (.t 50))⟩,
    ⟨none, (.ld 52 none (.t 51))⟩,
    ⟨none, (.bs 53 5 none [(.t 52)])⟩,
    ⟨none, (.cvb 54 (.t 53))⟩,
    ⟨none, (.ar 55 .add (.t 46) (.t 54))⟩,
    ⟨none, (.fa 56 49 2 (.t 8))⟩,
    ⟨none, (.ld 57 none (.t 56))⟩,
    ⟨none, (.mv (some 58) (.t 10))⟩,
    ⟨none, (.ea 59 46 (.t 57) (.t 58))⟩,
    ⟨none, (.fa 60 46 1 (.t 59))⟩,
    ⟨none, (.ld 61 none (.t 60))⟩,
    ⟨none, (.ar 62 .add (.t 55) (.t 61))⟩,
    ⟨none, (.mv (some 9) (.t 62))⟩]))
  (.reg [⟨none, (.mv (some 43) (.t 10))⟩,
    ⟨none, (.ar 44 .add (.t 43) (.v (.int .i64 1)))⟩,
    ⟨none, (.mv (some 10) (.t 44))⟩]))))))
  (.seq (.reg [⟨none, (.mv (some 63) (.t 9))⟩,
    ⟨none, (.ar 64 .add (.t 63) (.v (.str [30])))⟩,
    ⟨none, (.mv (some 9) (.t 64))⟩])
  (.seq (.reg [⟨none, (.mv (some 65) (.t 5))⟩,
    ⟨none, (.fa 66 49 0 (.t 8))⟩,
    ⟨none, (.ld 67 none (.t 66))⟩,
    ⟨none, (.ar 68 .add (.t 65) (.t 67))⟩,
    ⟨none, (.mv (some 69) (.t 9))⟩,
    ⟨none, (.ln 70 none (.t 69))⟩,
    ⟨none, (.ca (some 71) 27 [(.t 70), (.v (.int .i64 4))])⟩,
    ⟨none, (.ar 72 .add (.t 68) (.t 71))⟩,
    ⟨none, (.mv (some 73) (.t 6))⟩,
    ⟨none, (.ln 74 none (.t 73))⟩,
    ⟨none, (.ca (some 75) 27 [(.t 74), (.v (.int .i64 5))])⟩,
    ⟨none, (.ar 76 .add (.t 72) (.t 75))⟩,
    ⟨none, (.mv (some 5) (.t 76))⟩])
  (.reg [⟨none, (.mv (some 77) (.t 6))⟩,
    ⟨none, (.mv (some 78) (.t 9))⟩,
    ⟨none, (.ar 79 .add (.t 77) (.t 78))⟩,
    ⟨none, (.mv (some 6) (.t 79))⟩])))))))
  (.reg [⟨none, (.mv (some 25) (.t 7))⟩,
    ⟨none, (.ar 26 .add (.t 25) (.v (.int .i64 1)))⟩,
    ⟨none, (.mv (some 7) (.t 26))⟩]))))))
  (.seq (.reg [⟨none, (.mv (some 80) (.t 5))⟩,
    ⟨none, (.ln 81 none (.t 80))⟩,
    ⟨none, (.ar 82 .add (.v (.int .i64 24)) (.t 81))⟩,
    ⟨none, (.ar 83 .add (.t 82) (.v (.int .i64 1)))⟩,
    ⟨none, (.mv (some 11) (.t 83))⟩])
  (.seq (.reg [⟨none, (.mv (some 84) (.t 11))⟩,
    ⟨none, (.mv (some 85) (.t 6))⟩,
    ⟨none, (.ln 86 none (.t 85))⟩,
    ⟨none, (.ar 87 .add (.t 84) (.t 86))⟩,
    ⟨none, (.ar 88 .add (.t 87) (.v (.int .i64 1)))⟩,
    ⟨none, (.mv (some 12) (.t 88))⟩])
  (.seq (.seq (.reg [⟨none, (.mv (some 89) (.t 12))⟩,
    ⟨none, (.ar 90 .gtr (.t 89) (.v (.int .i64 9999)))⟩])
  (.cond (.t 90)
    (.seq (.reg [⟨none, (.mv (some 2) (.v (.str [])))⟩,
    ⟨none, (.mv (some 3) (.v (.int .i64 4)))⟩])
  .ret)
    .skip))
  (.seq (.reg [⟨none, (.mv (some 13) (.v (.str [98, 115, 109, 100])))⟩])
  (.seq (.reg [⟨none, (.mv (some 91) (.t 12))⟩,
    ⟨none, (.ca (some 92) 27 [(.t 91), (.v (.int .i64 5))])⟩,
    ⟨none, (.ar 93 .add (.t 92) (.v (.str [110])))⟩,
    ⟨none, (.mv (some 94) (.t 13))⟩,
    ⟨none, (.fa 95 24 2 (.t 1))⟩,
    ⟨none, (.ld 96 none (.t 95))⟩,
    ⟨none, (.ar 97 .sub (.t 96) (.v (.int .i64 1)))⟩,
    ⟨none, (.fa 98 24 2 (.t 1))⟩,
    ⟨none, (.ld 99 none (.t 98))⟩,
    ⟨none, (.sc 100 none (.t 94) (some (.t 97)) (some (.t 99)))⟩,
    ⟨none, (.ar 101 .add (.t 93) (.t 100))⟩,
    ⟨none, (.fa 102 24 1 (.t 1))⟩,
    ⟨none, (.ld 103 none (.t 102))⟩,
    ⟨none, (.ca (some 104) 27 [(.t 103), (.v (.int .i64 1))])⟩,
    ⟨none, (.ar 105 .add (.t 101) (.t 104))⟩,
    ⟨none, (.fa 106 24 3 (.t 1))⟩,
    ⟨none, (.ld 107 none (.t 106))⟩,
    ⟨none, (.ar 108 .add (.t 105) (.t 107))⟩,
    ⟨none, (.mv (some 109) (.t 11))⟩,
    ⟨none, (.ca (some 110) 27 [(.t 109), (.v (.int .i64 5))])⟩,
    ⟨none, (.ar 111 .add (.t 108) (.t 110))⟩,
    ⟨none, (.fa 112 24 0 (.t 1))⟩,
    ⟨none, (.ld 113 none (.t 112))⟩,
    ⟨none, (.ca (some 114) 27 [(.t 113), (.v (.int .i64 4))])⟩,
    ⟨none, (.ar 115 .add (.t 111) (.t 114))⟩,
    ⟨none, (.ar 116 .add (.t 115) (.v (.str [52, 53, 48, 48])))⟩,
    ⟨none, (.mv (some 14) (.t 116))⟩])
  (.seq (.reg [⟨none, (.mv (some 117) (.t 14))⟩,
    ⟨none, (.mv (some 118) (.t 5))⟩,
    ⟨none, (.ar 119 .add (.t 117) (.t 118))⟩,
    ⟨none, (.ar 120 .add (.t 119) (.v (.str [30])))⟩,
    ⟨none, (.mv (some 121) (.t 6))⟩,
    ⟨none, (.ar 122 .add (.t 120) (.t 121))⟩,
    ⟨none, (.ar 123 .add (.t 122) (.v (.str [29])))⟩,
    ⟨none, (.mv (some 2) (.t 123))⟩,
    ⟨none, (.mv (some 3) (.v (.int .i64 0)))⟩])
  .ret))))))))))))
noncomputable def ent10 : TEnt := ⟨10, [(.agg 24 (.pair (.int .i64) (.pair (.int .i64) (.pair (.int .i64) (.pair .str (.sl 49 (.agg 49 (.pair .str (.pair .str (.pair (.sl 46 (.agg 46 (.pair .byte .str))) (.int .i64)))))))))))], (.tup (.pair .str (.int .i64))), fun x => F10 x, .plain⟩
theorem eq10 (x : dens ent10.as) : ent10.F x = evF [ent26, ent27] SHF dc10 [(.tmp 2), (.tmp 3)] ent10.as ent10.rs x := by kernel_rfl
/-- library/libraryref07.Same -/
noncomputable def F42 (a0 : List UInt8 × List UInt8 × (List (UInt8 × List UInt8)) × Int) (a1 : List UInt8 × List UInt8 × (List (UInt8 × List UInt8)) × Int) : Option (Bool) :=
  cond (!decide (a0.1 = a1.1))
    (some false)
    (cond (!decide (a0.2.1 = a1.2.1))
      (some false)
      (cond (!decide (a0.2.2.2 = a1.2.2.2))
        (some false)
        (cond (!decide ((List.length a0.2.2.1 : Int) = (List.length a1.2.2.1 : Int)))
          (some false)
          (loopK (σ := Int) (fun p1 againp1 =>
            cond (decide (p1 < (List.length a0.2.2.1 : Int)))
              (gd (0 ≤ p1 ∧ p1 < (List.length a0.2.2.1 : Int)) <|
              gd (0 ≤ p1 ∧ p1 < (List.length a1.2.2.1 : Int)) <|
              cond (!(decide ((UInt8.toNat ((List.getD a0.2.2.1 (Int.toNat p1) (0, [])).1) : Int) = (UInt8.toNat ((List.getD a1.2.2.1 (Int.toNat p1) (0, [])).1) : Int)) && (decide ((List.getD a0.2.2.1 (Int.toNat p1) (0, [])).2 = (List.getD a1.2.2.1 (Int.toNat p1) (0, [])).2) && true)))
                (some false)
                (bnd (IntKind.wrap .i64 (p1 + (1 : Int))) fun x2 =>
                againp1 x2))
              (some true)) (0 : Int)))))
def dc42 : DC :=
  (.seq (.reg [⟨none, (.bx 2 (some 49) (.t 0))⟩,
    ⟨none, (.bx 3 (some 49) (.t 1))⟩,
    ⟨none, (.mv (some 4) (.v (.bool false)))⟩])
  (.seq (.seq (.reg [⟨none, (.fa 6 49 0 (.t 2))⟩,
    ⟨none, (.ld 7 none (.t 6))⟩,
    ⟨none, (.fa 8 49 0 (.t 3))⟩,
    ⟨none, (.ld 9 none (.t 8))⟩,
    ⟨none, (.ar 10 .neq (.t 7) (.t 9))⟩,
    ⟨none, (.mv (some 11) (.t 10))⟩,
    ⟨(some (11, false)), (.fa 12 49 1 (.t 2))⟩,
    ⟨(some (11, false)), (.ld 13 none (.t 12))⟩,
    ⟨(some (11, false)), (.fa 14 49 1 (.t 3))⟩,
    ⟨(some (11, false)), (.ld 15 none (.t 14))⟩,
    ⟨(some (11, false)), (.ar 16 .neq (.t 13) (.t 15))⟩,
    ⟨none, (.pick 17 (.t 11) (.v (.bool true)) (.t 16))⟩,
    ⟨none, (.mv (some 18) (.t 17))⟩,
    ⟨(some (18, false)), (.fa 19 49 3 (.t 2))⟩,
    ⟨(some (18, false)), (.ld 20 none (.t 19))⟩,
    ⟨(some (18, false)), (.fa 21 49 3 (.t 3))⟩,
    ⟨(some (18, false)), (.ld 22 none (.t 21))⟩,
    ⟨(some (18, false)), (.ar 23 .neq (.t 20) (.t 22))⟩,
    ⟨none, (.pick 24 (.t 18) (.v (.bool true)) (.t 23))⟩,
    ⟨none, (.mv (some 25) (.t 24))⟩,
    ⟨(some (25, false)), (.fa 26 49 2 (.t 2))⟩,
    ⟨(some (25, false)), (.ld 27 none (.t 26))⟩,
    ⟨(some (25, false)), (.ln 28 (some 46) (.t 27))⟩,
    ⟨(some (25, false)), (.fa 29 49 2 (.t 3))⟩,
    ⟨(some (25, false)), (.ld 30 none (.t 29))⟩,
    ⟨(some (25, false)), (.ln 31 (some 46) (.t 30))⟩,
    ⟨(some (25, false)), (.ar 32 .neq (.t 28) (.t 31))⟩,
    ⟨none, (.pick 33 (.t 25) (.v (.bool true)) (.t 32))⟩])
  (.cond (.t 33)
    (.seq (.reg [⟨none, (.mv (some 4) (.v (.bool false)))⟩])
  .ret)
    .skip))
  (.seq (.seq (.reg [⟨none, (.mv (some 5) (.v (.int .i64 0)))⟩])
  (.block 0 (.loop ⟨[(5, (.lf (.int .i64)))], [], [4, 34, 35, 36, 37, 38, 39, 40, 41, 42, 43, 44, 45, 46, 47, 48, 49, 50, 51].map .s⟩ (.seq (.seq (.reg [⟨none, (.mv (some 34) (.t 5))⟩,
    ⟨none, (.fa 35 49 2 (.t 2))⟩,
    ⟨none, (.ld 36 none (.t 35))⟩,
    ⟨none, (.ln 37 (some 46) (.t 36))⟩,
    ⟨none, (.ar 38 .lss (.t 34) (.t 37))⟩])
  (.cond (.t 38)
    .skip
    (.exit 0)))
  (.seq (.block 1 (.seq (.reg [⟨none, (.fa 41 49 2 (.t 2))⟩,
    ⟨none, (.ld 42 none (.t 41))⟩,
    ⟨none, (.mv (some 43) (.t 5))⟩,
    ⟨none, (.ea 44 46 (.t 42) (.t 43))⟩,
    ⟨none, (.ld 45 (some 46) (.t 44))⟩,
    ⟨none, (.fa 46 49 2 (.t 3))⟩,
    ⟨none, (.ld 47 none (.t 46))⟩,
    ⟨none, (.mv (some 48) (.t 5))⟩,
    ⟨none, (.ea 49 46 (.t 47) (.t 48))⟩,
    ⟨none, (.ld 50 (some 46) (.t 49))⟩,
    ⟨none, (.se 51 (.st [1, 2]) true (.t 45) (.t 50))⟩])
  (.cond (.t 51)
    (.seq (.reg [⟨none, (.mv (some 4) (.v (.bool false)))⟩])
  .ret)
    .skip)))
  (.reg [⟨none, (.mv (some 39) (.t 5))⟩,
    ⟨none, (.ar 40 .add (.t 39) (.v (.int .i64 1)))⟩,
    ⟨none, (.mv (some 5) (.t 40))⟩]))))))
  (.seq (.reg [⟨none, (.mv (some 4) (.v (.bool true)))⟩])
  .ret))))
noncomputable def ent42 : TEnt := ⟨42, [(.agg 49 (.pair .str (.pair .str (.pair (.sl 46 (.agg 46 (.pair .byte .str))) (.int .i64))))), (.agg 49 (.pair .str (.pair .str (.pair (.sl 46 (.agg 46 (.pair .byte .str))) (.int .i64)))))], .bool, fun x => F42 x.1 x.2, .plain⟩
theorem eq42 (x : dens ent42.as) : ent42.F x = evF [] SHF dc42 [(.tmp 4)] ent42.as ent42.rs x := by kernel_rfl
/-- library/libraryref08.SameFields -/
noncomputable def F33 (a0 : List (List UInt8 × List UInt8 × (List (UInt8 × List UInt8)) × Int)) (a1 : List (List UInt8 × List UInt8 × (List (UInt8 × List UInt8)) × Int)) : Option (Bool) :=
  cond (!decide ((List.length a0 : Int) = (List.length a1 : Int)))
    (some false)
    (loopK (σ := Int) (fun p1 againp1 =>
      cond (decide (p1 < (List.length a0 : Int)))
        (gd (0 ≤ p1 ∧ p1 < (List.length a0 : Int)) <|
        gd (0 ≤ p1 ∧ p1 < (List.length a1 : Int)) <|
        bindO (F42 (List.getD a0 (Int.toNat p1) ([], ([], ([], 0)))) (List.getD a1 (Int.toNat p1) ([], ([], ([], 0))))) fun y2 =>
        cond (!y2)
          (some false)
          (bnd (IntKind.wrap .i64 (p1 + (1 : Int))) fun x3 =>
          againp1 x3))
        (some true)) (0 : Int))
def dc33 : DC :=
  (.seq (.reg [⟨none, (.mv (some 4) (.v (.bool false)))⟩])
  (.seq (.seq (.reg [⟨none, (.mv (some 6) (.t 0))⟩,
    ⟨none, (.ln 7 (some 49) (.t 6))⟩,
    ⟨none, (.mv (some 8) (.t 1))⟩,
    ⟨none, (.ln 9 (some 49) (.t 8))⟩,
    ⟨none, (.ar 10 .neq (.t 7) (.t 9))⟩])
  (.cond (.t 10)
    (.seq (.reg [⟨none, (.mv (some 4) (.v (.bool false)))⟩])
  .ret)
    .skip))
  (.seq (.seq (.reg [⟨none, (.mv (some 5) (.v (.int .i64 0)))⟩])
  (.block 0 (.loop ⟨[(5, (.lf (.int .i64)))], [], [4, 11, 12, 13, 14, 15, 16, 17, 18, 19, 20, 21, 22, 23, 24, 25, 26].map .s⟩ (.seq (.seq (.reg [⟨none, (.mv (some 11) (.t 5))⟩,
    ⟨none, (.mv (some 12) (.t 0))⟩,
    ⟨none, (.ln 13 (some 49) (.t 12))⟩,
    ⟨none, (.ar 14 .lss (.t 11) (.t 13))⟩])
  (.cond (.t 14)
    .skip
    (.exit 0)))
  (.seq (.block 1 (.seq (.reg [⟨none, (.mv (some 17) (.t 0))⟩,
    ⟨none, (.mv (some 18) (.t 5))⟩,
    ⟨none, (.ea 19 49 (.t 17) (.t 18))⟩,
    ⟨none, (.ld 20 (some 49) (.t 19))⟩,
    ⟨none, (.mv (some 21) (.t 1))⟩,
    ⟨none, (.mv (some 22) (.t 5))⟩,
    ⟨none, (.ea 23 49 (.t 21) (.t 22))⟩,
    ⟨none, (.ld 24 (some 49) (.t 23))⟩,
    ⟨none, (.ca (some 25) 42 [(.t 20), (.t 24)])⟩,
    ⟨none, (.un 26 .not (.t 25))⟩])
  (.cond (.t 26)
    (.seq (.reg [⟨none, (.mv (some 4) (.v (.bool false)))⟩])
  .ret)
    .skip)))
  (.reg [⟨none, (.mv (some 15) (.t 5))⟩,
    ⟨none, (.ar 16 .add (.t 15) (.v (.int .i64 1)))⟩,
    ⟨none, (.mv (some 5) (.t 16))⟩]))))))
  (.seq (.reg [⟨none, (.mv (some 4) (.v (.bool true)))⟩])
  .ret))))
noncomputable def ent33 : TEnt := ⟨33, [(.sl 49 (.agg 49 (.pair .str (.pair .str (.pair (.sl 46 (.agg 46 (.pair .byte .str))) (.int .i64)))))), (.sl 49 (.agg 49 (.pair .str (.pair .str (.pair (.sl 46 (.agg 46 (.pair .byte .str))) (.int .i64))))))], .bool, fun x => F33 x.1 x.2, .plain⟩
theorem eq33 (x : dens ent33.as) : ent33.F x = evF [ent42] SHF dc33 [(.tmp 4)] ent33.as ent33.rs x := by kernel_rfl
/-- library/libraryref08.Same -/
noncomputable def F17 (a0 : Int × Int × Int × List UInt8 × List (List UInt8 × List UInt8 × (List (UInt8 × List UInt8)) × Int)) (a1 : Int × Int × Int × List UInt8 × List (List UInt8 × List UInt8 × (List (UInt8 × List UInt8)) × Int)) : Option (Bool) :=
  cond (!decide (a0.1 = a1.1))
    (some false)
    (cond (!decide (a0.2.1 = a1.2.1))
      (some false)
      (cond (!decide (a0.2.2.1 = a1.2.2.1))
        (some false)
        (cond (!decide (a0.2.2.2.1 = a1.2.2.2.1))
          (some false)
          (bindO (F33 a0.2.2.2.2 a1.2.2.2.2) fun y1 =>
          some y1))))
def dc17 : DC :=
  (.seq (.reg [⟨none, (.bx 2 (some 24) (.t 0))⟩,
    ⟨none, (.bx 3 (some 24) (.t 1))⟩,
    ⟨none, (.mv (some 4) (.v (.bool false)))⟩])
  (.seq (.seq (.reg [⟨none, (.fa 5 24 0 (.t 2))⟩,
    ⟨none, (.ld 6 none (.t 5))⟩,
    ⟨none, (.fa 7 24 0 (.t 3))⟩,
    ⟨none, (.ld 8 none (.t 7))⟩,
    ⟨none, (.ar 9 .neq (.t 6) (.t 8))⟩,
    ⟨none, (.mv (some 10) (.t 9))⟩,
    ⟨(some (10, false)), (.fa 11 24 1 (.t 2))⟩,
    ⟨(some (10, false)), (.ld 12 none (.t 11))⟩,
    ⟨(some (10, false)), (.fa 13 24 1 (.t 3))⟩,
    ⟨(some (10, false)), (.ld 14 none (.t 13))⟩,
    ⟨(some (10, false)), (.ar 15 .neq (.t 12) (.t 14))⟩,
    ⟨none, (.pick 16 (.t 10) (.v (.bool true)) (.t 15))⟩,
    ⟨none, (.mv (some 17) (.t 16))⟩,
    ⟨(some (17, false)), (.fa 18 24 2 (.t 2))⟩,
    ⟨(some (17, false)), (.ld 19 none (.t 18))⟩,
    ⟨(some (17, false)), (.fa 20 24 2 (.t 3))⟩,
    ⟨(some (17, false)), (.ld 21 none (.t 20))⟩,
    ⟨(some (17, false)), (.ar 22 .neq (.t 19) (.t 21))⟩,
    ⟨none, (.pick 23 (.t 17) (.v (.bool true)) (.t 22))⟩,
    ⟨none, (.mv (some 24) (.t 23))⟩,
    ⟨(some (24, false)), (.fa 25 24 3 (.t 2))⟩,
    ⟨(some (24, false)), (.ld 26 none (.t 25))⟩,
    ⟨(some (24, false)), (.fa 27 24 3 (.t 3))⟩,
    ⟨(some (24, false)), (.ld 28 none (.t 27))⟩,
    ⟨(some (24, false)), (.ar 29 .neq (.t 26) (.t 28))⟩,
    ⟨none, (.pick 30 (.t 24) (.v (.bool true)) (.t 29))⟩])
  (.cond (.t 30)
    (.seq (.reg [⟨none, (.mv (some 4) (.v (.bool false)))⟩])
  .ret)
    .skip))
  (.seq (.reg [⟨none, (.fa 31 24 4 (.t 2))⟩,
    ⟨none, (.ld 32 none (.t 31))⟩,
    ⟨none, (.fa 33 24 4 (.t 3))⟩,
    ⟨none, (.ld 34 none (.t 33))⟩,
    ⟨none, (.ca (some 35) 33 [(.t 32), (.t 34)])⟩,
    ⟨none, (.mv (some 4) (.t 35))⟩])
  .ret)))
noncomputable def ent17 : TEnt := ⟨17, [(.agg 24 (.pair (.int .i64) (.pair (.int .i64) (.pair (.int .i64) (.pair .str (.sl 49 (.agg 49 (.pair .str (.pair .str (.pair (.sl 46 (.agg 46 (.pair .byte .str))) (.int .i64))))))))))), (.agg 24 (.pair (.int .i64) (.pair (.int .i64) (.pair (.int .i64) (.pair .str (.sl 49 (.agg 49 (.pair .str (.pair .str (.pair (.sl 46 (.agg 46 (.pair .byte .str))) (.int .i64)))))))))))], .bool, fun x => F17 x.1 x.2, .plain⟩
theorem eq17 (x : dens ent17.as) : ent17.F x = evF [ent33] SHF dc17 [(.tmp 4)] ent17.as ent17.rs x := by kernel_rfl
/-- library/librarylaw10.same -/
noncomputable def F19 (a0 : List (Int × Int × Int × List UInt8 × List (List UInt8 × List UInt8 × (List (UInt8 × List UInt8)) × Int))) (a1 : List (Int × Int × Int × List UInt8 × List (List UInt8 × List UInt8 × (List (UInt8 × List UInt8)) × Int))) : Option (Bool) :=
  cond (!decide ((List.length a0 : Int) = (List.length a1 : Int)))
    (some false)
    (loopK (σ := Int) (fun p1 againp1 =>
      cond (decide (p1 < (List.length a0 : Int)))
        (gd (0 ≤ p1 ∧ p1 < (List.length a0 : Int)) <|
        gd (0 ≤ p1 ∧ p1 < (List.length a1 : Int)) <|
        bindO (F17 (List.getD a0 (Int.toNat p1) (0, (0, (0, ([], []))))) (List.getD a1 (Int.toNat p1) (0, (0, (0, ([], [])))))) fun y2 =>
        cond (!y2)
          (some false)
          (bnd (IntKind.wrap .i64 (p1 + (1 : Int))) fun x3 =>
          againp1 x3))
        (some true)) (0 : Int))
def dc19 : DC :=
  (.seq (.reg [⟨none, (.mv (some 4) (.v (.bool false)))⟩])
  (.seq (.seq (.reg [⟨none, (.mv (some 6) (.t 0))⟩,
    ⟨none, (.ln 7 (some 24) (.t 6))⟩,
    ⟨none, (.mv (some 8) (.t 1))⟩,
    ⟨none, (.ln 9 (some 24) (.t 8))⟩,
    ⟨none, (.ar 10 .neq (.t 7) (.t 9))⟩])
  (.cond (.t 10)
    (.seq (.reg [⟨none, (.mv (some 4) (.v (.bool false)))⟩])
  .ret)
    .skip))
  (.seq (.seq (.reg [⟨none, (.mv (some 5) (.v (.int .i64 0)))⟩])
  (.block 0 (.loop ⟨[(5, (.lf (.int .i64)))], [], [4, 11, 12, 13, 14, 15, 16, 17, 18, 19, 20, 21, 22, 23, 24, 25, 26].map .s⟩ (.seq (.seq (.reg [⟨none, (.mv (some 11) (.t 5))⟩,
    ⟨none, (.mv (some 12) (.t 0))⟩,
    ⟨none, (.ln 13 (some 24) (.t 12))⟩,
    ⟨none, (.ar 14 .lss (.t 11) (.t 13))⟩])
  (.cond (.t 14)
    .skip
    (.exit 0)))
  (.seq (.block 1 (.seq (.reg [⟨none, (.mv (some 17) (.t 0))⟩,
    ⟨none, (.mv (some 18) (.t 5))⟩,
    ⟨none, (.ea 19 24 (.t 17) (.t 18))⟩,
    ⟨none, (.ld 20 (some 24) (.t 19))⟩,
    ⟨none, (.mv (some 21) (.t 1))⟩,
    ⟨none, (.mv (some 22) (.t 5))⟩,
    ⟨none, (.ea 23 24 (.t 21) (.t 22))⟩,
    ⟨none, (.ld 24 (some 24) (.t 23))⟩,
    ⟨none, (.ca (some 25) 17 [(.t 20), (.t 24)])⟩,
    ⟨none, (.un 26 .not (.t 25))⟩])
  (.cond (.t 26)
    (.seq (.reg [⟨none, (.mv (some 4) (.v (.bool false)))⟩])
  .ret)
    .skip)))
  (.reg [⟨none, (.mv (some 15) (.t 5))⟩,
    ⟨none, (.ar 16 .add (.t 15) (.v (.int .i64 1)))⟩,
    ⟨none, (.mv (some 5) (.t 16))⟩]))))))
  (.seq (.reg [⟨none, (.mv (some 4) (.v (.bool true)))⟩])
  .ret))))
noncomputable def ent19 : TEnt := ⟨19, [(.sl 24 (.agg 24 (.pair (.int .i64) (.pair (.int .i64) (.pair (.int .i64) (.pair .str (.sl 49 (.agg 49 (.pair .str (.pair .str (.pair (.sl 46 (.agg 46 (.pair .byte .str))) (.int .i64)))))))))))), (.sl 24 (.agg 24 (.pair (.int .i64) (.pair (.int .i64) (.pair (.int .i64) (.pair .str (.sl 49 (.agg 49 (.pair .str (.pair .str (.pair (.sl 46 (.agg 46 (.pair .byte .str))) (.int .i64))))))))))))], .bool, fun x => F19 x.1 x.2, .plain⟩
theorem eq19 (x : dens ent19.as) : ent19.F x = evF [ent17] SHF dc19 [(.tmp 4)] ent19.as ent19.rs x := by kernel_rfl
/-- library/librarylaw10.small -/
noncomputable def F8 (a0 : Int × Int × Int × List UInt8 × List (List UInt8 × List UInt8 × (List (UInt8 × List UInt8)) × Int)) : Option (Bool) :=
  cond (decide ((70 : Int) < (List.length a0.2.2.2.2 : Int)))
    (some false)
    (cond (decide ((300 : Int) < (List.length a0.2.2.2.1 : Int)))
      (some false)
      (loopK (σ := Int) (fun p1 againp1 =>
        cond (decide (p1 < (List.length a0.2.2.2.2 : Int)))
          (gd (0 ≤ p1 ∧ p1 < (List.length a0.2.2.2.2 : Int)) <|
          cond (decide ((20 : Int) < (List.length ((List.getD a0.2.2.2.2 (Int.toNat p1) ([], ([], ([], 0)))).2.2.1) : Int)))
            (some false)
            (cond (decide ((300 : Int) < (List.length ((List.getD a0.2.2.2.2 (Int.toNat p1) ([], ([], ([], 0)))).1) : Int)))
              (some false)
              (cond (decide ((300 : Int) < (List.length ((List.getD a0.2.2.2.2 (Int.toNat p1) ([], ([], ([], 0)))).2.1) : Int)))
                (some false)
                (loopK (σ := Int) (fun p2 againp2 =>
                  cond (decide (p2 < (List.length ((List.getD a0.2.2.2.2 (Int.toNat p1) ([], ([], ([], 0)))).2.2.1) : Int)))
                    (gd (0 ≤ p2 ∧ p2 < (List.length ((List.getD a0.2.2.2.2 (Int.toNat p1) ([], ([], ([], 0)))).2.2.1) : Int)) <|
                    cond (decide ((300 : Int) < (List.length ((List.getD ((List.getD a0.2.2.2.2 (Int.toNat p1) ([], ([], ([], 0)))).2.2.1) (Int.toNat p2) (0, [])).2) : Int)))
                      (some false)
                      (bnd (IntKind.wrap .i64 (p2 + (1 : Int))) fun x3 =>
                      againp2 x3))
                    (bnd (IntKind.wrap .i64 (p1 + (1 : Int))) fun x4 =>
                    againp1 x4)) (0 : Int)))))
          (some true)) (0 : Int)))
def dc8 : DC :=
  (.seq (.reg [⟨none, (.bx 1 (some 24) (.t 0))⟩,
    ⟨none, (.mv (some 2) (.v (.bool false)))⟩])
  (.seq (.seq (.reg [⟨none, (.fa 6 24 4 (.t 1))⟩,
    ⟨none, (.ld 7 none (.t 6))⟩,
    ⟨none, (.ln 8 (some 49) (.t 7))⟩,
    ⟨none, (.ar 9 .gtr (.t 8) (.v (.int .i64 70)))⟩,
    ⟨none, (.mv (some 10) (.t 9))⟩,
    ⟨(some (10, false)), (.fa 11 24 3 (.t 1))⟩,
    ⟨(some (10, false)), (.ld 12 none (.t 11))⟩,
    ⟨(some (10, false)), (.ln 13 none (.t 12))⟩,
    ⟨(some (10, false)), (.ar 14 .gtr (.t 13) (.v (.int .i64 300)))⟩,
    ⟨none, (.pick 15 (.t 10) (.v (.bool true)) (.t 14))⟩])
  (.cond (.t 15)
    (.seq (.reg [⟨none, (.mv (some 2) (.v (.bool false)))⟩])
  .ret)
    .skip))
  (.seq (.seq (.reg [⟨none, (.mv (some 3) (.v (.int .i64 0)))⟩])
  (.block 0 (.loop ⟨[(3, (.lf (.int .i64)))], [], [2, 4, 5, 16, 17, 18, 19, 20, 21, 22, 23, 24, 25, 26, 27, 28, 29, 30, 31, 32, 33, 34, 35, 36, 37, 38, 39, 40, 41, 42, 43, 44, 45, 46, 47, 48, 49, 50, 51, 52, 53, 54, 55, 56, 57, 58].map .s ++ [4].map .b⟩ (.seq (.seq (.reg [⟨none, (.mv (some 16) (.t 3))⟩,
    ⟨none, (.fa 17 24 4 (.t 1))⟩,
    ⟨none, (.ld 18 none (.t 17))⟩,
    ⟨none, (.ln 19 (some 49) (.t 18))⟩,
    ⟨none, (.ar 20 .lss (.t 16) (.t 19))⟩])
  (.cond (.t 20)
    .skip
    (.exit 0)))
  (.seq (.block 1 (.seq (.reg [⟨none, (.fa 23 24 4 (.t 1))⟩,
    ⟨none, (.ld 24 none (.t 23))⟩,
    ⟨none, (.mv (some 25) (.t 3))⟩,
    ⟨none, (.ea 26 49 (.t 24) (.t 25))⟩,
    ⟨none, (.ld 27 (some 49) (.t 26))⟩,
    ⟨none, (.al 4 (.agg 49 [(.str []), (.str []), (.sl none 46 []), (.int .i64 0)]))⟩,
    ⟨none, (.st (some 49) (.t 4) (.t 27))⟩])
  (.seq (.seq (.reg [⟨none, (.fa 28 49 2 (.t 4))⟩,
    ⟨none, (.ld 29 none (.t 28))⟩,
    ⟨none, (.ln 30 (some 46) (.t 29))⟩,
    ⟨none, (.ar 31 .gtr (.t 30) (.v (.int .i64 20)))⟩,
    ⟨none, (.mv (some 32) (.t 31))⟩,
    ⟨(some (32, false)), (.fa 33 49 0 (.t 4))⟩,
    ⟨(some (32, false)), (.ld 34 none (.t 33))⟩,
    ⟨(some (32, false)), (.ln 35 none (.t 34))⟩,
    ⟨(some (32, false)), (.ar 36 .gtr (.t 35) (.v (.int .i64 300)))⟩,
    ⟨none, (.pick 37 (.t 32) (.v (.bool true)) (.t 36))⟩,
    ⟨none, (.mv (some 38) (.t 37))⟩,
    ⟨(some (38, false)), (.fa 39 49 1 (.t 4))⟩,
    ⟨(some (38, false)), (.ld 40 none (.t 39))⟩,
    ⟨(some (38, false)), (.ln 41 none (.t 40))⟩,
    ⟨(some (38, false)), (.ar 42 .gtr (.t 41) (.v (.int .i64 300)))⟩,
    ⟨none, (.pick 43 (.t 38) (.v (.bool true)) (.t 42))⟩])
  (.cond (.t 43)
    (.seq (.reg [⟨none, (.mv (some 2) (.v (.bool false)))⟩])
  .ret)
    .skip))
  (.seq (.reg [⟨none, (.mv (some 5) (.v (.int .i64 0)))⟩])
  (.block 2 (.loop ⟨[(5, (.lf (.int .i64)))], [], [2, 44, 45, 46, 47, 48, 49, 50, 51, 52, 53, 54, 55, 56, 57, 58].map .s⟩ (.seq (.seq (.reg [⟨none, (.mv (some 44) (.t 5))⟩,
    ⟨none, (.fa 45 49 2 (.t 4))⟩,
    ⟨none, (.ld 46 none (.t 45))⟩,
    ⟨none, (.ln 47 (some 46) (.t 46))⟩,
    ⟨none, (.ar 48 .lss (.t 44) (.t 47))⟩])
  (.cond (.t 48)
    .skip
    (.exit 2)))
  (.seq (.block 3 (.seq (.reg [⟨none, (.fa 51 49 2 (.t 4))⟩,
    ⟨none, (.ld 52 none (.t 51))⟩,
    ⟨none, (.mv (some 53) (.t 5))⟩,
    ⟨none, (.ea 54 46 (.t 52) (.t 53))⟩,
    ⟨none, (.fa 55 46 1 (.t 54))⟩,
    ⟨none, (.ld 56 none (.t 55))⟩,
    ⟨none, (.ln 57 none (.t 56))⟩,
    ⟨none, (.ar 58 .gtr (.t 57) (.v (.int .i64 300)))⟩])
  (.cond (.t 58)
    (.seq (.reg [⟨none, (.mv (some 2) (.v (.bool false)))⟩])
  .ret)
    .skip)))
  (.reg [⟨none, (.mv (some 49) (.t 5))⟩,
    ⟨none, (.ar 50 .add (.t 49) (.v (.int .i64 1)))⟩,
    ⟨none, (.mv (some 5) (.t 50))⟩])))))))))
  (.reg [⟨none, (.mv (some 21) (.t 3))⟩,
    ⟨none, (.ar 22 .add (.t 21) (.v (.int .i64 1)))⟩,
    ⟨none, (.mv (some 3) (.t 22))⟩]))))))
  (.seq (.reg [⟨none, (.mv (some 2) (.v (.bool true)))⟩])
  .ret))))
noncomputable def ent8 : TEnt := ⟨8, [(.agg 24 (.pair (.int .i64) (.pair (.int .i64) (.pair (.int .i64) (.pair .str (.sl 49 (.agg 49 (.pair .str (.pair .str (.pair (.sl 46 (.agg 46 (.pair .byte .str))) (.int .i64)))))))))))], .bool, fun x => F8 x, .plain⟩
theorem eq8 (x : dens ent8.as) : ent8.F x = evF [] SHF dc8 [(.tmp 2)] ent8.as ent8.rs x := by kernel_rfl
/-- library/librarylaw10.few -/
noncomputable def F14 (a0 : List (Int × Int × Int × List UInt8 × List (List UInt8 × List UInt8 × (List (UInt8 × List UInt8)) × Int))) : Option (Bool) :=
  cond (decide ((8 : Int) < (List.length a0 : Int)))
    (some false)
    (loopK (σ := Int) (fun p1 againp1 =>
      cond (decide (p1 < (List.length a0 : Int)))
        (gd (0 ≤ p1 ∧ p1 < (List.length a0 : Int)) <|
        bindO (F8 (List.getD a0 (Int.toNat p1) (0, (0, (0, ([], [])))))) fun y2 =>
        cond (!y2)
          (some false)
          (gd (0 ≤ p1 ∧ p1 < (List.length a0 : Int)) <|
          cond (decide ((20 : Int) < (List.length ((List.getD a0 (Int.toNat p1) (0, (0, (0, ([], []))))).2.2.2.2) : Int)))
            (some false)
            (bnd (IntKind.wrap .i64 (p1 + (1 : Int))) fun x3 =>
            againp1 x3)))
        (some true)) (0 : Int))
def dc14 : DC :=
  (.seq (.reg [⟨none, (.mv (some 2) (.v (.bool false)))⟩])
  (.seq (.seq (.reg [⟨none, (.mv (some 4) (.t 0))⟩,
    ⟨none, (.ln 5 (some 24) (.t 4))⟩,
    ⟨none, (.ar 6 .gtr (.t 5) (.v (.int .i64 8)))⟩])
  (.cond (.t 6)
    (.seq (.reg [⟨none, (.mv (some 2) (.v (.bool false)))⟩])
  .ret)
    .skip))
  (.seq (.seq (.reg [⟨none, (.mv (some 3) (.v (.int .i64 0)))⟩])
  (.block 0 (.loop ⟨[(3, (.lf (.int .i64)))], [], [2, 7, 8, 9, 10, 11, 12, 13, 14, 15, 16, 17, 18, 19, 20, 21, 22, 23, 24, 25, 26, 27].map .s⟩ (.seq (.seq (.reg [⟨none, (.mv (some 7) (.t 3))⟩,
    ⟨none, (.mv (some 8) (.t 0))⟩,
    ⟨none, (.ln 9 (some 24) (.t 8))⟩,
    ⟨none, (.ar 10 .lss (.t 7) (.t 9))⟩])
  (.cond (.t 10)
    .skip
    (.exit 0)))
  (.seq (.block 1 (.seq (.reg [⟨none, (.mv (some 13) (.t 0))⟩,
    ⟨none, (.mv (some 14) (.t 3))⟩,
    ⟨none, (.ea 15 24 (.t 13) (.t 14))⟩,
    ⟨none, (.ld 16 (some 24) (.t 15))⟩,
    ⟨none, (.ca (some 17) 8 [(.t 16)])⟩,
    ⟨none, (.un 18 .not (.t 17))⟩,
    ⟨none, (.mv (some 19) (.t 18))⟩,
    ⟨(some (19, false)), (.mv (some 20) (.t 0))⟩,
    ⟨(some (19, false)), (.mv (some 21) (.t 3))⟩,
    ⟨(some (19, false)), (.ea 22 24 (.t 20) (.t 21))⟩,
    ⟨(some (19, false)), (.fa 23 24 4 (.t 22))⟩,
    ⟨(some (19, false)), (.ld 24 none (.t 23))⟩,
    ⟨(some (19, false)), (.ln 25 (some 49) (.t 24))⟩,
    ⟨(some (19, false)), (.ar 26 .gtr (.t 25) (.v (.int .i64 20)))⟩,
    ⟨none, (.pick 27 (.t 19) (.v (.bool true)) (.t 26))⟩])
  (.cond (.t 27)
    (.seq (.reg [⟨none, (.mv (some 2) (.v (.bool false)))⟩])
  .ret)
    .skip)))
  (.reg [⟨none, (.mv (some 11) (.t 3))⟩,
    ⟨none, (.ar 12 .add (.t 11) (.v (.int .i64 1)))⟩,
    ⟨none, (.mv (some 3) (.t 12))⟩]))))))
  (.seq (.reg [⟨none, (.mv (some 2) (.v (.bool true)))⟩])
  .ret))))
noncomputable def ent14 : TEnt := ⟨14, [(.sl 24 (.agg 24 (.pair (.int .i64) (.pair (.int .i64) (.pair (.int .i64) (.pair .str (.sl 49 (.agg 49 (.pair .str (.pair .str (.pair (.sl 46 (.agg 46 (.pair .byte .str))) (.int .i64))))))))))))], .bool, fun x => F14 x, .plain⟩
theorem eq14 (x : dens ent14.as) : ent14.F x = evF [ent8] SHF dc14 [(.tmp 2)] ent14.as ent14.rs x := by kernel_rfl
/-- library/exchange.Export -/
noncomputable def F15 (a0 : List (Int × Int × Int × List UInt8 × List (List UInt8 × List UInt8 × (List (UInt8 × List UInt8)) × Int))) : Option (List UInt8 × Int) :=
  cond (decide ((64 : Int) < (List.length a0 : Int)))
    (some (([] : List UInt8), (13 : Int)))
    (gdN (0) (List.length ([] : List UInt8)) <|
    loopK (σ := Int × List UInt8) (fun p1 againp1 =>
      cond (decide (p1.1 < (List.length a0 : Int)))
        (gd (0 ≤ p1.1 ∧ p1.1 < (List.length a0 : Int)) <|
        bindO (F9 (List.getD a0 (Int.toNat p1.1) (0, (0, (0, ([], [])))))) fun y2 =>
        cond (!decide (y2.2 = (0 : Int)))
          (some (([] : List UInt8), y2.2))
          (gdN (List.length p1.2) (List.length p1.2) <|
          gd (List.length p1.2 + List.length y2.1 ≤ big) <|
          bnd (p1.2 ++ y2.1) fun b3 =>
          bnd (IntKind.wrap .i64 (p1.1 + (1 : Int))) fun x4 =>
          gdN (List.length b3) (List.length b3) <|
          againp1 (x4, b3)))
        (gdN (List.length p1.2) (List.length p1.2) <|
        cond (decide ((65536 : Int) < (List.length p1.2 : Int)))
          (some (([] : List UInt8), (4 : Int)))
          (gdN (List.length p1.2) (List.length p1.2) <|
          some (p1.2, (0 : Int))))) ((0 : Int), ([] : List UInt8)))
def dc15 : DC :=
  (.seq (.reg [⟨none, (.mv (some 2) (.v (.str [])))⟩,
    ⟨none, (.mv (some 3) (.v (.int .i64 0)))⟩])
  (.seq (.seq (.reg [⟨none, (.mv (some 9) (.t 0))⟩,
    ⟨none, (.ln 10 (some 24) (.t 9))⟩,
    ⟨none, (.ar 11 .gtr (.t 10) (.v (.int .i64 64)))⟩])
  (.cond (.t 11)
    (.seq (.reg [⟨none, (.mv (some 2) (.v (.str [])))⟩,
    ⟨none, (.mv (some 3) (.v (.int .i64 13)))⟩])
  .ret)
    .skip))
  (.seq (.reg [⟨none, (.ab 4 54 5)⟩])
  (.seq (.seq (.reg [⟨none, (.mv (some 12) (.t 0))⟩,
    ⟨none, (.ln 13 (some 24) (.t 12))⟩,
    ⟨none, (.mv (some 14) (.v (.int .i64 0)))⟩])
  (.block 0 (.loop ⟨[(14, (.lf (.int .i64)))], [(4, (.bld 3000004 54 5))], [2, 3, 6, 7, 8, 15, 16, 17, 18, 19, 20, 21, 22, 23, 24, 25, 26, 27, 28].map .s ++ [6].map .b⟩ (.seq (.reg [⟨none, (.ar 15 .lss (.t 14) (.t 13))⟩])
  (.seq (.cond (.t 15)
    .skip
    (.exit 0))
  (.seq (.block 1 (.seq (.reg [⟨none, (.ea 16 24 (.t 12) (.t 14))⟩,
    ⟨none, (.ld 17 (some 24) (.t 16))⟩,
    ⟨none, (.al 6 (.agg 24 [(.int .i64 0), (.int .i64 0), (.int .i64 0), (.str []), (.sl none 49 [])]))⟩,
    ⟨none, (.st (some 24) (.t 6) (.t 17))⟩])
  (.seq (.reg [⟨none, (.ld 19 (some 24) (.t 6))⟩,
    ⟨none, (.ca (some 20) 9 [(.t 19)])⟩,
    ⟨none, (.mv (some 18) (.t 20))⟩,
    ⟨none, (.ex 21 0 (.t 18))⟩,
    ⟨none, (.ex 22 1 (.t 18))⟩,
    ⟨none, (.mv (some 7) (.t 21))⟩,
    ⟨none, (.mv (some 8) (.t 22))⟩])
  (.seq (.seq (.reg [⟨none, (.mv (some 23) (.t 8))⟩,
    ⟨none, (.ar 24 .neq (.t 23) (.v (.int .i64 0)))⟩])
  (.cond (.t 24)
    (.seq (.reg [⟨none, (.mv (some 25) (.t 8))⟩,
    ⟨none, (.mv (some 2) (.v (.str [])))⟩,
    ⟨none, (.mv (some 3) (.t 25))⟩])
  .ret)
    .skip))
  (.reg [⟨none, (.mv (some 26) (.t 7))⟩,
    ⟨none, (.cw (some 27) 22 .wstr [(.t 4), (.t 26)])⟩])))))
  (.reg [⟨none, (.ar 28 .add (.t 14) (.v (.int .i64 1)))⟩,
    ⟨none, (.mv (some 14) (.t 28))⟩])))))))
  (.seq (.seq (.reg [⟨none, (.cw (some 29) 21 .len [(.t 4)])⟩,
    ⟨none, (.ar 30 .gtr (.t 29) (.v (.int .i64 65536)))⟩])
  (.cond (.t 30)
    (.seq (.reg [⟨none, (.mv (some 2) (.v (.str [])))⟩,
    ⟨none, (.mv (some 3) (.v (.int .i64 4)))⟩])
  .ret)
    .skip))
  (.seq (.reg [⟨none, (.cw (some 31) 25 .str [(.t 4)])⟩,
    ⟨none, (.mv (some 2) (.t 31))⟩,
    ⟨none, (.mv (some 3) (.v (.int .i64 0)))⟩])
  .ret))))))
noncomputable def ent15 : TEnt := ⟨15, [(.sl 24 (.agg 24 (.pair (.int .i64) (.pair (.int .i64) (.pair (.int .i64) (.pair .str (.sl 49 (.agg 49 (.pair .str (.pair .str (.pair (.sl 46 (.agg 46 (.pair .byte .str))) (.int .i64))))))))))))], (.tup (.pair .str (.int .i64))), fun x => F15 x, .plain⟩
theorem eq15 (x : dens ent15.as) : ent15.F x = evF [ent9, entLen, entWriteString, entString] SHF dc15 [(.tmp 2), (.tmp 3)] ent15.as ent15.rs x := by kernel_rfl
/-- library/libraryref10.Export -/
noncomputable def F16 (a0 : List (Int × Int × Int × List UInt8 × List (List UInt8 × List UInt8 × (List (UInt8 × List UInt8)) × Int))) : Option (List UInt8 × Int) :=
  cond (decide ((64 : Int) < (List.length a0 : Int)))
    (some (([] : List UInt8), (13 : Int)))
    (loopK (σ := List UInt8 × Int) (fun p1 againp1 =>
      cond (decide (p1.2 < (List.length a0 : Int)))
        (gd (0 ≤ p1.2 ∧ p1.2 < (List.length a0 : Int)) <|
        bindO (F10 (List.getD a0 (Int.toNat p1.2) (0, (0, (0, ([], [])))))) fun y2 =>
        cond (!decide (y2.2 = (0 : Int)))
          (some (([] : List UInt8), y2.2))
          (gd (List.length p1.1 + List.length y2.1 ≤ big) <|
          bnd (p1.1 ++ y2.1) fun x3 =>
          bnd (IntKind.wrap .i64 (p1.2 + (1 : Int))) fun x4 =>
          againp1 (x3, x4)))
        (cond (decide ((65536 : Int) < (List.length p1.1 : Int)))
          (some (([] : List UInt8), (4 : Int)))
          (some (p1.1, (0 : Int))))) (([] : List UInt8), (0 : Int)))
def dc16 : DC :=
  (.seq (.reg [⟨none, (.mv (some 2) (.v (.str [])))⟩,
    ⟨none, (.mv (some 3) (.v (.int .i64 0)))⟩])
  (.seq (.seq (.reg [⟨none, (.mv (some 8) (.t 0))⟩,
    ⟨none, (.ln 9 (some 24) (.t 8))⟩,
    ⟨none, (.ar 10 .gtr (.t 9) (.v (.int .i64 64)))⟩])
  (.cond (.t 10)
    (.seq (.reg [⟨none, (.mv (some 2) (.v (.str [])))⟩,
    ⟨none, (.mv (some 3) (.v (.int .i64 13)))⟩])
  .ret)
    .skip))
  (.seq (.reg [⟨none, (.mv (some 4) (.v (.str [])))⟩])
  (.seq (.seq (.reg [⟨none, (.mv (some 5) (.v (.int .i64 0)))⟩])
  (.block 0 (.loop ⟨[(4, (.lf .str)), (5, (.lf (.int .i64)))], [], [2, 3, 6, 7, 11, 12, 13, 14, 15, 16, 17, 18, 19, 20, 21, 22, 23, 24, 25, 26, 27, 28, 29, 30].map .s⟩ (.seq (.seq (.reg [⟨none, (.mv (some 11) (.t 5))⟩,
    ⟨none, (.mv (some 12) (.t 0))⟩,
    ⟨none, (.ln 13 (some 24) (.t 12))⟩,
    ⟨none, (.ar 14 .lss (.t 11) (.t 13))⟩])
  (.cond (.t 14)
    .skip
    (.exit 0)))
  (.seq (.block 1 (.seq (.reg [⟨none, (.mv (some 18) (.t 0))⟩,
    ⟨none, (.mv (some 19) (.t 5))⟩,
    ⟨none, (.ea 20 24 (.t 18) (.t 19))⟩,
    ⟨none, (.ld 21 (some 24) (.t 20))⟩,
    ⟨none, (.ca (some 22) 10 [(.t 21)])⟩,
    ⟨none, (.mv (some 17) (.t 22))⟩,
    ⟨none, (.ex 23 0 (.t 17))⟩,
    ⟨none, (.ex 24 1 (.t 17))⟩,
    ⟨none, (.mv (some 6) (.t 23))⟩,
    ⟨none, (.mv (some 7) (.t 24))⟩])
  (.seq (.seq (.reg [⟨none, (.mv (some 25) (.t 7))⟩,
    ⟨none, (.ar 26 .neq (.t 25) (.v (.int .i64 0)))⟩])
  (.cond (.t 26)
    (.seq (.reg [⟨none, (.mv (some 27) (.t 7))⟩,
    ⟨none, (.mv (some 2) (.v (.str [])))⟩,
    ⟨none, (.mv (some 3) (.t 27))⟩])
  .ret)
    .skip))
  (.reg [⟨none, (.mv (some 28) (.t 4))⟩,
    ⟨none, (.mv (some 29) (.t 6))⟩,
    ⟨none, (.ar 30 .add (.t 28) (.t 29))⟩,
    ⟨none, (.mv (some 4) (.t 30))⟩]))))
  (.reg [⟨none, (.mv (some 15) (.t 5))⟩,
    ⟨none, (.ar 16 .add (.t 15) (.v (.int .i64 1)))⟩,
    ⟨none, (.mv (some 5) (.t 16))⟩]))))))
  (.seq (.seq (.reg [⟨none, (.mv (some 31) (.t 4))⟩,
    ⟨none, (.ln 32 none (.t 31))⟩,
    ⟨none, (.ar 33 .gtr (.t 32) (.v (.int .i64 65536)))⟩])
  (.cond (.t 33)
    (.seq (.reg [⟨none, (.mv (some 2) (.v (.str [])))⟩,
    ⟨none, (.mv (some 3) (.v (.int .i64 4)))⟩])
  .ret)
    .skip))
  (.seq (.reg [⟨none, (.mv (some 34) (.t 4))⟩,
    ⟨none, (.mv (some 2) (.t 34))⟩,
    ⟨none, (.mv (some 3) (.v (.int .i64 0)))⟩])
  .ret))))))
noncomputable def ent16 : TEnt := ⟨16, [(.sl 24 (.agg 24 (.pair (.int .i64) (.pair (.int .i64) (.pair (.int .i64) (.pair .str (.sl 49 (.agg 49 (.pair .str (.pair .str (.pair (.sl 46 (.agg 46 (.pair .byte .str))) (.int .i64))))))))))))], (.tup (.pair .str (.int .i64))), fun x => F16 x, .plain⟩
theorem eq16 (x : dens ent16.as) : ent16.F x = evF [ent10] SHF dc16 [(.tmp 2), (.tmp 3)] ent16.as ent16.rs x := by kernel_rfl
/-- library/exchange.value -/
noncomputable def F29 (a0 : List UInt8) : Option (Option (Int)) :=
  gd (List.length a0 ≤ big) <|
  loopK (σ := Int × Int) (fun p1 againp1 =>
    cond (decide (p1.2 < (List.length a0 : Int)))
      (gd (0 ≤ p1.2 ∧ p1.2 < (List.length a0 : Int)) <|
      cond (decide ((UInt8.toNat (List.getD a0 (Int.toNat p1.2) 0) : Int) < (48 : Int)))
        (some none)
        (cond (decide ((57 : Int) < (UInt8.toNat (List.getD a0 (Int.toNat p1.2) 0) : Int)))
          (some none)
          (bnd (IntKind.wrap .i64 (p1.1 * (10 : Int))) fun x2 =>
          bnd (IntKind.wrap .u8 ((UInt8.toNat (List.getD a0 (Int.toNat p1.2) 0) : Int) - (48 : Int))) fun x3 =>
          bnd (IntKind.wrap .i64 (x2 + (IntKind.wrap .i64 x3))) fun x4 =>
          bnd (IntKind.wrap .i64 (p1.2 + (1 : Int))) fun x5 =>
          againp1 (x4, x5))))
      (some (some p1.1))) ((0 : Int), (0 : Int))
def dc29 : DC :=
  (.seq (.reg [⟨none, (.mv (some 2) (.v (.int .i64 0)))⟩])
  (.seq (.reg [⟨none, (.mv (some 3) (.v (.int .i64 0)))⟩])
  (.seq (.seq (.reg [⟨none, (.mv (some 6) (.t 0))⟩,
    ⟨none, (.cvs 7 5 (.t 6))⟩,
    ⟨none, (.ln 8 (some 5) (.t 7))⟩,
    ⟨none, (.mv (some 9) (.v (.int .i64 0)))⟩])
  (.block 0 (.loop ⟨[(3, (.lf (.int .i64))), (9, (.lf (.int .i64)))], [], [5, 10, 11, 12, 13, 14, 15, 16, 17, 18, 21, 22, 23, 24, 25, 26, 27].map .s⟩ (.seq (.reg [⟨none, (.ar 10 .lss (.t 9) (.t 8))⟩])
  (.seq (.cond (.t 10)
    .skip
    (.exit 0))
  (.seq (.block 1 (.seq (.reg [⟨none, (.ea 11 5 (.t 7) (.t 9))⟩,
    ⟨none, (.ld 12 none (.t 11))⟩,
    ⟨none, (.mv (some 5) (.t 12))⟩])
  (.seq (.seq (.reg [⟨none, (.mv (some 13) (.t 5))⟩,
    ⟨none, (.ar 14 .lss (.t 13) (.v (.int .u8 48)))⟩,
    ⟨none, (.mv (some 15) (.t 14))⟩,
    ⟨(some (15, false)), (.mv (some 16) (.t 5))⟩,
    ⟨(some (15, false)), (.ar 17 .gtr (.t 16) (.v (.int .u8 57)))⟩,
    ⟨none, (.pick 18 (.t 15) (.v (.bool true)) (.t 17))⟩])
  (.cond (.t 18)
    (.regP 64 [⟨none, (.bd 19 64 [] [] [])⟩,
    ⟨none, (.mi 20 64 (.t 19))⟩,
    ⟨none, (.pn (.t 20))⟩])
    .skip))
  (.reg [⟨none, (.mv (some 21) (.t 3))⟩,
    ⟨none, (.ar 22 .mul (.t 21) (.v (.int .i64 10)))⟩,
    ⟨none, (.mv (some 23) (.t 5))⟩,
    ⟨none, (.ar 24 .sub (.t 23) (.v (.int .u8 48)))⟩,
    ⟨none, (.cvi 25 .i64 (.t 24))⟩,
    ⟨none, (.ar 26 .add (.t 22) (.t 25))⟩,
    ⟨none, (.mv (some 3) (.t 26))⟩]))))
  (.reg [⟨none, (.ar 27 .add (.t 9) (.v (.int .i64 1)))⟩,
    ⟨none, (.mv (some 9) (.t 27))⟩])))))))
  (.seq (.reg [⟨none, (.mv (some 28) (.t 3))⟩,
    ⟨none, (.mv (some 2) (.t 28))⟩])
  .ret))))
noncomputable def ent29 : TEnt := ⟨29, [.str], (.opt 64 (.int .i64)), fun x => F29 x, .may 64⟩
theorem eq29 (x : dens ent29.as) : ent29.F x = evFM [] SHF 64 dc29 [(.tmp 2)] ent29.as (.int .i64) x := by kernel_rfl
/-- library/exchange.cut -/
noncomputable def F30 (a0 : List UInt8) (a1 : Int) (a2 : Int) : Option (Option (List UInt8)) :=
  cond (decide (a1 < (0 : Int)))
    (some none)
    (cond (decide (a2 < (0 : Int)))
      (some none)
      (cond (decide ((List.length a0 : Int) < a1))
        (some none)
        (bnd (IntKind.wrap .i64 ((List.length a0 : Int) - a1)) fun x1 =>
        cond (decide (x1 < a2))
          (some none)
          (bnd (IntKind.wrap .i64 (a1 + a2)) fun x2 =>
          gd (0 ≤ a1 ∧ a1 ≤ x2 ∧ x2 ≤ (List.length a0 : Int)) <|
          bnd (List.drop (Int.toNat a1) (List.take (Int.toNat x2) a0)) fun x3 =>
          some (some x3)))))
def dc30 : DC :=
  (.seq (.reg [⟨none, (.mv (some 6) (.v (.str [])))⟩])
  (.seq (.seq (.reg [⟨none, (.mv (some 7) (.t 1))⟩,
    ⟨none, (.ar 8 .lss (.t 7) (.v (.int .i64 0)))⟩,
    ⟨none, (.mv (some 9) (.t 8))⟩,
    ⟨(some (9, false)), (.mv (some 10) (.t 2))⟩,
    ⟨(some (9, false)), (.ar 11 .lss (.t 10) (.v (.int .i64 0)))⟩,
    ⟨none, (.pick 12 (.t 9) (.v (.bool true)) (.t 11))⟩,
    ⟨none, (.mv (some 13) (.t 12))⟩,
    ⟨(some (13, false)), (.mv (some 14) (.t 1))⟩,
    ⟨(some (13, false)), (.mv (some 15) (.t 0))⟩,
    ⟨(some (13, false)), (.ln 16 none (.t 15))⟩,
    ⟨(some (13, false)), (.ar 17 .gtr (.t 14) (.t 16))⟩,
    ⟨none, (.pick 18 (.t 13) (.v (.bool true)) (.t 17))⟩,
    ⟨none, (.mv (some 19) (.t 18))⟩,
    ⟨(some (19, false)), (.mv (some 20) (.t 2))⟩,
    ⟨(some (19, false)), (.mv (some 21) (.t 0))⟩,
    ⟨(some (19, false)), (.ln 22 none (.t 21))⟩,
    ⟨(some (19, false)), (.mv (some 23) (.t 1))⟩,
    ⟨(some (19, false)), (.ar 24 .sub (.t 22) (.t 23))⟩,
    ⟨(some (19, false)), (.ar 25 .gtr (.t 20) (.t 24))⟩,
    ⟨none, (.pick 26 (.t 19) (.v (.bool true)) (.t 25))⟩])
  (.cond (.t 26)
    (.regP 64 [⟨none, (.bd 27 64 [] [] [])⟩,
    ⟨none, (.mi 28 64 (.t 27))⟩,
    ⟨none, (.pn (.t 28))⟩])
    .skip))
  (.seq (.reg [⟨none, (.mv (some 29) (.t 0))⟩,
    ⟨none, (.mv (some 30) (.t 1))⟩,
    ⟨none, (.mv (some 31) (.t 1))⟩,
    ⟨none, (.mv (some 32) (.t 2))⟩,
    ⟨none, (.ar 33 .add (.t 31) (.t 32))⟩,
    ⟨none, (.sc 34 none (.t 29) (some (.t 30)) (some (.t 33)))⟩,
    ⟨none, (.mv (some 6) (.t 34))⟩])
  .ret)))
noncomputable def ent30 : TEnt := ⟨30, [.str, (.int .i64), (.int .i64)], (.opt 64 .str), fun x => F30 x.1 x.2.1 x.2.2, .may 64⟩
theorem eq30 (x : dens ent30.as) : ent30.F x = evFM [] SHF 64 dc30 [(.tmp 6)] ent30.as .str x := by kernel_rfl
/-- library/exchange.fieldOf -/
noncomputable def F41 (a0 : List UInt8) (a1 : List UInt8) : Option (Option (List UInt8 × List UInt8 × (List (UInt8 × List UInt8)) × Int)) :=
  caseO (F30 a1 (0 : Int) (2 : Int))
    (caseO (F30 a1 (2 : Int) (4 : Int))
      (some none) fun y2 =>
    caseO (F29 y2)
      (some none) fun y3 =>
    some none) fun y1 =>
  caseO (F30 a1 (2 : Int) (4 : Int))
    (some none) fun y4 =>
  caseO (F29 y4)
    (some none) fun y5 =>
  gd (0 ≤ (6 : Int) ∧ (6 : Int) ≤ (List.length a1 : Int)) <|
  bnd (List.drop (Int.toNat (6 : Int)) a1) fun x6 =>
  bindO (fTrimS x6 ([30] : List UInt8)) fun y7 =>
  bindO (fSplit y7 ([31] : List UInt8)) fun y8 =>
  gdN (0) (List.length ([] : List (UInt8 × List UInt8))) <|
  loopK (σ := Int × (List UInt8 × List UInt8 × (List (UInt8 × List UInt8)) × Int)) (fun p9 againp9 =>
    cond (decide (p9.1 < (List.length y8 : Int)))
      (gd (0 ≤ p9.1 ∧ p9.1 < (List.length y8 : Int)) <|
      cond (decide ((0 : Int) < p9.1))
        (caseO (F30 (List.getD y8 (Int.toNat p9.1) []) (0 : Int) (1 : Int))
          (gd (0 ≤ (1 : Int) ∧ (1 : Int) ≤ (List.length (List.getD y8 (Int.toNat p9.1) []) : Int)) <|
          bnd (List.drop (Int.toNat (1 : Int)) (List.getD y8 (Int.toNat p9.1) [])) fun x11 =>
          some none) fun y10 =>
        gd (0 ≤ (0 : Int) ∧ (0 : Int) < (List.length y10 : Int)) <|
        gd (0 ≤ (1 : Int) ∧ (1 : Int) ≤ (List.length (List.getD y8 (Int.toNat p9.1) []) : Int)) <|
        bnd (List.drop (Int.toNat (1 : Int)) (List.getD y8 (Int.toNat p9.1) [])) fun x12 =>
        gdN (List.length p9.2.2.2.1) (List.length p9.2.2.2.1) <|
        gd (List.length p9.2.2.2.1 + List.length [((List.getD y10 (Int.toNat (0 : Int)) 0), x12)] ≤ big) <|
        bnd (p9.2.2.2.1 ++ [((List.getD y10 (Int.toNat (0 : Int)) 0), x12)]) fun l13 =>
        bnd (IntKind.wrap .i64 (p9.1 + (1 : Int))) fun x14 =>
        gdN (List.length l13) (List.length l13) <|
        againp9 (x14, (p9.2.1, p9.2.2.1, l13, p9.2.2.2.2)))
        (bnd (IntKind.wrap .i64 (p9.1 + (1 : Int))) fun x15 =>
        gdN (List.length p9.2.2.2.1) (List.length p9.2.2.2.1) <|
        againp9 (x15, (p9.2.1, p9.2.2.1, p9.2.2.2.1, p9.2.2.2.2))))
      (some (some (p9.2.1, p9.2.2.1, p9.2.2.2.1, p9.2.2.2.2)))) ((0 : Int), (a0, y1, ([] : List (UInt8 × List UInt8)), y5))
def dc41 : DC :=
  (.seq (.reg [⟨none, (.al 4 (.agg 49 [(.str []), (.str []), (.sl (some 5900000) 46 []), (.int .i64 0)]))⟩])
  (.seq (.regP 64 [⟨none, (.mv (some 8) (.t 0))⟩,
    ⟨none, (.mv (some 9) (.t 1))⟩,
    ⟨none, (.ca (some 10) 30 [(.t 9), (.v (.int .i64 0)), (.v (.int .i64 2))])⟩,
    ⟨none, (.mv (some 11) (.t 1))⟩,
    ⟨none, (.ca (some 12) 30 [(.t 11), (.v (.int .i64 2)), (.v (.int .i64 4))])⟩,
    ⟨none, (.ca (some 13) 29 [(.t 12)])⟩,
    ⟨none, (.bd 14 49 [(.str []), (.str []), (.sl (some 5900000) 46 []), (.int .i64 0)] [0, 1, 3] [(.t 8), (.t 10), (.t 13)])⟩,
    ⟨none, (.al 5 (.agg 49 [(.str []), (.str []), (.sl (some 5900000) 46 []), (.int .i64 0)]))⟩,
    ⟨none, (.st (some 49) (.t 5) (.t 14))⟩])
  (.seq (.seq (.reg [⟨none, (.mv (some 15) (.t 1))⟩,
    ⟨none, (.sc 16 none (.t 15) (some (.v (.int .i64 6))) none)⟩,
    ⟨none, (.ca (some 17) 64 [(.t 16), (.v (.str [30]))])⟩,
    ⟨none, (.ca (some 18) 63 [(.t 17), (.v (.str [31]))])⟩,
    ⟨none, (.ln 19 (some 9) (.t 18))⟩,
    ⟨none, (.mv (some 20) (.v (.int .i64 0)))⟩])
  (.seq (.gh 6000502 [])
  (.block 0 (.loop ⟨[(20, (.lf (.int .i64)))], [(5, (.agg 49 (.pair (.lf .str) (.pair (.lf .str) (.pair (.row 6000502 46 (.agg 46 (.pair .byte .str))) (.lf (.int .i64)))))))], [6, 7, 21, 22, 23, 24, 25, 26, 27, 28, 29, 30, 31, 32, 33, 34, 35, 36, 37, 38].map .s ++ [35].map .f⟩ (.seq (.reg [⟨none, (.ar 21 .lss (.t 20) (.t 19))⟩])
  (.seq (.cond (.t 21)
    .skip
    (.exit 0))
  (.seq (.block 1 (.seq (.reg [⟨none, (.mv (some 22) (.t 20))⟩,
    ⟨none, (.ea 23 9 (.t 18) (.t 20))⟩,
    ⟨none, (.ld 24 none (.t 23))⟩,
    ⟨none, (.mv (some 6) (.t 22))⟩,
    ⟨none, (.mv (some 7) (.t 24))⟩])
  (.seq (.reg [⟨none, (.mv (some 25) (.t 6))⟩,
    ⟨none, (.ar 26 .gtr (.t 25) (.v (.int .i64 0)))⟩])
  (.cond (.t 26)
    (.regP 64 [⟨none, (.fa 27 49 2 (.t 5))⟩,
    ⟨none, (.ld 28 none (.t 27))⟩,
    ⟨none, (.mv (some 29) (.t 7))⟩,
    ⟨none, (.ca (some 30) 30 [(.t 29), (.v (.int .i64 0)), (.v (.int .i64 1))])⟩,
    ⟨none, (.ix 31 (.t 30) (.v (.int .i64 0)))⟩,
    ⟨none, (.mv (some 32) (.t 7))⟩,
    ⟨none, (.sc 33 none (.t 32) (some (.v (.int .i64 1))) none)⟩,
    ⟨none, (.bd 34 46 [(.int .u8 0), (.str [])] [0, 1] [(.t 31), (.t 33)])⟩,
    ⟨none, (.bs 35 46 (some 46) [(.t 34)])⟩,
    ⟨none, (.ap 36 46 (.t 28) (.t 35))⟩,
    ⟨none, (.fa 37 49 2 (.t 5))⟩,
    ⟨none, (.st none (.t 37) (.t 36))⟩])
    .skip))))
  (.reg [⟨none, (.ar 38 .add (.t 20) (.v (.int .i64 1)))⟩,
    ⟨none, (.mv (some 20) (.t 38))⟩]))))))))
  (.seq (.reg [⟨none, (.ld 39 (some 49) (.t 5))⟩,
    ⟨none, (.st (some 49) (.t 4) (.t 39))⟩])
  .ret))))
noncomputable def ent41 : TEnt := ⟨41, [.str, .str], (.opt 64 (.agg 49 (.pair .str (.pair .str (.pair (.sl 46 (.agg 46 (.pair .byte .str))) (.int .i64)))))), fun x => F41 x.1 x.2, .may 64⟩
theorem eq41 (x : dens ent41.as) : ent41.F x = evFM [ent29, ent30, entSplit, entTrimS] SHF 64 dc41 [(.cell 4 (some 49))] ent41.as (.agg 49 (.pair .str (.pair .str (.pair (.sl 46 (.agg 46 (.pair .byte .str))) (.int .i64))))) x := by kernel_rfl
/-- library/exchange.read -/
noncomputable def F32 (a0 : List UInt8) : Option (Option (Int × Int × Int × List UInt8 × List (List UInt8 × List UInt8 × (List (UInt8 × List UInt8)) × Int))) :=
  caseO (F30 a0 (0 : Int) (24 : Int))
    (some none) fun y1 =>
  gd (0 ≤ (16 : Int) ∧ (16 : Int) ≤ (20 : Int) ∧ (20 : Int) ≤ (List.length y1 : Int)) <|
  bnd (List.drop (Int.toNat (16 : Int)) (List.take (Int.toNat (20 : Int)) y1)) fun x2 =>
  caseO (F29 x2)
    (gd (0 ≤ (7 : Int) ∧ (7 : Int) ≤ (8 : Int) ∧ (8 : Int) ≤ (List.length y1 : Int)) <|
    bnd (List.drop (Int.toNat (7 : Int)) (List.take (Int.toNat (8 : Int)) y1)) fun x4 =>
    caseO (F29 x4)
      (gd (0 ≤ (6 : Int) ∧ (6 : Int) < (List.length y1 : Int)) <|
      bindO (fIdxB ([98, 115, 109, 100] : List UInt8) (List.getD y1 (Int.toNat (6 : Int)) 0)) fun y6 =>
      bnd (IntKind.wrap .i64 (y6 + (1 : Int))) fun x7 =>
      gd (0 ≤ (8 : Int) ∧ (8 : Int) ≤ (11 : Int) ∧ (11 : Int) ≤ (List.length y1 : Int)) <|
      bnd (List.drop (Int.toNat (8 : Int)) (List.take (Int.toNat (11 : Int)) y1)) fun x8 =>
      some none) fun y5 =>
    gd (0 ≤ (6 : Int) ∧ (6 : Int) < (List.length y1 : Int)) <|
    bindO (fIdxB ([98, 115, 109, 100] : List UInt8) (List.getD y1 (Int.toNat (6 : Int)) 0)) fun y9 =>
    bnd (IntKind.wrap .i64 (y9 + (1 : Int))) fun x10 =>
    gd (0 ≤ (8 : Int) ∧ (8 : Int) ≤ (11 : Int) ∧ (11 : Int) ≤ (List.length y1 : Int)) <|
    bnd (List.drop (Int.toNat (8 : Int)) (List.take (Int.toNat (11 : Int)) y1)) fun x11 =>
    some none) fun y3 =>
  gd (0 ≤ (7 : Int) ∧ (7 : Int) ≤ (8 : Int) ∧ (8 : Int) ≤ (List.length y1 : Int)) <|
  bnd (List.drop (Int.toNat (7 : Int)) (List.take (Int.toNat (8 : Int)) y1)) fun x12 =>
  caseO (F29 x12)
    (gd (0 ≤ (6 : Int) ∧ (6 : Int) < (List.length y1 : Int)) <|
    bindO (fIdxB ([98, 115, 109, 100] : List UInt8) (List.getD y1 (Int.toNat (6 : Int)) 0)) fun y14 =>
    bnd (IntKind.wrap .i64 (y14 + (1 : Int))) fun x15 =>
    gd (0 ≤ (8 : Int) ∧ (8 : Int) ≤ (11 : Int) ∧ (11 : Int) ≤ (List.length y1 : Int)) <|
    bnd (List.drop (Int.toNat (8 : Int)) (List.take (Int.toNat (11 : Int)) y1)) fun x16 =>
    some none) fun y13 =>
  gd (0 ≤ (6 : Int) ∧ (6 : Int) < (List.length y1 : Int)) <|
  bindO (fIdxB ([98, 115, 109, 100] : List UInt8) (List.getD y1 (Int.toNat (6 : Int)) 0)) fun y17 =>
  bnd (IntKind.wrap .i64 (y17 + (1 : Int))) fun x18 =>
  gd (0 ≤ (8 : Int) ∧ (8 : Int) ≤ (11 : Int) ∧ (11 : Int) ≤ (List.length y1 : Int)) <|
  bnd (List.drop (Int.toNat (8 : Int)) (List.take (Int.toNat (11 : Int)) y1)) fun x19 =>
  gd (0 ≤ (11 : Int) ∧ (11 : Int) ≤ (16 : Int) ∧ (16 : Int) ≤ (List.length y1 : Int)) <|
  bnd (List.drop (Int.toNat (11 : Int)) (List.take (Int.toNat (16 : Int)) y1)) fun x20 =>
  caseO (F29 x20)
    (some none) fun y21 =>
  gdN (0) (List.length ([] : List (List UInt8 × List UInt8 × (List (UInt8 × List UInt8)) × Int))) <|
  loopK (σ := Int × (Int × Int × Int × List UInt8 × List (List UInt8 × List UInt8 × (List (UInt8 × List UInt8)) × Int))) (fun p22 againp22 =>
    bnd (IntKind.wrap .i64 (p22.1 + (12 : Int))) fun x23 =>
    cond (decide (x23 < y21))
      (caseO (F30 a0 p22.1 (12 : Int))
        (some none) fun y24 =>
      gd (0 ≤ (3 : Int) ∧ (3 : Int) ≤ (List.length y24 : Int)) <|
      bnd (List.take (Int.toNat (3 : Int)) y24) fun x25 =>
      gd (0 ≤ (7 : Int) ∧ (7 : Int) ≤ (List.length y24 : Int)) <|
      bnd (List.drop (Int.toNat (7 : Int)) y24) fun x26 =>
      caseO (F29 x26)
        (gd (0 ≤ (3 : Int) ∧ (3 : Int) ≤ (7 : Int) ∧ (7 : Int) ≤ (List.length y24 : Int)) <|
        bnd (List.drop (Int.toNat (3 : Int)) (List.take (Int.toNat (7 : Int)) y24)) fun x28 =>
        caseO (F29 x28)
          (some none) fun y29 =>
        some none) fun y27 =>
      bnd (IntKind.wrap .i64 (y21 + y27)) fun x30 =>
      gd (0 ≤ (3 : Int) ∧ (3 : Int) ≤ (7 : Int) ∧ (7 : Int) ≤ (List.length y24 : Int)) <|
      bnd (List.drop (Int.toNat (3 : Int)) (List.take (Int.toNat (7 : Int)) y24)) fun x31 =>
      caseO (F29 x31)
        (some none) fun y32 =>
      caseO (F30 a0 x30 y32)
        (some none) fun y33 =>
      caseO (F41 x25 y33)
        (some none) fun y34 =>
      gdN (List.length p22.2.2.2.2.2) (List.length p22.2.2.2.2.2) <|
      gd (List.length p22.2.2.2.2.2 + List.length [y34] ≤ big) <|
      bnd (p22.2.2.2.2.2 ++ [y34]) fun l35 =>
      bnd (IntKind.wrap .i64 (p22.1 + (12 : Int))) fun x36 =>
      gdN (List.length l35) (List.length l35) <|
      againp22 (x36, (p22.2.1, p22.2.2.1, p22.2.2.2.1, p22.2.2.2.2.1, l35)))
      (some (some (p22.2.1, p22.2.2.1, p22.2.2.2.1, p22.2.2.2.2.1, p22.2.2.2.2.2)))) ((24 : Int), (y3, y13, x18, x19, ([] : List (List UInt8 × List UInt8 × (List (UInt8 × List UInt8)) × Int))))
def dc32 : DC :=
  (.seq (.reg [⟨none, (.al 2 (.agg 24 [(.int .i64 0), (.int .i64 0), (.int .i64 0), (.str []), (.sl (some 5900000) 49 [])]))⟩])
  (.seq (.regP 64 [⟨none, (.mv (some 8) (.t 0))⟩,
    ⟨none, (.ca (some 9) 30 [(.t 8), (.v (.int .i64 0)), (.v (.int .i64 24))])⟩,
    ⟨none, (.mv (some 3) (.t 9))⟩])
  (.seq (.regP 64 [⟨none, (.mv (some 10) (.t 3))⟩,
    ⟨none, (.sc 11 none (.t 10) (some (.v (.int .i64 16))) (some (.v (.int .i64 20))))⟩,
    ⟨none, (.ca (some 12) 29 [(.t 11)])⟩,
    ⟨none, (.mv (some 13) (.t 3))⟩,
    ⟨none, (.sc 14 none (.t 13) (some (.v (.int .i64 7))) (some (.v (.int .i64 8))))⟩,
    ⟨none, (.ca (some 15) 29 [(.t 14)])⟩,
    ⟨none, (.mv (some 16) (.t 3))⟩,
    ⟨none, (.ix 17 (.t 16) (.v (.int .i64 6)))⟩,
    ⟨none, (.ca (some 18) 40 [(.v (.str [98, 115, 109, 100])), (.t 17)])⟩,
    ⟨none, (.ar 19 .add (.t 18) (.v (.int .i64 1)))⟩,
    ⟨none, (.mv (some 20) (.t 3))⟩,
    ⟨none, (.sc 21 none (.t 20) (some (.v (.int .i64 8))) (some (.v (.int .i64 11))))⟩,
    ⟨none, (.bd 22 24 [(.int .i64 0), (.int .i64 0), (.int .i64 0), (.str []), (.sl (some 5900000) 49 [])] [0, 1, 2, 3] [(.t 12), (.t 15), (.t 19), (.t 21)])⟩,
    ⟨none, (.al 4 (.agg 24 [(.int .i64 0), (.int .i64 0), (.int .i64 0), (.str []), (.sl (some 5900000) 49 [])]))⟩,
    ⟨none, (.st (some 24) (.t 4) (.t 22))⟩])
  (.seq (.regP 64 [⟨none, (.mv (some 23) (.t 3))⟩,
    ⟨none, (.sc 24 none (.t 23) (some (.v (.int .i64 11))) (some (.v (.int .i64 16))))⟩,
    ⟨none, (.ca (some 25) 29 [(.t 24)])⟩,
    ⟨none, (.mv (some 5) (.t 25))⟩])
  (.seq (.seq (.reg [⟨none, (.mv (some 6) (.v (.int .i64 24)))⟩])
  (.seq (.gh 6000404 [])
  (.block 0 (.loop ⟨[(6, (.lf (.int .i64)))], [(4, (.agg 24 (.pair (.lf (.int .i64)) (.pair (.lf (.int .i64)) (.pair (.lf (.int .i64)) (.pair (.lf .str) (.row 6000404 49 (.agg 49 (.pair .str (.pair .str (.pair (.sl 46 (.agg 46 (.pair .byte .str))) (.int .i64))))))))))))], [7, 26, 27, 28, 29, 30, 31, 32, 33, 34, 35, 36, 37, 38, 39, 40, 41, 42, 43, 44, 45, 46, 47, 48, 49, 50, 51, 52].map .s ++ [50].map .f⟩ (.seq (.seq (.reg [⟨none, (.mv (some 26) (.t 6))⟩,
    ⟨none, (.ar 27 .add (.t 26) (.v (.int .i64 12)))⟩,
    ⟨none, (.mv (some 28) (.t 5))⟩,
    ⟨none, (.ar 29 .lss (.t 27) (.t 28))⟩])
  (.cond (.t 29)
    .skip
    (.exit 0)))
  (.seq (.block 1 (.seq (.regP 64 [⟨none, (.mv (some 32) (.t 0))⟩,
    ⟨none, (.mv (some 33) (.t 6))⟩,
    ⟨none, (.ca (some 34) 30 [(.t 32), (.t 33), (.v (.int .i64 12))])⟩,
    ⟨none, (.mv (some 7) (.t 34))⟩])
  (.regP 64 [⟨none, (.fa 35 24 4 (.t 4))⟩,
    ⟨none, (.ld 36 none (.t 35))⟩,
    ⟨none, (.mv (some 37) (.t 7))⟩,
    ⟨none, (.sc 38 none (.t 37) none (some (.v (.int .i64 3))))⟩,
    ⟨none, (.mv (some 39) (.t 0))⟩,
    ⟨none, (.mv (some 40) (.t 5))⟩,
    ⟨none, (.mv (some 41) (.t 7))⟩,
    ⟨none, (.sc 42 none (.t 41) (some (.v (.int .i64 7))) none)⟩,
    ⟨none, (.ca (some 43) 29 [(.t 42)])⟩,
    ⟨none, (.ar 44 .add (.t 40) (.t 43))⟩,
    ⟨none, (.mv (some 45) (.t 7))⟩,
    ⟨none, (.sc 46 none (.t 45) (some (.v (.int .i64 3))) (some (.v (.int .i64 7))))⟩,
    ⟨none, (.ca (some 47) 29 [(.t 46)])⟩,
    ⟨none, (.ca (some 48) 30 [(.t 39), (.t 44), (.t 47)])⟩,
    ⟨none, (.ca (some 49) 41 [(.t 38), (.t 48)])⟩,
    ⟨none, (.bs 50 49 (some 49) [(.t 49)])⟩,
    ⟨none, (.ap 51 49 (.t 36) (.t 50))⟩,
    ⟨none, (.fa 52 24 4 (.t 4))⟩,
    ⟨none, (.st none (.t 52) (.t 51))⟩])))
  (.reg [⟨none, (.mv (some 30) (.t 6))⟩,
    ⟨none, (.ar 31 .add (.t 30) (.v (.int .i64 12)))⟩,
    ⟨none, (.mv (some 6) (.t 31))⟩])))))))
  (.seq (.reg [⟨none, (.ld 53 (some 24) (.t 4))⟩,
    ⟨none, (.st (some 24) (.t 2) (.t 53))⟩])
  .ret))))))
noncomputable def ent32 : TEnt := ⟨32, [.str], (.opt 64 (.agg 24 (.pair (.int .i64) (.pair (.int .i64) (.pair (.int .i64) (.pair .str (.sl 49 (.agg 49 (.pair .str (.pair .str (.pair (.sl 46 (.agg 46 (.pair .byte .str))) (.int .i64)))))))))))), fun x => F32 x, .may 64⟩
theorem eq32 (x : dens ent32.as) : ent32.F x = evFM [ent29, ent30, entIdxB, ent41] SHF 64 dc32 [(.cell 2 (some 24))] ent32.as (.agg 24 (.pair (.int .i64) (.pair (.int .i64) (.pair (.int .i64) (.pair .str (.sl 49 (.agg 49 (.pair .str (.pair .str (.pair (.sl 46 (.agg 46 (.pair .byte .str))) (.int .i64))))))))))) x := by kernel_rfl
theorem mixedF : Tryd.prog.follows .mixedOrders = true := by kernel_rfl
section
variable {G : World → Prop} (hG : Keeps G)
include hG in
theorem ok50 (h34 : TEnt.Ok Tryd.prog G entTrim) : TEnt.Ok Tryd.prog G ent50 :=
  ent_ok hG mixedF (fn := Tryd.f50) (d := dc50) (crs := [(.tmp 2)]) (hint := []) (TT := [entTrim]) (SH := SHF) rfl rfl (by kernel_rfl) (splitsNil (by kernel_rfl)) (by decide) rfl ⟨h34, trivial⟩ eq50
include hG in
theorem ok71 (h89 : TEnt.Ok Tryd.prog G entVal) : TEnt.Ok Tryd.prog G ent71 :=
  ent_ok hG mixedF (fn := Tryd.f71) (d := dc71) (crs := [(.tmp 2)]) (hint := []) (TT := [entVal]) (SH := SHF) rfl rfl (by kernel_rfl) (splitsNil (by kernel_rfl)) (by decide) rfl ⟨h89, trivial⟩ eq71
include hG in
theorem ok70 : TEnt.Ok Tryd.prog G ent70 :=
  ent_ok hG mixedF (fn := Tryd.f70) (d := dc70) (crs := [(.tmp 2)]) (hint := []) (TT := []) (SH := SHF) rfl rfl (by kernel_rfl) (splitsNil (by kernel_rfl)) (by decide) rfl trivial eq70
include hG in
theorem ok52 (h70 : TEnt.Ok Tryd.prog G ent70) (h71 : TEnt.Ok Tryd.prog G ent71) : TEnt.Ok Tryd.prog G ent52 :=
  ent_ok hG mixedF (fn := Tryd.f52) (d := dc52) (crs := [(.tmp 2)]) (hint := []) (TT := [ent70, ent71]) (SH := SHF) rfl rfl (by kernel_rfl) (splitsNil (by kernel_rfl)) (by decide) rfl ⟨h70, h71, trivial⟩ eq52
include hG in
theorem ok35 (h50 : TEnt.Ok Tryd.prog G ent50) (h51 : TEnt.Ok Tryd.prog G entRepl) (h52 : TEnt.Ok Tryd.prog G ent52) : TEnt.Ok Tryd.prog G ent35 :=
  ent_ok hG mixedF (fn := Tryd.f35) (d := dc35) (crs := [(.tmp 2)]) (hint := []) (TT := [ent50, entRepl, ent52]) (SH := SHF) rfl rfl (by kernel_rfl) (splitsNil (by kernel_rfl)) (by decide) rfl ⟨h50, h51, h52, trivial⟩ eq35
include hG in
theorem ok20 (h34 : TEnt.Ok Tryd.prog G entTrim) (h35 : TEnt.Ok Tryd.prog G ent35) : TEnt.Ok Tryd.prog G ent20 :=
  ent_ok hG mixedF (fn := Tryd.f20) (d := dc20) (crs := [(.tmp 2)]) (hint := []) (TT := [entTrim, ent35]) (SH := SHF) rfl rfl (by kernel_rfl) (splitsNil (by kernel_rfl)) (by decide) rfl ⟨h34, h35, trivial⟩ eq20
include hG in
theorem ok23 (h24 : TEnt.Ok Tryd.prog G entItoa) (h37 : TEnt.Ok Tryd.prog G entRepeat) : TEnt.Ok Tryd.prog G ent23 :=
  ent_ok hG mixedF (fn := Tryd.f23) (d := dc23) (crs := [(.tmp 4)]) (hint := []) (TT := [entItoa, entRepeat]) (SH := SHF) rfl rfl (by kernel_rfl) (splitsNil (by kernel_rfl)) (by decide) rfl ⟨h24, h37, trivial⟩ eq23
include hG in
theorem ok9 (h20 : TEnt.Ok Tryd.prog G ent20) (h21 : TEnt.Ok Tryd.prog G entLen) (h22 : TEnt.Ok Tryd.prog G entWriteString) (h23 : TEnt.Ok Tryd.prog G ent23) (h24 : TEnt.Ok Tryd.prog G entItoa) (h25 : TEnt.Ok Tryd.prog G entString) : TEnt.Ok Tryd.prog G ent9 :=
  ent_ok hG mixedF (fn := Tryd.f9) (d := dc9) (crs := [(.tmp 2), (.tmp 3)]) (hint := []) (TT := [ent20, entLen, entWriteString, ent23, entItoa, entString]) (SH := SHF) rfl rfl (by kernel_rfl) (splitsNil (by kernel_rfl)) (by decide) rfl ⟨h20, h21, h22, h23, h24, h25, trivial⟩ eq9
include hG in
theorem ok80 : TEnt.Ok Tryd.prog G ent80 :=
  ent_ok hG mixedF (fn := Tryd.f80) (d := dc80) (crs := [(.tmp 4), (.tmp 5)]) (hint := []) (TT := []) (SH := SHF) rfl rfl (by kernel_rfl) (splitsNil (by kernel_rfl)) (by decide) rfl trivial eq80
include hG in
theorem ok61 (h80 : TEnt.Ok Tryd.prog G ent80) : TEnt.Ok Tryd.prog G ent61 :=
  ent_ok hG mixedF (fn := Tryd.f61) (d := dc61) (crs := [(.tmp 2)]) (hint := []) (TT := [ent80]) (SH := SHF) rfl rfl (by kernel_rfl) (splitsNil (by kernel_rfl)) (by decide) rfl ⟨h80, trivial⟩ eq61
include hG in
theorem ok59 : TEnt.Ok Tryd.prog G ent59 :=
  ent_ok hG mixedF (fn := Tryd.f59) (d := dc59) (crs := [(.tmp 2)]) (hint := []) (TT := []) (SH := SHF) rfl rfl (by kernel_rfl) (splitsNil (by kernel_rfl)) (by decide) rfl trivial eq59
include hG in
theorem ok58 (h59 : TEnt.Ok Tryd.prog G ent59) : TEnt.Ok Tryd.prog G ent58 :=
  ent_ok hG mixedF (fn := Tryd.f58) (d := dc58) (crs := [(.tmp 2)]) (hint := []) (TT := [ent59]) (SH := SHF) rfl rfl (by kernel_rfl) (splitsNil (by kernel_rfl)) (by decide) rfl ⟨h59, trivial⟩ eq58
include hG in
theorem ok60 (h59 : TEnt.Ok Tryd.prog G ent59) : TEnt.Ok Tryd.prog G ent60 :=
  ent_ok hG mixedF (fn := Tryd.f60) (d := dc60) (crs := [(.tmp 2)]) (hint := []) (TT := [ent59]) (SH := SHF) rfl rfl (by kernel_rfl) (splitsNil (by kernel_rfl)) (by decide) rfl ⟨h59, trivial⟩ eq60
include hG in
theorem ok39 (h58 : TEnt.Ok Tryd.prog G ent58) (h59 : TEnt.Ok Tryd.prog G ent59) (h60 : TEnt.Ok Tryd.prog G ent60) (h61 : TEnt.Ok Tryd.prog G ent61) : TEnt.Ok Tryd.prog G ent39 :=
  ent_ok hG mixedF (fn := Tryd.f39) (d := dc39) (crs := [(.tmp 2)]) (hint := []) (TT := [ent58, ent59, ent60, ent61]) (SH := SHF) rfl rfl (by kernel_rfl) (splitsNil (by kernel_rfl)) (by decide) rfl ⟨h58, h59, h60, h61, trivial⟩ eq39
include hG in
theorem ok26 (h39 : TEnt.Ok Tryd.prog G ent39) : TEnt.Ok Tryd.prog G ent26 :=
  ent_ok hG mixedF (fn := Tryd.f26) (d := dc26) (crs := [(.tmp 2)]) (hint := []) (TT := [ent39]) (SH := SHF) rfl rfl (by kernel_rfl) (splitsNil (by kernel_rfl)) (by decide) rfl ⟨h39, trivial⟩ eq26
include hG in
theorem ok27 : TEnt.Ok Tryd.prog G ent27 :=
  ent_ok hG mixedF (fn := Tryd.f27) (d := dc27) (crs := [(.tmp 4)]) (hint := []) (TT := []) (SH := SHF) rfl rfl (by kernel_rfl) (splitsNil (by kernel_rfl)) (by decide) rfl trivial eq27
include hG in
theorem ok10 (h26 : TEnt.Ok Tryd.prog G ent26) (h27 : TEnt.Ok Tryd.prog G ent27) : TEnt.Ok Tryd.prog G ent10 :=
  ent_ok hG mixedF (fn := Tryd.f10) (d := dc10) (crs := [(.tmp 2), (.tmp 3)]) (hint := []) (TT := [ent26, ent27]) (SH := SHF) rfl rfl (by kernel_rfl) (splitsNil (by kernel_rfl)) (by decide) rfl ⟨h26, h27, trivial⟩ eq10
include hG in
theorem ok42 : TEnt.Ok Tryd.prog G ent42 :=
  ent_ok hG mixedF (fn := Tryd.f42) (d := dc42) (crs := [(.tmp 4)]) (hint := []) (TT := []) (SH := SHF) rfl rfl (by kernel_rfl) (splitsNil (by kernel_rfl)) (by decide) rfl trivial eq42
include hG in
theorem ok33 (h42 : TEnt.Ok Tryd.prog G ent42) : TEnt.Ok Tryd.prog G ent33 :=
  ent_ok hG mixedF (fn := Tryd.f33) (d := dc33) (crs := [(.tmp 4)]) (hint := []) (TT := [ent42]) (SH := SHF) rfl rfl (by kernel_rfl) (splitsNil (by kernel_rfl)) (by decide) rfl ⟨h42, trivial⟩ eq33
include hG in
theorem ok17 (h33 : TEnt.Ok Tryd.prog G ent33) : TEnt.Ok Tryd.prog G ent17 :=
  ent_ok hG mixedF (fn := Tryd.f17) (d := dc17) (crs := [(.tmp 4)]) (hint := []) (TT := [ent33]) (SH := SHF) rfl rfl (by kernel_rfl) (splitsNil (by kernel_rfl)) (by decide) rfl ⟨h33, trivial⟩ eq17
include hG in
theorem ok19 (h17 : TEnt.Ok Tryd.prog G ent17) : TEnt.Ok Tryd.prog G ent19 :=
  ent_ok hG mixedF (fn := Tryd.f19) (d := dc19) (crs := [(.tmp 4)]) (hint := []) (TT := [ent17]) (SH := SHF) rfl rfl (by kernel_rfl) (splitsNil (by kernel_rfl)) (by decide) rfl ⟨h17, trivial⟩ eq19
include hG in
theorem ok8 : TEnt.Ok Tryd.prog G ent8 :=
  ent_ok hG mixedF (fn := Tryd.f8) (d := dc8) (crs := [(.tmp 2)]) (hint := []) (TT := []) (SH := SHF) rfl rfl (by kernel_rfl) (splitsNil (by kernel_rfl)) (by decide) rfl trivial eq8
include hG in
theorem ok14 (h8 : TEnt.Ok Tryd.prog G ent8) : TEnt.Ok Tryd.prog G ent14 :=
  ent_ok hG mixedF (fn := Tryd.f14) (d := dc14) (crs := [(.tmp 2)]) (hint := []) (TT := [ent8]) (SH := SHF) rfl rfl (by kernel_rfl) (splitsNil (by kernel_rfl)) (by decide) rfl ⟨h8, trivial⟩ eq14
include hG in
theorem ok15 (h9 : TEnt.Ok Tryd.prog G ent9) (h21 : TEnt.Ok Tryd.prog G entLen) (h22 : TEnt.Ok Tryd.prog G entWriteString) (h25 : TEnt.Ok Tryd.prog G entString) : TEnt.Ok Tryd.prog G ent15 :=
  ent_ok hG mixedF (fn := Tryd.f15) (d := dc15) (crs := [(.tmp 2), (.tmp 3)]) (hint := []) (TT := [ent9, entLen, entWriteString, entString]) (SH := SHF) rfl rfl (by kernel_rfl) (splitsNil (by kernel_rfl)) (by decide) rfl ⟨h9, h21, h22, h25, trivial⟩ eq15
include hG in
theorem ok16 (h10 : TEnt.Ok Tryd.prog G ent10) : TEnt.Ok Tryd.prog G ent16 :=
  ent_ok hG mixedF (fn := Tryd.f16) (d := dc16) (crs := [(.tmp 2), (.tmp 3)]) (hint := []) (TT := [ent10]) (SH := SHF) rfl rfl (by kernel_rfl) (splitsNil (by kernel_rfl)) (by decide) rfl ⟨h10, trivial⟩ eq16
include hG in
theorem ok29 : TEnt.Ok Tryd.prog G ent29 :=
  ent_okM hG mixedF (fn := Tryd.f29) (d := dc29) (crs := [(.tmp 2)]) (hint := []) (TT := []) (SH := SHF) rfl rfl (by kernel_rfl) (splitsNil (by kernel_rfl)) (by decide) rfl trivial eq29
include hG in
theorem ok30 : TEnt.Ok Tryd.prog G ent30 :=
  ent_okM hG mixedF (fn := Tryd.f30) (d := dc30) (crs := [(.tmp 6)]) (hint := []) (TT := []) (SH := SHF) rfl rfl (by kernel_rfl) (splitsNil (by kernel_rfl)) (by decide) rfl trivial eq30
include hG in
theorem ok41 (h29 : TEnt.Ok Tryd.prog G ent29) (h30 : TEnt.Ok Tryd.prog G ent30) (h63 : TEnt.Ok Tryd.prog G entSplit) (h64 : TEnt.Ok Tryd.prog G entTrimS) : TEnt.Ok Tryd.prog G ent41 :=
  ent_okM hG mixedF (fn := Tryd.f41) (d := dc41) (crs := [(.cell 4 (some 49))]) (hint := [(30000000, 49), (10000000, 6000502)]) (TT := [ent29, ent30, entSplit, entTrimS]) (SH := SHF) rfl rfl (by kernel_rfl) (splitsNil (by kernel_rfl)) (by decide) rfl ⟨h29, h30, h63, h64, trivial⟩ eq41
include hG in
theorem ok32 (h29 : TEnt.Ok Tryd.prog G ent29) (h30 : TEnt.Ok Tryd.prog G ent30) (h40 : TEnt.Ok Tryd.prog G entIdxB) (h41 : TEnt.Ok Tryd.prog G ent41) : TEnt.Ok Tryd.prog G ent32 :=
  ent_okM hG mixedF (fn := Tryd.f32) (d := dc32) (crs := [(.cell 2 (some 24))]) (hint := [(30000000, 24), (10000000, 6000404)]) (TT := [ent29, ent30, entIdxB, ent41]) (SH := SHF) rfl rfl (by kernel_rfl) (splitsNil (by kernel_rfl)) (by decide) rfl ⟨h29, h30, h40, h41, trivial⟩ eq32
end
end Go.Proofs.YtnhjoplleldbfaaDoor
