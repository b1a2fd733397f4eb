/-
  THE FUNCTIONS AS PLAIN ONES (printed by a program of ours), and that they are what the code's runs give.
-/
import Derived.Test.YtbkaenpcmbplpaaDoorE
namespace Go.Proofs.YtbkaenpcmbplpaaDoor
open Go Go.Nu
set_option maxRecDepth 100000
set_option linter.unusedVariables false
def SHF : List (TypeId × Sh) := [(5, .byte), (9, .str), (25, (.agg 25 (.pair (.int .i64) (.pair (.int .i64) (.pair (.int .i64) (.pair .str (.sl 40 (.agg 40 (.pair .str (.pair .str (.pair (.sl 37 (.agg 37 (.pair .byte .str))) (.int .i64)))))))))))), (37, (.agg 37 (.pair .byte .str))), (40, (.agg 40 (.pair .str (.pair .str (.pair (.sl 37 (.agg 37 (.pair .byte .str))) (.int .i64)))))), (75, (.arr 75 .bool)), (76, (.arr 76 .bool)), (105, (.arr 105 .byte)), (121, (.arr 121 .byte)), (124, (.arr 124 (.agg 123 (.pair .byte .byte)))), (128, (.arr 128 (.int .u64))), (129, (.arr 129 .byte)), (138, (.arr 138 .byte)), (139, (.arr 139 .byte))]
/-- library/field.digits -/
noncomputable def F39 (a0 : List UInt8) : Option (Bool) :=
  bindO (fTrim a0 ([48, 49, 50, 51, 52, 53, 54, 55, 56, 57] : List UInt8)) fun y1 =>
  some (decide (y1 = ([] : List UInt8)))
def dc39 : DC :=
  (.seq (.reg [⟨none, (.mv (some 2) (.v (.bool false)))⟩])
  (.seq (.reg [⟨none, (.mv (some 3) (.t 0))⟩,
    ⟨none, (.ca (some 4) 19 [(.t 3), (.v (.str [48, 49, 50, 51, 52, 53, 54, 55, 56, 57]))])⟩,
    ⟨none, (.ar 5 .eql (.t 4) (.v (.str [])))⟩,
    ⟨none, (.mv (some 2) (.t 5))⟩])
  .ret))
noncomputable def ent39 : TEnt := ⟨39, [.str], .bool, fun x => F39 x, .plain⟩
theorem eq39 (x : dens ent39.as) : ent39.F x = evF [entTrim] SHF dc39 [(.tmp 2)] ent39.as ent39.rs x := by kernel_rfl
/-- library/field.coded -/
noncomputable def F53 (a0 : UInt8) : Option (Bool) :=
  cond (decide ((97 : Int) ≤ (UInt8.toNat a0 : Int)))
    (cond (decide ((UInt8.toNat a0 : Int) ≤ (122 : Int)))
      (some true)
      (cond (decide ((48 : Int) ≤ (UInt8.toNat a0 : Int)))
        (some (decide ((UInt8.toNat a0 : Int) ≤ (57 : Int))))
        (some false)))
    (cond (decide ((48 : Int) ≤ (UInt8.toNat a0 : Int)))
      (some (decide ((UInt8.toNat a0 : Int) ≤ (57 : Int))))
      (some false))
def dc53 : DC :=
  (.seq (.reg [⟨none, (.mv (some 2) (.v (.bool false)))⟩])
  (.seq (.reg [⟨none, (.mv (some 3) (.t 0))⟩,
    ⟨none, (.ar 4 .geq (.t 3) (.v (.int .u8 97)))⟩,
    ⟨none, (.mv (some 5) (.t 4))⟩,
    ⟨(some (5, true)), (.mv (some 6) (.t 0))⟩,
    ⟨(some (5, true)), (.ar 7 .leq (.t 6) (.v (.int .u8 122)))⟩,
    ⟨none, (.pick 8 (.t 5) (.t 7) (.v (.bool false)))⟩,
    ⟨none, (.mv (some 9) (.t 8))⟩,
    ⟨(some (9, false)), (.mv (some 10) (.t 0))⟩,
    ⟨(some (9, false)), (.ar 11 .geq (.t 10) (.v (.int .u8 48)))⟩,
    ⟨(some (9, false)), (.mv (some 12) (.t 11))⟩,
    ⟨(some (12, true)), (.mv (some 13) (.t 0))⟩,
    ⟨(some (12, true)), (.ar 14 .leq (.t 13) (.v (.int .u8 57)))⟩,
    ⟨(some (9, false)), (.pick 15 (.t 12) (.t 14) (.v (.bool false)))⟩,
    ⟨none, (.pick 16 (.t 9) (.v (.bool true)) (.t 15))⟩,
    ⟨none, (.mv (some 2) (.t 16))⟩])
  .ret))
noncomputable def ent53 : TEnt := ⟨53, [.byte], .bool, fun x => F53 x, .plain⟩
theorem eq53 (x : dens ent53.as) : ent53.F x = evF [] SHF dc53 [(.tmp 2)] ent53.as ent53.rs x := by kernel_rfl
/-- library/text.Valid -/
noncomputable def F54 (a0 : List UInt8) : Option (Bool) :=
  bindO (fVal a0) fun y1 =>
  cond (!y1)
    (some false)
    (loopK (σ := (List UInt8 × Nat)) (fun p2 againp2 =>
      cond (decide (p2.2 < List.length p2.1))
        (cond (decide ((((Utf8.decode ⟨List.toArray p2.1⟩ p2.2).1 : Nat) : Int) < (32 : Int)))
          (some false)
          (cond (decide ((127 : Int) ≤ (((Utf8.decode ⟨List.toArray p2.1⟩ p2.2).1 : Nat) : Int)))
            (cond (decide ((((Utf8.decode ⟨List.toArray p2.1⟩ p2.2).1 : Nat) : Int) ≤ (159 : Int)))
              (some false)
              (cond (decide ((65535 : Int) < (((Utf8.decode ⟨List.toArray p2.1⟩ p2.2).1 : Nat) : Int)))
                (some false)
                (againp2 (p2.1, (p2.2 + (Utf8.decode ⟨List.toArray p2.1⟩ p2.2).2)))))
            (cond (decide ((65535 : Int) < (((Utf8.decode ⟨List.toArray p2.1⟩ p2.2).1 : Nat) : Int)))
              (some false)
              (againp2 (p2.1, (p2.2 + (Utf8.decode ⟨List.toArray p2.1⟩ p2.2).2))))))
        (some true)) (a0, 0))
def dc54 : DC :=
  (.seq (.reg [⟨none, (.mv (some 2) (.v (.bool false)))⟩])
  (.seq (.seq (.reg [⟨none, (.mv (some 5) (.t 0))⟩,
    ⟨none, (.ca (some 6) 72 [(.t 5)])⟩,
    ⟨none, (.un 7 .not (.t 6))⟩])
  (.cond (.t 7)
    (.seq (.reg [⟨none, (.mv (some 2) (.v (.bool false)))⟩])
  .ret)
    .skip))
  (.seq (.seq (.reg [⟨none, (.mv (some 8) (.t 0))⟩,
    ⟨none, (.rg 9 (.t 8))⟩])
  (.block 0 (.loop ⟨[], [(9, .itc)], [2, 4, 10, 11, 12, 13, 14, 15, 16, 17, 18, 19, 20, 21, 22, 23, 24, 25, 26].map .s⟩ (.seq (.reg [⟨none, (.nx 10 (.t 9))⟩,
    ⟨none, (.ex 11 0 (.t 10))⟩])
  (.seq (.cond (.t 11)
    .skip
    (.exit 0))
  (.block 1 (.seq (.reg [⟨none, (.ex 12 2 (.t 10))⟩,
    ⟨none, (.mv (some 4) (.t 12))⟩])
  (.seq (.reg [⟨none, (.mv (some 13) (.t 4))⟩,
    ⟨none, (.ar 14 .lss (.t 13) (.v (.int .i32 32)))⟩,
    ⟨none, (.mv (some 15) (.t 14))⟩,
    ⟨(some (15, false)), (.mv (some 16) (.t 4))⟩,
    ⟨(some (15, false)), (.ar 17 .geq (.t 16) (.v (.int .i32 127)))⟩,
    ⟨(some (15, false)), (.mv (some 18) (.t 17))⟩,
    ⟨(some (18, true)), (.mv (some 19) (.t 4))⟩,
    ⟨(some (18, true)), (.ar 20 .leq (.t 19) (.v (.int .i32 159)))⟩,
    ⟨(some (15, false)), (.pick 21 (.t 18) (.t 20) (.v (.bool false)))⟩,
    ⟨none, (.pick 22 (.t 15) (.v (.bool true)) (.t 21))⟩,
    ⟨none, (.mv (some 23) (.t 22))⟩,
    ⟨(some (23, false)), (.mv (some 24) (.t 4))⟩,
    ⟨(some (23, false)), (.ar 25 .gtr (.t 24) (.v (.int .i32 65535)))⟩,
    ⟨none, (.pick 26 (.t 23) (.v (.bool true)) (.t 25))⟩])
  (.cond (.t 26)
    (.seq (.reg [⟨none, (.mv (some 2) (.v (.bool false)))⟩])
  .ret)
    .skip)))))))))
  (.seq (.reg [⟨none, (.mv (some 2) (.v (.bool true)))⟩])
  .ret))))
noncomputable def ent54 : TEnt := ⟨54, [.str], .bool, fun x => F54 x, .plain⟩
theorem eq54 (x : dens ent54.as) : ent54.F x = evF [entVal] SHF dc54 [(.tmp 2)] ent54.as ent54.rs x := by kernel_rfl
/-- library/field.checkSub -/
noncomputable def F40 (a0 : UInt8 × List UInt8) : Option (Int) :=
  bindO (F53 a0.1) fun y1 =>
  cond (!y1)
    (some (1 : Int))
    (cond (decide (a0.2 = ([] : List UInt8)))
      (some (8 : Int))
      (bindO (F54 a0.2) fun y2 =>
      cond (!y2)
        (some (3 : Int))
        (cond (decide ((200 : Int) < (List.length a0.2 : Int)))
          (some (4 : Int))
          (some (0 : Int)))))
def dc40 : DC :=
  (.seq (.reg [⟨none, (.bx 1 (some 37) (.t 0))⟩,
    ⟨none, (.mv (some 2) (.v (.int .i64 0)))⟩])
  (.seq (.block 0 (.seq (.reg [⟨none, (.fa 4 37 0 (.t 1))⟩,
    ⟨none, (.ld 5 none (.t 4))⟩,
    ⟨none, (.ca (some 6) 53 [(.t 5)])⟩,
    ⟨none, (.un 7 .not (.t 6))⟩,
    ⟨none, (.mv (some 3) (.t 7))⟩])
  (.cond (.t 3)
    (.seq (.reg [⟨none, (.mv (some 2) (.v (.int .i64 1)))⟩])
  .ret)
    (.seq (.reg [⟨none, (.fa 9 37 1 (.t 1))⟩,
    ⟨none, (.ld 10 none (.t 9))⟩,
    ⟨none, (.ar 11 .eql (.t 10) (.v (.str [])))⟩,
    ⟨none, (.mv (some 8) (.t 11))⟩])
  (.cond (.t 8)
    (.seq (.reg [⟨none, (.mv (some 2) (.v (.int .i64 8)))⟩])
  .ret)
    (.seq (.reg [⟨none, (.fa 13 37 1 (.t 1))⟩,
    ⟨none, (.ld 14 none (.t 13))⟩,
    ⟨none, (.ca (some 15) 54 [(.t 14)])⟩,
    ⟨none, (.un 16 .not (.t 15))⟩,
    ⟨none, (.mv (some 12) (.t 16))⟩])
  (.cond (.t 12)
    (.seq (.reg [⟨none, (.mv (some 2) (.v (.int .i64 3)))⟩])
  .ret)
    (.seq (.reg [⟨none, (.fa 18 37 1 (.t 1))⟩,
    ⟨none, (.ld 19 none (.t 18))⟩,
    ⟨none, (.ln 20 none (.t 19))⟩,
    ⟨none, (.ar 21 .gtr (.t 20) (.v (.int .i64 200)))⟩,
    ⟨none, (.mv (some 17) (.t 21))⟩])
  (.cond (.t 17)
    (.seq (.reg [⟨none, (.mv (some 2) (.v (.int .i64 4)))⟩])
  .ret)
    .skip)))))))))
  (.seq (.reg [⟨none, (.mv (some 2) (.v (.int .i64 0)))⟩])
  .ret)))
noncomputable def ent40 : TEnt := ⟨40, [(.agg 37 (.pair .byte .str))], (.int .i64), fun x => F40 x, .plain⟩
theorem eq40 (x : dens ent40.as) : ent40.F x = evF [ent53, ent54] SHF dc40 [(.tmp 2)] ent40.as ent40.rs x := by kernel_rfl
/-- library/field.Right -/
noncomputable def F20 (a0 : List UInt8 × List UInt8 × (List (UInt8 × List UInt8)) × Int) : Option (Int) :=
  jn (σ := Bool) (fun nextj1 =>
    cond (!decide ((List.length a0.1 : Int) = (3 : Int)))
      (nextj1 true)
      (bindO (F39 a0.1) fun y2 =>
      cond (!y2)
        (nextj1 true)
        (nextj1 (Op.bytesLess a0.1 ([48, 49, 48] : List UInt8))))) fun j1 =>
  cond (j1)
    (some (6 : Int))
    (jn (σ := Bool) (fun nextj3 =>
      cond (!decide ((List.length a0.2.1 : Int) = (2 : Int)))
        (nextj3 true)
        (bindO (fRepl a0.2.1 ([32] : List UInt8) ([48] : List UInt8)) fun y4 =>
        bindO (F39 y4) fun y5 =>
        nextj3 (!y5))) fun j3 =>
    cond (j3)
      (some (3 : Int))
      (cond (decide ((List.length a0.2.2.1 : Int) = (0 : Int)))
        (some (8 : Int))
        (cond (decide ((16 : Int) < (List.length a0.2.2.1 : Int)))
          (some (4 : Int))
          (loopK (σ := Int) (fun p6 againp6 =>
            cond (decide (p6 < (List.length a0.2.2.1 : Int)))
              (gd (0 ≤ p6 ∧ p6 < (List.length a0.2.2.1 : Int)) <|
              bindO (F40 (List.getD a0.2.2.1 (Int.toNat p6) (0, []))) fun y7 =>
              cond (!decide (y7 = (0 : Int)))
                (some y7)
                (bnd (IntKind.wrap .i64 (p6 + (1 : Int))) fun x8 =>
                againp6 x8))
              (cond (decide (a0.2.2.2 < (0 : Int)))
                (some (2 : Int))
                (cond (decide ((9999 : Int) < a0.2.2.2))
                  (some (2 : Int))
                  (some (0 : Int))))) (0 : Int)))))
def dc20 : DC :=
  (.seq (.reg [⟨none, (.bx 1 (some 40) (.t 0))⟩,
    ⟨none, (.mv (some 2) (.v (.int .i64 0)))⟩])
  (.seq (.block 0 (.jn ⟨[(6, (.lf .bool))], [], [7, 8, 9, 10, 11, 12, 13, 14, 15, 16, 17, 18, 19, 20, 21].map .s⟩ (.reg [⟨none, (.fa 7 40 0 (.t 1))⟩,
    ⟨none, (.ld 8 none (.t 7))⟩,
    ⟨none, (.ln 9 none (.t 8))⟩,
    ⟨none, (.ar 10 .neq (.t 9) (.v (.int .i64 3)))⟩,
    ⟨none, (.mv (some 11) (.t 10))⟩,
    ⟨(some (11, false)), (.fa 12 40 0 (.t 1))⟩,
    ⟨(some (11, false)), (.ld 13 none (.t 12))⟩,
    ⟨(some (11, false)), (.ca (some 14) 39 [(.t 13)])⟩,
    ⟨(some (11, false)), (.un 15 .not (.t 14))⟩,
    ⟨none, (.pick 16 (.t 11) (.v (.bool true)) (.t 15))⟩,
    ⟨none, (.mv (some 17) (.t 16))⟩,
    ⟨(some (17, false)), (.fa 18 40 0 (.t 1))⟩,
    ⟨(some (17, false)), (.ld 19 none (.t 18))⟩,
    ⟨(some (17, false)), (.ar 20 .lss (.t 19) (.v (.str [48, 49, 48])))⟩,
    ⟨none, (.pick 21 (.t 17) (.v (.bool true)) (.t 20))⟩,
    ⟨none, (.mv (some 6) (.t 21))⟩])
  (.cond (.t 6)
    (.seq (.reg [⟨none, (.mv (some 2) (.v (.int .i64 6)))⟩])
  .ret)
    (.jn ⟨[(22, (.lf .bool))], [], [23, 24, 25, 26, 27, 28, 29, 30, 31, 32, 33].map .s⟩ (.reg [⟨none, (.fa 23 40 1 (.t 1))⟩,
    ⟨none, (.ld 24 none (.t 23))⟩,
    ⟨none, (.ln 25 none (.t 24))⟩,
    ⟨none, (.ar 26 .neq (.t 25) (.v (.int .i64 2)))⟩,
    ⟨none, (.mv (some 27) (.t 26))⟩,
    ⟨(some (27, false)), (.fa 28 40 1 (.t 1))⟩,
    ⟨(some (27, false)), (.ld 29 none (.t 28))⟩,
    ⟨(some (27, false)), (.ca (some 30) 24 [(.t 29), (.v (.str [32])), (.v (.str [48]))])⟩,
    ⟨(some (27, false)), (.ca (some 31) 39 [(.t 30)])⟩,
    ⟨(some (27, false)), (.un 32 .not (.t 31))⟩,
    ⟨none, (.pick 33 (.t 27) (.v (.bool true)) (.t 32))⟩,
    ⟨none, (.mv (some 22) (.t 33))⟩])
  (.cond (.t 22)
    (.seq (.reg [⟨none, (.mv (some 2) (.v (.int .i64 3)))⟩])
  .ret)
    (.seq (.reg [⟨none, (.fa 35 40 2 (.t 1))⟩,
    ⟨none, (.ld 36 none (.t 35))⟩,
    ⟨none, (.ln 37 (some 37) (.t 36))⟩,
    ⟨none, (.ar 38 .eql (.t 37) (.v (.int .i64 0)))⟩,
    ⟨none, (.mv (some 34) (.t 38))⟩])
  (.cond (.t 34)
    (.seq (.reg [⟨none, (.mv (some 2) (.v (.int .i64 8)))⟩])
  .ret)
    (.seq (.reg [⟨none, (.fa 40 40 2 (.t 1))⟩,
    ⟨none, (.ld 41 none (.t 40))⟩,
    ⟨none, (.ln 42 (some 37) (.t 41))⟩,
    ⟨none, (.ar 43 .gtr (.t 42) (.v (.int .i64 16)))⟩,
    ⟨none, (.mv (some 39) (.t 43))⟩])
  (.cond (.t 39)
    (.seq (.reg [⟨none, (.mv (some 2) (.v (.int .i64 4)))⟩])
  .ret)
    .skip)))))))))
  (.seq (.seq (.reg [⟨none, (.fa 44 40 2 (.t 1))⟩,
    ⟨none, (.ld 45 none (.t 44))⟩,
    ⟨none, (.ln 46 (some 37) (.t 45))⟩,
    ⟨none, (.mv (some 47) (.v (.int .i64 0)))⟩])
  (.block 1 (.loop ⟨[(47, (.lf (.int .i64)))], [], [2, 4, 5, 48, 49, 50, 51, 52, 53, 54, 55, 56].map .s ++ [4].map .b⟩ (.seq (.reg [⟨none, (.ar 48 .lss (.t 47) (.t 46))⟩])
  (.seq (.cond (.t 48)
    .skip
    (.exit 1))
  (.seq (.block 2 (.seq (.reg [⟨none, (.ea 49 37 (.t 45) (.t 47))⟩,
    ⟨none, (.ld 50 (some 37) (.t 49))⟩,
    ⟨none, (.al 4 (.agg 37 [(.int .u8 0), (.str [])]))⟩,
    ⟨none, (.st (some 37) (.t 4) (.t 50))⟩])
  (.seq (.reg [⟨none, (.ld 51 (some 37) (.t 4))⟩,
    ⟨none, (.ca (some 52) 40 [(.t 51)])⟩,
    ⟨none, (.mv (some 5) (.t 52))⟩])
  (.seq (.reg [⟨none, (.mv (some 53) (.t 5))⟩,
    ⟨none, (.ar 54 .neq (.t 53) (.v (.int .i64 0)))⟩])
  (.cond (.t 54)
    (.seq (.reg [⟨none, (.mv (some 55) (.t 5))⟩,
    ⟨none, (.mv (some 2) (.t 55))⟩])
  .ret)
    .skip)))))
  (.reg [⟨none, (.ar 56 .add (.t 47) (.v (.int .i64 1)))⟩,
    ⟨none, (.mv (some 47) (.t 56))⟩])))))))
  (.seq (.seq (.reg [⟨none, (.fa 57 40 3 (.t 1))⟩,
    ⟨none, (.ld 58 none (.t 57))⟩,
    ⟨none, (.ar 59 .lss (.t 58) (.v (.int .i64 0)))⟩,
    ⟨none, (.mv (some 60) (.t 59))⟩,
    ⟨(some (60, false)), (.fa 61 40 3 (.t 1))⟩,
    ⟨(some (60, false)), (.ld 62 none (.t 61))⟩,
    ⟨(some (60, false)), (.ar 63 .gtr (.t 62) (.v (.int .i64 9999)))⟩,
    ⟨none, (.pick 64 (.t 60) (.v (.bool true)) (.t 63))⟩])
  (.cond (.t 64)
    (.seq (.reg [⟨none, (.mv (some 2) (.v (.int .i64 2)))⟩])
  .ret)
    .skip))
  (.seq (.reg [⟨none, (.mv (some 2) (.v (.int .i64 0)))⟩])
  .ret)))))
noncomputable def ent20 : TEnt := ⟨20, [(.agg 40 (.pair .str (.pair .str (.pair (.sl 37 (.agg 37 (.pair .byte .str))) (.int .i64)))))], (.int .i64), fun x => F20 x, .plain⟩
theorem eq20 (x : dens ent20.as) : ent20.F x = evF [entRepl, ent39, ent40] SHF dc20 [(.tmp 2)] ent20.as ent20.rs x := by kernel_rfl
/-- library/record.Right -/
noncomputable def F10 (a0 : Int × Int × Int × List UInt8 × List (List UInt8 × List UInt8 × (List (UInt8 × List UInt8)) × Int)) : Option (Int) :=
  jn (σ := Bool) (fun nextj1 =>
    cond (decide (a0.1 < (0 : Int)))
      (nextj1 true)
      (nextj1 (decide ((9999 : Int) < a0.1)))) fun j1 =>
  cond (j1)
    (some (2 : Int))
    (jn (σ := Bool) (fun nextj2 =>
      cond (decide (a0.2.1 < (1 : Int)))
        (nextj2 true)
        (nextj2 (decide ((3 : Int) < a0.2.1)))) fun j2 =>
    cond (j2)
      (some (20 : Int))
      (jn (σ := Bool) (fun nextj3 =>
        cond (decide (a0.2.2.1 < (1 : Int)))
          (nextj3 true)
          (nextj3 (decide ((4 : Int) < a0.2.2.1)))) fun j3 =>
      cond (j3)
        (some (1 : Int))
        (jn (σ := Bool) (fun nextj4 =>
          cond (!decide ((List.length a0.2.2.2.1 : Int) = (3 : Int)))
            (nextj4 true)
            (bindO (fTrim a0.2.2.2.1 ([97, 98, 99, 100, 101, 102, 103, 104, 105, 106, 107, 108, 109, 110, 111, 112, 113, 114, 115, 116, 117, 118, 119, 120, 121, 122] : List UInt8)) fun y5 =>
            nextj4 (!decide (y5 = ([] : List UInt8))))) fun j4 =>
        cond (j4)
          (some (3 : Int))
          (cond (decide ((64 : Int) < (List.length a0.2.2.2.2 : Int)))
            (some (4 : Int))
            (loopK (σ := Int) (fun p6 againp6 =>
              cond (decide (p6 < (List.length a0.2.2.2.2 : Int)))
                (gd (0 ≤ p6 ∧ p6 < (List.length a0.2.2.2.2 : Int)) <|
                bindO (F20 (List.getD a0.2.2.2.2 (Int.toNat p6) ([], ([], ([], 0))))) fun y7 =>
                cond (!decide (y7 = (0 : Int)))
                  (some y7)
                  (bnd (IntKind.wrap .i64 (p6 + (1 : Int))) fun x8 =>
                  againp6 x8))
                (some (0 : Int))) (0 : Int))))))
def dc10 : DC :=
  (.seq (.reg [⟨none, (.bx 1 (some 25) (.t 0))⟩,
    ⟨none, (.mv (some 2) (.v (.int .i64 0)))⟩])
  (.seq (.block 0 (.jn ⟨[(6, (.lf .bool))], [], [7, 8, 9, 10, 11, 12, 13, 14].map .s⟩ (.reg [⟨none, (.fa 7 25 0 (.t 1))⟩,
    ⟨none, (.ld 8 none (.t 7))⟩,
    ⟨none, (.ar 9 .lss (.t 8) (.v (.int .i64 0)))⟩,
    ⟨none, (.mv (some 10) (.t 9))⟩,
    ⟨(some (10, false)), (.fa 11 25 0 (.t 1))⟩,
    ⟨(some (10, false)), (.ld 12 none (.t 11))⟩,
    ⟨(some (10, false)), (.ar 13 .gtr (.t 12) (.v (.int .i64 9999)))⟩,
    ⟨none, (.pick 14 (.t 10) (.v (.bool true)) (.t 13))⟩,
    ⟨none, (.mv (some 6) (.t 14))⟩])
  (.cond (.t 6)
    (.seq (.reg [⟨none, (.mv (some 2) (.v (.int .i64 2)))⟩])
  .ret)
    (.jn ⟨[(15, (.lf .bool))], [], [16, 17, 18, 19, 20, 21, 22, 23].map .s⟩ (.reg [⟨none, (.fa 16 25 1 (.t 1))⟩,
    ⟨none, (.ld 17 none (.t 16))⟩,
    ⟨none, (.ar 18 .lss (.t 17) (.v (.int .i64 1)))⟩,
    ⟨none, (.mv (some 19) (.t 18))⟩,
    ⟨(some (19, false)), (.fa 20 25 1 (.t 1))⟩,
    ⟨(some (19, false)), (.ld 21 none (.t 20))⟩,
    ⟨(some (19, false)), (.ar 22 .gtr (.t 21) (.v (.int .i64 3)))⟩,
    ⟨none, (.pick 23 (.t 19) (.v (.bool true)) (.t 22))⟩,
    ⟨none, (.mv (some 15) (.t 23))⟩])
  (.cond (.t 15)
    (.seq (.reg [⟨none, (.mv (some 2) (.v (.int .i64 20)))⟩])
  .ret)
    (.jn ⟨[(24, (.lf .bool))], [], [25, 26, 27, 28, 29, 30, 31, 32].map .s⟩ (.reg [⟨none, (.fa 25 25 2 (.t 1))⟩,
    ⟨none, (.ld 26 none (.t 25))⟩,
    ⟨none, (.ar 27 .lss (.t 26) (.v (.int .i64 1)))⟩,
    ⟨none, (.mv (some 28) (.t 27))⟩,
    ⟨(some (28, false)), (.fa 29 25 2 (.t 1))⟩,
    ⟨(some (28, false)), (.ld 30 none (.t 29))⟩,
    ⟨(some (28, false)), (.ar 31 .gtr (.t 30) (.v (.int .i64 4)))⟩,
    ⟨none, (.pick 32 (.t 28) (.v (.bool true)) (.t 31))⟩,
    ⟨none, (.mv (some 24) (.t 32))⟩])
  (.cond (.t 24)
    (.seq (.reg [⟨none, (.mv (some 2) (.v (.int .i64 1)))⟩])
  .ret)
    (.jn ⟨[(33, (.lf .bool))], [], [34, 35, 36, 37, 38, 39, 40, 41, 42, 43].map .s⟩ (.reg [⟨none, (.fa 34 25 3 (.t 1))⟩,
    ⟨none, (.ld 35 none (.t 34))⟩,
    ⟨none, (.ln 36 none (.t 35))⟩,
    ⟨none, (.ar 37 .neq (.t 36) (.v (.int .i64 3)))⟩,
    ⟨none, (.mv (some 38) (.t 37))⟩,
    ⟨(some (38, false)), (.fa 39 25 3 (.t 1))⟩,
    ⟨(some (38, false)), (.ld 40 none (.t 39))⟩,
    ⟨(some (38, false)), (.ca (some 41) 19 [(.t 40), (.v (.str [97, 98, 99, 100, 101, 102, 103, 104, 105, 106, 107, 108, 109, 110, 111, 112, 113, 114, 115, 116, 117, 118, 119, 120, 121, 122]))])⟩,
    ⟨(some (38, false)), (.ar 42 .neq (.t 41) (.v (.str [])))⟩,
    ⟨none, (.pick 43 (.t 38) (.v (.bool true)) (.t 42))⟩,
    ⟨none, (.mv (some 33) (.t 43))⟩])
  (.cond (.t 33)
    (.seq (.reg [⟨none, (.mv (some 2) (.v (.int .i64 3)))⟩])
  .ret)
    (.seq (.reg [⟨none, (.fa 45 25 4 (.t 1))⟩,
    ⟨none, (.ld 46 none (.t 45))⟩,
    ⟨none, (.ln 47 (some 40) (.t 46))⟩,
    ⟨none, (.ar 48 .gtr (.t 47) (.v (.int .i64 64)))⟩,
    ⟨none, (.mv (some 44) (.t 48))⟩])
  (.cond (.t 44)
    (.seq (.reg [⟨none, (.mv (some 2) (.v (.int .i64 4)))⟩])
  .ret)
    .skip)))))))))))
  (.seq (.seq (.reg [⟨none, (.fa 49 25 4 (.t 1))⟩,
    ⟨none, (.ld 50 none (.t 49))⟩,
    ⟨none, (.ln 51 (some 40) (.t 50))⟩,
    ⟨none, (.mv (some 52) (.v (.int .i64 0)))⟩])
  (.block 1 (.loop ⟨[(52, (.lf (.int .i64)))], [], [2, 4, 5, 53, 54, 55, 56, 57, 58, 59, 60, 61].map .s ++ [4].map .b⟩ (.seq (.reg [⟨none, (.ar 53 .lss (.t 52) (.t 51))⟩])
  (.seq (.cond (.t 53)
    .skip
    (.exit 1))
  (.seq (.block 2 (.seq (.reg [⟨none, (.ea 54 40 (.t 50) (.t 52))⟩,
    ⟨none, (.ld 55 (some 40) (.t 54))⟩,
    ⟨none, (.al 4 (.agg 40 [(.str []), (.str []), (.sl none 37 []), (.int .i64 0)]))⟩,
    ⟨none, (.st (some 40) (.t 4) (.t 55))⟩])
  (.seq (.reg [⟨none, (.ld 56 (some 40) (.t 4))⟩,
    ⟨none, (.ca (some 57) 20 [(.t 56)])⟩,
    ⟨none, (.mv (some 5) (.t 57))⟩])
  (.seq (.reg [⟨none, (.mv (some 58) (.t 5))⟩,
    ⟨none, (.ar 59 .neq (.t 58) (.v (.int .i64 0)))⟩])
  (.cond (.t 59)
    (.seq (.reg [⟨none, (.mv (some 60) (.t 5))⟩,
    ⟨none, (.mv (some 2) (.t 60))⟩])
  .ret)
    .skip)))))
  (.reg [⟨none, (.ar 61 .add (.t 52) (.v (.int .i64 1)))⟩,
    ⟨none, (.mv (some 52) (.t 61))⟩])))))))
  (.seq (.reg [⟨none, (.mv (some 2) (.v (.int .i64 0)))⟩])
  .ret))))
noncomputable def ent10 : TEnt := ⟨10, [(.agg 25 (.pair (.int .i64) (.pair (.int .i64) (.pair (.int .i64) (.pair .str (.sl 40 (.agg 40 (.pair .str (.pair .str (.pair (.sl 37 (.agg 37 (.pair .byte .str))) (.int .i64)))))))))))], (.int .i64), fun x => F10 x, .plain⟩
theorem eq10 (x : dens ent10.as) : ent10.F x = evF [entTrim, ent20] SHF dc10 [(.tmp 2)] ent10.as ent10.rs x := by kernel_rfl
/-- library/lines.kinds -/
noncomputable def F23 : Option (List (List UInt8)) :=
  some [([] : List UInt8), ([98, 111, 111, 107] : List UInt8), ([115, 101, 114, 105, 97, 108] : List UInt8), ([109, 97, 112] : List UInt8), ([100, 105, 103, 105, 116, 97, 108] : List UInt8)]
def dc23 : DC :=
  (.seq (.reg [⟨none, (.nl 0 9)⟩])
  (.seq (.reg [⟨none, (.bs 1 9 none [(.v (.str [])), (.v (.str [98, 111, 111, 107])), (.v (.str [115, 101, 114, 105, 97, 108])), (.v (.str [109, 97, 112])), (.v (.str [100, 105, 103, 105, 116, 97, 108]))])⟩,
    ⟨none, (.mv (some 0) (.t 1))⟩])
  .ret))
noncomputable def ent23 : TEnt := ⟨23, [], (.sl 9 .str), fun _ => F23, .plain⟩
theorem eq23 (x : dens ent23.as) : ent23.F x = evF [] SHF dc23 [(.tmp 0)] ent23.as ent23.rs x := by kernel_rfl
/-- library/lines.header -/
noncomputable def F12 (a0 : Int × Int × Int × List UInt8 × List (List UInt8 × List UInt8 × (List (UInt8 × List UInt8)) × Int)) : Option (List UInt8) :=
  bindO (fItoa a0.1) fun y1 =>
  gd (List.length ([61] : List UInt8) + List.length y1 ≤ big) <|
  bnd (([61] : List UInt8) ++ y1) fun x2 =>
  gd (List.length x2 + List.length ([32] : List UInt8) ≤ big) <|
  bnd (x2 ++ ([32] : List UInt8)) fun x3 =>
  bindO (fItoa a0.2.1) fun y4 =>
  gd (List.length x3 + List.length y4 ≤ big) <|
  bnd (x3 ++ y4) fun x5 =>
  gd (List.length x5 + List.length ([32] : List UInt8) ≤ big) <|
  bnd (x5 ++ ([32] : List UInt8)) fun x6 =>
  bindO (F23) fun y7 =>
  gd (0 ≤ a0.2.2.1 ∧ a0.2.2.1 < (List.length y7 : Int)) <|
  gd (List.length x6 + List.length (List.getD y7 (Int.toNat a0.2.2.1) []) ≤ big) <|
  bnd (x6 ++ (List.getD y7 (Int.toNat a0.2.2.1) [])) fun x8 =>
  gd (List.length x8 + List.length ([32] : List UInt8) ≤ big) <|
  bnd (x8 ++ ([32] : List UInt8)) fun x9 =>
  gd (List.length x9 + List.length a0.2.2.2.1 ≤ big) <|
  bnd (x9 ++ a0.2.2.2.1) fun x10 =>
  some x10
def dc12 : DC :=
  (.seq (.reg [⟨none, (.bx 1 (some 25) (.t 0))⟩,
    ⟨none, (.mv (some 2) (.v (.str [])))⟩])
  (.seq (.reg [⟨none, (.fa 3 25 0 (.t 1))⟩,
    ⟨none, (.ld 4 none (.t 3))⟩,
    ⟨none, (.ca (some 5) 22 [(.t 4)])⟩,
    ⟨none, (.ar 6 .add (.v (.str [61])) (.t 5))⟩,
    ⟨none, (.ar 7 .add (.t 6) (.v (.str [32])))⟩,
    ⟨none, (.fa 8 25 1 (.t 1))⟩,
    ⟨none, (.ld 9 none (.t 8))⟩,
    ⟨none, (.ca (some 10) 22 [(.t 9)])⟩,
    ⟨none, (.ar 11 .add (.t 7) (.t 10))⟩,
    ⟨none, (.ar 12 .add (.t 11) (.v (.str [32])))⟩,
    ⟨none, (.ca (some 13) 23 [])⟩,
    ⟨none, (.fa 14 25 2 (.t 1))⟩,
    ⟨none, (.ld 15 none (.t 14))⟩,
    ⟨none, (.ea 16 9 (.t 13) (.t 15))⟩,
    ⟨none, (.ld 17 none (.t 16))⟩,
    ⟨none, (.ar 18 .add (.t 12) (.t 17))⟩,
    ⟨none, (.ar 19 .add (.t 18) (.v (.str [32])))⟩,
    ⟨none, (.fa 20 25 3 (.t 1))⟩,
    ⟨none, (.ld 21 none (.t 20))⟩,
    ⟨none, (.ar 22 .add (.t 19) (.t 21))⟩,
    ⟨none, (.mv (some 2) (.t 22))⟩])
  .ret))
noncomputable def ent12 : TEnt := ⟨12, [(.agg 25 (.pair (.int .i64) (.pair (.int .i64) (.pair (.int .i64) (.pair .str (.sl 40 (.agg 40 (.pair .str (.pair .str (.pair (.sl 37 (.agg 37 (.pair .byte .str))) (.int .i64)))))))))))], .str, fun x => F12 x, .plain⟩
theorem eq12 (x : dens ent12.as) : ent12.F x = evF [entItoa, ent23] SHF dc12 [(.tmp 2)] ent12.as ent12.rs x := by kernel_rfl
/-- library/field.Print -/
noncomputable def F13 (a0 : List UInt8 × List UInt8 × (List (UInt8 × List UInt8)) × Int) : Option (List UInt8 × Int) :=
  bindO (F20 a0) fun y1 =>
  cond (!decide (y1 = (0 : Int)))
    (some (([] : List UInt8), y1))
    (gdN (0) (List.length ([] : List UInt8)) <|
    gd (List.length ([] : List UInt8) + List.length a0.1 ≤ big) <|
    bnd (([] : List UInt8) ++ a0.1) fun b2 =>
    jn (σ := List UInt8) (fun nextj3 =>
      cond (!decide (a0.2.2.2 = (0 : Int)))
        (bindO (fItoa a0.2.2.2) fun y4 =>
        gd (List.length ([64] : List UInt8) + List.length y4 ≤ big) <|
        bnd (([64] : List UInt8) ++ y4) fun x5 =>
        gdN (List.length b2) (List.length b2) <|
        gd (List.length b2 + List.length x5 ≤ big) <|
        bnd (b2 ++ x5) fun b6 =>
        gdN (List.length b6) (List.length b6) <|
        nextj3 b6)
        (gdN (List.length b2) (List.length b2) <|
        nextj3 b2)) fun j3 =>
    bindO (fRepl a0.2.1 ([32] : List UInt8) ([35] : List UInt8)) fun y7 =>
    gd (List.length ([32] : List UInt8) + List.length y7 ≤ big) <|
    bnd (([32] : List UInt8) ++ y7) fun x8 =>
    gd (List.length x8 + List.length ([32] : List UInt8) ≤ big) <|
    bnd (x8 ++ ([32] : List UInt8)) fun x9 =>
    gdN (List.length j3) (List.length j3) <|
    gd (List.length j3 + List.length x9 ≤ big) <|
    bnd (j3 ++ x9) fun b10 =>
    gdN (List.length b10) (List.length b10) <|
    loopK (σ := Int × List UInt8) (fun p11 againp11 =>
      cond (decide (p11.1 < (List.length a0.2.2.1 : Int)))
        (gd (0 ≤ p11.1 ∧ p11.1 < (List.length a0.2.2.1 : Int)) <|
        gdN (List.length p11.2) (List.length p11.2) <|
        gd ((0 : Int) ≤ (36 : Int) ∧ (36 : Int) < (256 : Int)) <|
        gd (List.length p11.2 + 1 ≤ big) <|
        bnd (p11.2 ++ [UInt8.ofNat (Int.toNat (36 : Int))]) fun b12 =>
        gdN (List.length b12) (List.length b12) <|
        gd (List.length b12 + 1 ≤ big) <|
        bnd (b12 ++ [(List.getD a0.2.2.1 (Int.toNat p11.1) (0, [])).1]) fun b13 =>
        bindO (fRepl ((List.getD a0.2.2.1 (Int.toNat p11.1) (0, [])).2) ([36] : List UInt8) ([36, 36] : List UInt8)) fun y14 =>
        gdN (List.length b13) (List.length b13) <|
        gd (List.length b13 + List.length y14 ≤ big) <|
        bnd (b13 ++ y14) fun b15 =>
        bnd (IntKind.wrap .i64 (p11.1 + (1 : Int))) fun x16 =>
        gdN (List.length b15) (List.length b15) <|
        againp11 (x16, b15))
        (gdN (List.length p11.2) (List.length p11.2) <|
        some (p11.2, (0 : Int)))) ((0 : Int), b10))
def dc13 : DC :=
  (.seq (.reg [⟨none, (.bx 1 (some 40) (.t 0))⟩,
    ⟨none, (.mv (some 2) (.v (.str [])))⟩,
    ⟨none, (.mv (some 3) (.v (.int .i64 0)))⟩])
  (.seq (.seq (.reg [⟨none, (.ld 8 (some 40) (.t 1))⟩,
    ⟨none, (.ca (some 9) 20 [(.t 8)])⟩,
    ⟨none, (.mv (some 4) (.t 9))⟩])
  (.seq (.reg [⟨none, (.mv (some 10) (.t 4))⟩,
    ⟨none, (.ar 11 .neq (.t 10) (.v (.int .i64 0)))⟩])
  (.cond (.t 11)
    (.seq (.reg [⟨none, (.mv (some 12) (.t 4))⟩,
    ⟨none, (.mv (some 2) (.v (.str [])))⟩,
    ⟨none, (.mv (some 3) (.t 12))⟩])
  .ret)
    .skip)))
  (.seq (.reg [⟨none, (.ab 5 47 5)⟩])
  (.seq (.reg [⟨none, (.fa 13 40 0 (.t 1))⟩,
    ⟨none, (.ld 14 none (.t 13))⟩,
    ⟨none, (.cw (some 15) 11 .wstr [(.t 5), (.t 14)])⟩])
  (.jn ⟨[], [(5, (.bld 3000005 47 5))], [16, 17, 18, 19, 20, 21, 22, 23].map .s⟩ (.seq (.reg [⟨none, (.fa 16 40 3 (.t 1))⟩,
    ⟨none, (.ld 17 none (.t 16))⟩,
    ⟨none, (.ar 18 .neq (.t 17) (.v (.int .i64 0)))⟩])
  (.cond (.t 18)
    (.reg [⟨none, (.fa 19 40 3 (.t 1))⟩,
    ⟨none, (.ld 20 none (.t 19))⟩,
    ⟨none, (.ca (some 21) 22 [(.t 20)])⟩,
    ⟨none, (.ar 22 .add (.v (.str [64])) (.t 21))⟩,
    ⟨none, (.cw (some 23) 11 .wstr [(.t 5), (.t 22)])⟩])
    .skip))
  (.seq (.reg [⟨none, (.fa 24 40 1 (.t 1))⟩,
    ⟨none, (.ld 25 none (.t 24))⟩,
    ⟨none, (.ca (some 26) 24 [(.t 25), (.v (.str [32])), (.v (.str [35]))])⟩,
    ⟨none, (.ar 27 .add (.v (.str [32])) (.t 26))⟩,
    ⟨none, (.ar 28 .add (.t 27) (.v (.str [32])))⟩,
    ⟨none, (.cw (some 29) 11 .wstr [(.t 5), (.t 28)])⟩])
  (.seq (.seq (.reg [⟨none, (.fa 30 40 2 (.t 1))⟩,
    ⟨none, (.ld 31 none (.t 30))⟩,
    ⟨none, (.ln 32 (some 37) (.t 31))⟩,
    ⟨none, (.mv (some 33) (.v (.int .i64 0)))⟩])
  (.block 0 (.loop ⟨[(33, (.lf (.int .i64)))], [(5, (.bld 3000005 47 5))], [7, 34, 35, 36, 37, 38, 39, 40, 41, 42, 43, 44, 45].map .s ++ [7].map .b⟩ (.seq (.reg [⟨none, (.ar 34 .lss (.t 33) (.t 32))⟩])
  (.seq (.cond (.t 34)
    .skip
    (.exit 0))
  (.seq (.block 1 (.seq (.reg [⟨none, (.ea 35 37 (.t 31) (.t 33))⟩,
    ⟨none, (.ld 36 (some 37) (.t 35))⟩,
    ⟨none, (.al 7 (.agg 37 [(.int .u8 0), (.str [])]))⟩,
    ⟨none, (.st (some 37) (.t 7) (.t 36))⟩])
  (.seq (.reg [⟨none, (.cw (some 37) 25 .wbyte [(.t 5), (.v (.int .u8 36))])⟩])
  (.seq (.reg [⟨none, (.fa 38 37 0 (.t 7))⟩,
    ⟨none, (.ld 39 none (.t 38))⟩,
    ⟨none, (.cw (some 40) 25 .wbyte [(.t 5), (.t 39)])⟩])
  (.reg [⟨none, (.fa 41 37 1 (.t 7))⟩,
    ⟨none, (.ld 42 none (.t 41))⟩,
    ⟨none, (.ca (some 43) 24 [(.t 42), (.v (.str [36])), (.v (.str [36, 36]))])⟩,
    ⟨none, (.cw (some 44) 11 .wstr [(.t 5), (.t 43)])⟩])))))
  (.reg [⟨none, (.ar 45 .add (.t 33) (.v (.int .i64 1)))⟩,
    ⟨none, (.mv (some 33) (.t 45))⟩])))))))
  (.seq (.reg [⟨none, (.cw (some 46) 14 .str [(.t 5)])⟩,
    ⟨none, (.mv (some 2) (.t 46))⟩,
    ⟨none, (.mv (some 3) (.v (.int .i64 0)))⟩])
  .ret))))))))
noncomputable def ent13 : TEnt := ⟨13, [(.agg 40 (.pair .str (.pair .str (.pair (.sl 37 (.agg 37 (.pair .byte .str))) (.int .i64)))))], (.tup (.pair .str (.int .i64))), fun x => F13 x, .plain⟩
theorem eq13 (x : dens ent13.as) : ent13.F x = evF [entWriteString, entString, ent20, entItoa, entRepl, entWriteByte] SHF dc13 [(.tmp 2), (.tmp 3)] ent13.as ent13.rs x := by kernel_rfl
/-- library/lines.Print -/
noncomputable def F6 (a0 : Int × Int × Int × List UInt8 × List (List UInt8 × List UInt8 × (List (UInt8 × List UInt8)) × Int)) : Option (List UInt8 × Int) :=
  bindO (F10 a0) fun y1 =>
  cond (!decide (y1 = (0 : Int)))
    (some (([] : List UInt8), y1))
    (bindO (F12 a0) fun y2 =>
    gd (List.length y2 + List.length ([10] : List UInt8) ≤ big) <|
    bnd (y2 ++ ([10] : List UInt8)) fun x3 =>
    gdN (0) (List.length ([] : List UInt8)) <|
    gd (List.length ([] : List UInt8) + List.length x3 ≤ big) <|
    bnd (([] : List UInt8) ++ x3) fun b4 =>
    gdN (List.length b4) (List.length b4) <|
    loopK (σ := Int × List UInt8) (fun p5 againp5 =>
      cond (decide (p5.1 < (List.length a0.2.2.2.2 : Int)))
        (gd (0 ≤ p5.1 ∧ p5.1 < (List.length a0.2.2.2.2 : Int)) <|
        bindO (F13 (List.getD a0.2.2.2.2 (Int.toNat p5.1) ([], ([], ([], 0))))) fun y6 =>
        cond (!decide (y6.2 = (0 : Int)))
          (some (([] : List UInt8), y6.2))
          (gd (List.length y6.1 + List.length ([10] : List UInt8) ≤ big) <|
          bnd (y6.1 ++ ([10] : List UInt8)) fun x7 =>
          gdN (List.length p5.2) (List.length p5.2) <|
          gd (List.length p5.2 + List.length x7 ≤ big) <|
          bnd (p5.2 ++ x7) fun b8 =>
          bnd (IntKind.wrap .i64 (p5.1 + (1 : Int))) fun x9 =>
          gdN (List.length b8) (List.length b8) <|
          againp5 (x9, b8)))
        (gdN (List.length p5.2) (List.length p5.2) <|
        gd (List.length p5.2 + List.length ([10] : List UInt8) ≤ big) <|
        bnd (p5.2 ++ ([10] : List UInt8)) fun b10 =>
        gdN (List.length b10) (List.length b10) <|
        some (b10, (0 : Int)))) ((0 : Int), b4))
def dc6 : DC :=
  (.seq (.reg [⟨none, (.bx 1 (some 25) (.t 0))⟩,
    ⟨none, (.mv (some 2) (.v (.str [])))⟩,
    ⟨none, (.mv (some 3) (.v (.int .i64 0)))⟩])
  (.seq (.seq (.reg [⟨none, (.ld 10 (some 25) (.t 1))⟩,
    ⟨none, (.ca (some 11) 10 [(.t 10)])⟩,
    ⟨none, (.mv (some 4) (.t 11))⟩])
  (.seq (.reg [⟨none, (.mv (some 12) (.t 4))⟩,
    ⟨none, (.ar 13 .neq (.t 12) (.v (.int .i64 0)))⟩])
  (.cond (.t 13)
    (.seq (.reg [⟨none, (.mv (some 14) (.t 4))⟩,
    ⟨none, (.mv (some 2) (.v (.str [])))⟩,
    ⟨none, (.mv (some 3) (.t 14))⟩])
  .ret)
    .skip)))
  (.seq (.reg [⟨none, (.ab 5 47 5)⟩])
  (.seq (.reg [⟨none, (.ld 15 (some 25) (.t 1))⟩,
    ⟨none, (.ca (some 16) 12 [(.t 15)])⟩,
    ⟨none, (.ar 17 .add (.t 16) (.v (.str [10])))⟩,
    ⟨none, (.cw (some 18) 11 .wstr [(.t 5), (.t 17)])⟩])
  (.seq (.seq (.reg [⟨none, (.fa 19 25 4 (.t 1))⟩,
    ⟨none, (.ld 20 none (.t 19))⟩,
    ⟨none, (.ln 21 (some 40) (.t 20))⟩,
    ⟨none, (.mv (some 22) (.v (.int .i64 0)))⟩])
  (.block 0 (.loop ⟨[(22, (.lf (.int .i64)))], [(5, (.bld 3000005 47 5))], [2, 3, 7, 8, 9, 23, 24, 25, 26, 27, 28, 29, 30, 31, 32, 33, 34, 35, 36, 37].map .s ++ [7].map .b⟩ (.seq (.reg [⟨none, (.ar 23 .lss (.t 22) (.t 21))⟩])
  (.seq (.cond (.t 23)
    .skip
    (.exit 0))
  (.seq (.block 1 (.seq (.reg [⟨none, (.ea 24 40 (.t 20) (.t 22))⟩,
    ⟨none, (.ld 25 (some 40) (.t 24))⟩,
    ⟨none, (.al 7 (.agg 40 [(.str []), (.str []), (.sl none 37 []), (.int .i64 0)]))⟩,
    ⟨none, (.st (some 40) (.t 7) (.t 25))⟩])
  (.seq (.reg [⟨none, (.ld 27 (some 40) (.t 7))⟩,
    ⟨none, (.ca (some 28) 13 [(.t 27)])⟩,
    ⟨none, (.mv (some 26) (.t 28))⟩,
    ⟨none, (.ex 29 0 (.t 26))⟩,
    ⟨none, (.ex 30 1 (.t 26))⟩,
    ⟨none, (.mv (some 8) (.t 29))⟩,
    ⟨none, (.mv (some 9) (.t 30))⟩])
  (.seq (.seq (.reg [⟨none, (.mv (some 31) (.t 9))⟩,
    ⟨none, (.ar 32 .neq (.t 31) (.v (.int .i64 0)))⟩])
  (.cond (.t 32)
    (.seq (.reg [⟨none, (.mv (some 33) (.t 9))⟩,
    ⟨none, (.mv (some 2) (.v (.str [])))⟩,
    ⟨none, (.mv (some 3) (.t 33))⟩])
  .ret)
    .skip))
  (.reg [⟨none, (.mv (some 34) (.t 8))⟩,
    ⟨none, (.ar 35 .add (.t 34) (.v (.str [10])))⟩,
    ⟨none, (.cw (some 36) 11 .wstr [(.t 5), (.t 35)])⟩])))))
  (.reg [⟨none, (.ar 37 .add (.t 22) (.v (.int .i64 1)))⟩,
    ⟨none, (.mv (some 22) (.t 37))⟩])))))))
  (.seq (.reg [⟨none, (.cw (some 38) 11 .wstr [(.t 5), (.v (.str [10]))])⟩])
  (.seq (.reg [⟨none, (.cw (some 39) 14 .str [(.t 5)])⟩,
    ⟨none, (.mv (some 2) (.t 39))⟩,
    ⟨none, (.mv (some 3) (.v (.int .i64 0)))⟩])
  .ret)))))))
noncomputable def ent6 : TEnt := ⟨6, [(.agg 25 (.pair (.int .i64) (.pair (.int .i64) (.pair (.int .i64) (.pair .str (.sl 40 (.agg 40 (.pair .str (.pair .str (.pair (.sl 37 (.agg 37 (.pair .byte .str))) (.int .i64)))))))))))], (.tup (.pair .str (.int .i64))), fun x => F6 x, .plain⟩
theorem eq6 (x : dens ent6.as) : ent6.F x = evF [ent10, entWriteString, ent12, ent13, entString] SHF dc6 [(.tmp 2), (.tmp 3)] ent6.as ent6.rs x := by kernel_rfl
/-- library/field.subs -/
noncomputable def F31 (a0 : List UInt8) : Option (List (UInt8 × List UInt8)) :=
  gdN (List.length ([] : List (UInt8 × List UInt8))) (List.length ([] : List (UInt8 × List UInt8))) <|
  loopK (σ := List UInt8 × List (UInt8 × List UInt8)) (fun p1 againp1 =>
    cond (decide ((1 : Int) < (List.length p1.1 : Int)))
      (gd (0 ≤ (0 : Int) ∧ (0 : Int) < (List.length p1.1 : Int)) <|
      cond (decide ((UInt8.toNat (List.getD p1.1 (Int.toNat (0 : Int)) 0) : Int) = (36 : Int)))
        (gd (0 ≤ (1 : Int) ∧ (1 : Int) < (List.length p1.1 : Int)) <|
        gd (0 ≤ (2 : Int) ∧ (2 : Int) ≤ (List.length p1.1 : Int)) <|
        bnd (List.drop (Int.toNat (2 : Int)) p1.1) fun x2 =>
        jn (σ := List UInt8 × List UInt8) (fun nextj3 =>
          gdN (0) (List.length ([] : List UInt8)) <|
          loopK (σ := List UInt8 × List UInt8) (fun p4 againp4 =>
            jn (σ := List UInt8 × UInt8 × Bool × Bool × Bool) (fun nextj5 =>
              cond (!decide (p4.1 = ([] : List UInt8)))
                (gd (0 ≤ (0 : Int) ∧ (0 : Int) < (List.length p4.1 : Int)) <|
                cond (!decide ((UInt8.toNat (List.getD p4.1 (Int.toNat (0 : Int)) 0) : Int) = (36 : Int)))
                  (nextj5 (p4.1, (List.getD p4.1 (Int.toNat (0 : Int)) 0), !decide ((UInt8.toNat (List.getD p4.1 (Int.toNat (0 : Int)) 0) : Int) = (36 : Int)), true, true))
                  (bindO (fHas p4.1 ([36, 36] : List UInt8)) fun y6 =>
                  cond (y6)
                    (nextj5 (p4.1, (List.getD p4.1 (Int.toNat (0 : Int)) 0), !decide ((UInt8.toNat (List.getD p4.1 (Int.toNat (0 : Int)) 0) : Int) = (36 : Int)), false, y6))
                    (gdN (List.length p4.2) (List.length p4.2) <|
                    nextj3 (p4.1, p4.2))))
                (gdN (List.length p4.2) (List.length p4.2) <|
                nextj3 (p4.1, p4.2))) fun j5 =>
            jn (σ := Int) (fun nextj7 =>
              gd (0 ≤ (0 : Int) ∧ (0 : Int) < (List.length p4.1 : Int)) <|
              cond (decide ((UInt8.toNat (List.getD p4.1 (Int.toNat (0 : Int)) 0) : Int) = (36 : Int)))
                (nextj7 (2 : Int))
                (nextj7 (1 : Int))) fun j7 =>
            gd (0 ≤ (0 : Int) ∧ (0 : Int) < (List.length p4.1 : Int)) <|
            gdN (List.length p4.2) (List.length p4.2) <|
            gd (List.length p4.2 + 1 ≤ big) <|
            bnd (p4.2 ++ [(List.getD p4.1 (Int.toNat (0 : Int)) 0)]) fun b8 =>
            gd (0 ≤ j7 ∧ j7 ≤ (List.length p4.1 : Int)) <|
            bnd (List.drop (Int.toNat j7) p4.1) fun x9 =>
            gdN (List.length b8) (List.length b8) <|
            againp4 (x9, b8)) (x2, ([] : List UInt8))) fun j3 =>
        gdN (List.length j3.2) (List.length j3.2) <|
        gdN (List.length p1.2) (List.length p1.2) <|
        gd (List.length p1.2 + List.length [((List.getD p1.1 (Int.toNat (1 : Int)) 0), j3.2)] ≤ big) <|
        bnd (p1.2 ++ [((List.getD p1.1 (Int.toNat (1 : Int)) 0), j3.2)]) fun l10 =>
        gdN (List.length l10) (List.length l10) <|
        againp1 (j3.1, l10))
        (some p1.2))
      (some p1.2)) (a0, ([] : List (UInt8 × List UInt8)))
def dc31 : DC :=
  (.seq (.reg [⟨none, (.nl 2 37)⟩])
  (.seq (.reg [⟨none, (.nl 3 37)⟩])
  (.seq (.block 0 (.loop ⟨[(0, (.lf .str)), (3, (.row 3 37 (.agg 37 (.pair .byte .str))))], [], [4, 5, 6, 7, 8, 9, 10, 11, 12, 13, 14, 15, 16, 17, 18, 19, 20, 21, 22, 23, 24, 25, 26, 27, 28, 29, 30, 31, 32, 33, 34, 35, 36, 37, 38, 39, 40, 41, 42, 43, 44].map .s ++ [5].map .b ++ [43, 3000005].map .f⟩ (.seq (.seq (.reg [⟨none, (.mv (some 7) (.t 0))⟩,
    ⟨none, (.ln 8 none (.t 7))⟩,
    ⟨none, (.ar 9 .gtr (.t 8) (.v (.int .i64 1)))⟩,
    ⟨none, (.mv (some 10) (.t 9))⟩,
    ⟨(some (10, true)), (.mv (some 11) (.t 0))⟩,
    ⟨(some (10, true)), (.ix 12 (.t 11) (.v (.int .i64 0)))⟩,
    ⟨(some (10, true)), (.ar 13 .eql (.t 12) (.v (.int .u8 36)))⟩,
    ⟨none, (.pick 14 (.t 10) (.t 13) (.v (.bool false)))⟩])
  (.cond (.t 14)
    .skip
    (.exit 0)))
  (.block 1 (.seq (.reg [⟨none, (.mv (some 15) (.t 0))⟩,
    ⟨none, (.ix 16 (.t 15) (.v (.int .i64 1)))⟩,
    ⟨none, (.mv (some 4) (.t 16))⟩])
  (.seq (.reg [⟨none, (.mv (some 17) (.t 0))⟩,
    ⟨none, (.sc 18 none (.t 17) (some (.v (.int .i64 2))) none)⟩,
    ⟨none, (.mv (some 0) (.t 18))⟩])
  (.seq (.reg [⟨none, (.ab 5 47 5)⟩])
  (.jn ⟨[(0, (.lf .str))], [(5, (.bld 3000005 47 5))], [6, 19, 20, 21, 22, 23, 24, 25, 26, 27, 28, 29, 30, 31, 32, 33, 34, 35, 36, 37, 38].map .s⟩ (.block 2 (.loop ⟨[(0, (.lf .str))], [(5, (.bld 3000005 47 5))], [6, 19, 20, 21, 22, 23, 24, 25, 26, 27, 28, 29, 30, 31, 32, 33, 34, 35, 36, 37, 38].map .s⟩ (.jn ⟨[(22, (.lf .str)), (23, (.lf .byte)), (24, (.lf .bool)), (25, (.lf .bool)), (28, (.lf .bool))], [], [19, 20, 21, 26, 27, 29].map .s⟩ (.seq (.reg [⟨none, (.mv (some 19) (.t 0))⟩,
    ⟨none, (.ar 20 .neq (.t 19) (.v (.str [])))⟩,
    ⟨none, (.mv (some 21) (.t 20))⟩,
    ⟨(some (21, true)), (.mv (some 22) (.t 0))⟩,
    ⟨(some (21, true)), (.ix 23 (.t 22) (.v (.int .i64 0)))⟩,
    ⟨(some (21, true)), (.ar 24 .neq (.t 23) (.v (.int .u8 36)))⟩,
    ⟨(some (21, true)), (.mv (some 25) (.t 24))⟩,
    ⟨(some (25, false)), (.mv (some 26) (.t 0))⟩,
    ⟨(some (25, false)), (.ca (some 27) 28 [(.t 26), (.v (.str [36, 36]))])⟩,
    ⟨(some (21, true)), (.pick 28 (.t 25) (.v (.bool true)) (.t 27))⟩,
    ⟨none, (.pick 29 (.t 21) (.t 28) (.v (.bool false)))⟩])
  (.cond (.t 29)
    .skip
    (.exit 2)))
  (.block 3 (.seq (.reg [⟨none, (.mv (some 6) (.v (.int .i64 1)))⟩])
  (.jn ⟨[(6, (.lf (.int .i64)))], [], [30, 31, 32].map .s⟩ (.seq (.reg [⟨none, (.mv (some 30) (.t 0))⟩,
    ⟨none, (.ix 31 (.t 30) (.v (.int .i64 0)))⟩,
    ⟨none, (.ar 32 .eql (.t 31) (.v (.int .u8 36)))⟩])
  (.cond (.t 32)
    (.reg [⟨none, (.mv (some 6) (.v (.int .i64 2)))⟩])
    .skip))
  (.seq (.reg [⟨none, (.mv (some 33) (.t 0))⟩,
    ⟨none, (.ix 34 (.t 33) (.v (.int .i64 0)))⟩,
    ⟨none, (.cw (some 35) 25 .wbyte [(.t 5), (.t 34)])⟩])
  (.reg [⟨none, (.mv (some 36) (.t 0))⟩,
    ⟨none, (.mv (some 37) (.t 6))⟩,
    ⟨none, (.sc 38 none (.t 36) (some (.t 37)) none)⟩,
    ⟨none, (.mv (some 0) (.t 38))⟩]))))))))
  (.reg [⟨none, (.mv (some 39) (.t 3))⟩,
    ⟨none, (.mv (some 40) (.t 4))⟩,
    ⟨none, (.cw (some 41) 14 .str [(.t 5)])⟩,
    ⟨none, (.bd 42 37 [(.int .u8 0), (.str [])] [0, 1] [(.t 40), (.t 41)])⟩,
    ⟨none, (.bs 43 37 (some 37) [(.t 42)])⟩,
    ⟨none, (.ap 44 37 (.t 39) (.t 43))⟩,
    ⟨none, (.mv (some 3) (.t 44))⟩])))))))))
  (.seq (.reg [⟨none, (.mv (some 45) (.t 3))⟩,
    ⟨none, (.mv (some 2) (.t 45))⟩])
  .ret))))
noncomputable def ent31 : TEnt := ⟨31, [.str], (.sl 37 (.agg 37 (.pair .byte .str))), fun x => F31 x, .plain⟩
theorem eq31 (x : dens ent31.as) : ent31.F x = evF [entString, entWriteByte, entHas] SHF dc31 [(.tmp 2)] ent31.as ent31.rs x := by kernel_rfl
/-- library/field.Parse -/
noncomputable def F18 (a0 : List UInt8) : Option ((List UInt8 × List UInt8 × (List (UInt8 × List UInt8)) × Int) × Int) :=
  bindO (fSplitN a0 ([32] : List UInt8) (3 : Int)) fun y1 =>
  cond (decide ((List.length y1 : Int) < (3 : Int)))
    (some ((([] : List UInt8), ([] : List UInt8), ([] : List (UInt8 × List UInt8)), (0 : Int)), (3 : Int)))
    (gd (0 ≤ (0 : Int) ∧ (0 : Int) < (List.length y1 : Int)) <|
    bindO (fCut (List.getD y1 (Int.toNat (0 : Int)) []) ([64] : List UInt8)) fun y2 =>
    bindO (fAtoi y2.2.1) fun y3 =>
    gd (0 ≤ (1 : Int) ∧ (1 : Int) < (List.length y1 : Int)) <|
    bindO (fRepl (List.getD y1 (Int.toNat (1 : Int)) []) ([35] : List UInt8) ([32] : List UInt8)) fun y4 =>
    gd (0 ≤ (2 : Int) ∧ (2 : Int) < (List.length y1 : Int)) <|
    bindO (F31 (List.getD y1 (Int.toNat (2 : Int)) [])) fun y5 =>
    bindO (F13 (y2.1, y4, y5, y3.1)) fun y6 =>
    cond (!decide (y6.2 = (0 : Int)))
      (some ((([] : List UInt8), ([] : List UInt8), ([] : List (UInt8 × List UInt8)), (0 : Int)), (3 : Int)))
      (cond (!decide (y6.1 = a0))
        (some ((([] : List UInt8), ([] : List UInt8), ([] : List (UInt8 × List UInt8)), (0 : Int)), (3 : Int)))
        (some ((y2.1, y4, y5, y3.1), (0 : Int)))))
def dc18 : DC :=
  (.seq (.reg [⟨none, (.al 2 (.agg 40 [(.str []), (.str []), (.sl none 37 []), (.int .i64 0)]))⟩,
    ⟨none, (.mv (some 3) (.v (.int .i64 0)))⟩])
  (.seq (.reg [⟨none, (.mv (some 13) (.t 0))⟩,
    ⟨none, (.ca (some 14) 30 [(.t 13), (.v (.str [32])), (.v (.int .i64 3))])⟩,
    ⟨none, (.mv (some 4) (.t 14))⟩])
  (.seq (.seq (.reg [⟨none, (.mv (some 15) (.t 4))⟩,
    ⟨none, (.ln 16 (some 9) (.t 15))⟩,
    ⟨none, (.ar 17 .lss (.t 16) (.v (.int .i64 3)))⟩])
  (.cond (.t 17)
    (.seq (.reg [⟨none, (.bd 18 40 [(.str []), (.str []), (.sl none 37 []), (.int .i64 0)] [] [])⟩,
    ⟨none, (.st (some 40) (.t 2) (.t 18))⟩,
    ⟨none, (.mv (some 3) (.v (.int .i64 3)))⟩])
  .ret)
    .skip))
  (.seq (.reg [⟨none, (.mv (some 20) (.t 4))⟩,
    ⟨none, (.ea 21 9 (.t 20) (.v (.int .i64 0)))⟩,
    ⟨none, (.ld 22 none (.t 21))⟩,
    ⟨none, (.ca (some 23) 16 [(.t 22), (.v (.str [64]))])⟩,
    ⟨none, (.mv (some 19) (.t 23))⟩,
    ⟨none, (.ex 24 0 (.t 19))⟩,
    ⟨none, (.ex 25 1 (.t 19))⟩,
    ⟨none, (.ex 26 2 (.t 19))⟩,
    ⟨none, (.mv (some 5) (.t 24))⟩,
    ⟨none, (.mv (some 6) (.t 25))⟩,
    ⟨none, (.mv (some 7) (.t 26))⟩])
  (.seq (.reg [⟨none, (.mv (some 28) (.t 6))⟩,
    ⟨none, (.ca (some 29) 29 [(.t 28)])⟩,
    ⟨none, (.mv (some 27) (.t 29))⟩,
    ⟨none, (.ex 30 0 (.t 27))⟩,
    ⟨none, (.ex 31 1 (.t 27))⟩,
    ⟨none, (.mv (some 8) (.t 30))⟩,
    ⟨none, (.mv (some 9) (.t 31))⟩])
  (.seq (.reg [⟨none, (.mv (some 32) (.t 5))⟩,
    ⟨none, (.mv (some 33) (.t 4))⟩,
    ⟨none, (.ea 34 9 (.t 33) (.v (.int .i64 1)))⟩,
    ⟨none, (.ld 35 none (.t 34))⟩,
    ⟨none, (.ca (some 36) 24 [(.t 35), (.v (.str [35])), (.v (.str [32]))])⟩,
    ⟨none, (.mv (some 37) (.t 4))⟩,
    ⟨none, (.ea 38 9 (.t 37) (.v (.int .i64 2)))⟩,
    ⟨none, (.ld 39 none (.t 38))⟩,
    ⟨none, (.ca (some 40) 31 [(.t 39)])⟩,
    ⟨none, (.mv (some 41) (.t 8))⟩,
    ⟨none, (.bd 42 40 [(.str []), (.str []), (.sl none 37 []), (.int .i64 0)] [0, 1, 2, 3] [(.t 32), (.t 36), (.t 40), (.t 41)])⟩,
    ⟨none, (.al 10 (.agg 40 [(.str []), (.str []), (.sl none 37 []), (.int .i64 0)]))⟩,
    ⟨none, (.st (some 40) (.t 10) (.t 42))⟩])
  (.seq (.seq (.reg [⟨none, (.ld 44 (some 40) (.t 10))⟩,
    ⟨none, (.ca (some 45) 13 [(.t 44)])⟩,
    ⟨none, (.mv (some 43) (.t 45))⟩,
    ⟨none, (.ex 46 0 (.t 43))⟩,
    ⟨none, (.ex 47 1 (.t 43))⟩,
    ⟨none, (.mv (some 11) (.t 46))⟩,
    ⟨none, (.mv (some 12) (.t 47))⟩])
  (.seq (.reg [⟨none, (.mv (some 48) (.t 12))⟩,
    ⟨none, (.ar 49 .neq (.t 48) (.v (.int .i64 0)))⟩,
    ⟨none, (.mv (some 50) (.t 49))⟩,
    ⟨(some (50, false)), (.mv (some 51) (.t 11))⟩,
    ⟨(some (50, false)), (.mv (some 52) (.t 0))⟩,
    ⟨(some (50, false)), (.ar 53 .neq (.t 51) (.t 52))⟩,
    ⟨none, (.pick 54 (.t 50) (.v (.bool true)) (.t 53))⟩])
  (.cond (.t 54)
    (.seq (.reg [⟨none, (.bd 55 40 [(.str []), (.str []), (.sl none 37 []), (.int .i64 0)] [] [])⟩,
    ⟨none, (.st (some 40) (.t 2) (.t 55))⟩,
    ⟨none, (.mv (some 3) (.v (.int .i64 3)))⟩])
  .ret)
    .skip)))
  (.seq (.reg [⟨none, (.ld 56 (some 40) (.t 10))⟩,
    ⟨none, (.st (some 40) (.t 2) (.t 56))⟩,
    ⟨none, (.mv (some 3) (.v (.int .i64 0)))⟩])
  .ret))))))))
noncomputable def ent18 : TEnt := ⟨18, [.str], (.tup (.pair (.agg 40 (.pair .str (.pair .str (.pair (.sl 37 (.agg 37 (.pair .byte .str))) (.int .i64))))) (.int .i64))), fun x => F18 x, .plain⟩
theorem eq18 (x : dens ent18.as) : ent18.F x = evF [ent13, entCut, entRepl, entAtoi, entSplitN, ent31] SHF dc18 [(.cell 2 (some 40)), (.tmp 3)] ent18.as ent18.rs x := by kernel_rfl
/-- library/lines.begin -/
noncomputable def F17 (a0 : List UInt8) : Option ((Int × Int × Int × List UInt8 × List (List UInt8 × List UInt8 × (List (UInt8 × List UInt8)) × Int)) × Bool) :=
  bindO (fSplit a0 ([32] : List UInt8)) fun y1 =>
  cond (!decide ((List.length y1 : Int) = (4 : Int)))
    (some (((0 : Int), (0 : Int), (0 : Int), ([] : List UInt8), ([] : List (List UInt8 × List UInt8 × (List (UInt8 × List UInt8)) × Int))), false))
    (gd (0 ≤ (0 : Int) ∧ (0 : Int) < (List.length y1 : Int)) <|
    bindO (fHas (List.getD y1 (Int.toNat (0 : Int)) []) ([61] : List UInt8)) fun y2 =>
    cond (!y2)
      (some (((0 : Int), (0 : Int), (0 : Int), ([] : List UInt8), ([] : List (List UInt8 × List UInt8 × (List (UInt8 × List UInt8)) × Int))), false))
      (gd (0 ≤ (0 : Int) ∧ (0 : Int) < (List.length y1 : Int)) <|
      cond (decide ((6 : Int) < (List.length (List.getD y1 (Int.toNat (0 : Int)) []) : Int)))
        (some (((0 : Int), (0 : Int), (0 : Int), ([] : List UInt8), ([] : List (List UInt8 × List UInt8 × (List (UInt8 × List UInt8)) × Int))), false))
        (gd (0 ≤ (1 : Int) ∧ (1 : Int) < (List.length y1 : Int)) <|
        cond (!decide ((List.length (List.getD y1 (Int.toNat (1 : Int)) []) : Int) = (1 : Int)))
          (some (((0 : Int), (0 : Int), (0 : Int), ([] : List UInt8), ([] : List (List UInt8 × List UInt8 × (List (UInt8 × List UInt8)) × Int))), false))
          (gd (0 ≤ (0 : Int) ∧ (0 : Int) < (List.length y1 : Int)) <|
          gd (0 ≤ (1 : Int) ∧ (1 : Int) ≤ (List.length (List.getD y1 (Int.toNat (0 : Int)) []) : Int)) <|
          bnd (List.drop (Int.toNat (1 : Int)) (List.getD y1 (Int.toNat (0 : Int)) [])) fun x3 =>
          bindO (fAtoi x3) fun y4 =>
          gd (0 ≤ (1 : Int) ∧ (1 : Int) < (List.length y1 : Int)) <|
          bindO (fAtoi (List.getD y1 (Int.toNat (1 : Int)) [])) fun y5 =>
          cond (!(Option.isNone y4.2))
            (some (((0 : Int), (0 : Int), (0 : Int), ([] : List UInt8), ([] : List (List UInt8 × List UInt8 × (List (UInt8 × List UInt8)) × Int))), false))
            (cond (!(Option.isNone y5.2))
              (some (((0 : Int), (0 : Int), (0 : Int), ([] : List UInt8), ([] : List (List UInt8 × List UInt8 × (List (UInt8 × List UInt8)) × Int))), false))
              (gd (0 ≤ (3 : Int) ∧ (3 : Int) < (List.length y1 : Int)) <|
              bindO (F23) fun y6 =>
              loopK (σ := Int × (Int × Int × Int × List UInt8 × Unit)) (fun p7 againp7 =>
                cond (decide (p7.1 < (List.length y6 : Int)))
                  (gd (0 ≤ p7.1 ∧ p7.1 < (List.length y6 : Int)) <|
                  cond (decide ((0 : Int) < p7.1))
                    (gd (0 ≤ (2 : Int) ∧ (2 : Int) < (List.length y1 : Int)) <|
                    cond (decide ((List.getD y6 (Int.toNat p7.1) []) = (List.getD y1 (Int.toNat (2 : Int)) [])))
                      (bnd (IntKind.wrap .i64 (p7.1 + (1 : Int))) fun x8 =>
                      againp7 (x8, (p7.2.1, p7.2.2.1, p7.1, p7.2.2.2.2.1, ())))
                      (bnd (IntKind.wrap .i64 (p7.1 + (1 : Int))) fun x9 =>
                      againp7 (x9, (p7.2.1, p7.2.2.1, p7.2.2.2.1, p7.2.2.2.2.1, ()))))
                    (bnd (IntKind.wrap .i64 (p7.1 + (1 : Int))) fun x10 =>
                    againp7 (x10, (p7.2.1, p7.2.2.1, p7.2.2.2.1, p7.2.2.2.2.1, ()))))
                  (bindO (F10 (p7.2.1, p7.2.2.1, p7.2.2.2.1, p7.2.2.2.2.1, ([] : List (List UInt8 × List UInt8 × (List (UInt8 × List UInt8)) × Int)))) fun y11 =>
                  cond (decide (y11 = (0 : Int)))
                    (bindO (F12 (p7.2.1, p7.2.2.1, p7.2.2.2.1, p7.2.2.2.2.1, ([] : List (List UInt8 × List UInt8 × (List (UInt8 × List UInt8)) × Int)))) fun y12 =>
                    some ((p7.2.1, p7.2.2.1, p7.2.2.2.1, p7.2.2.2.2.1, ([] : List (List UInt8 × List UInt8 × (List (UInt8 × List UInt8)) × Int))), decide (y12 = a0)))
                    (some ((p7.2.1, p7.2.2.1, p7.2.2.2.1, p7.2.2.2.2.1, ([] : List (List UInt8 × List UInt8 × (List (UInt8 × List UInt8)) × Int))), false)))) ((0 : Int), (y4.1, y5.1, (0 : Int), (List.getD y1 (Int.toNat (3 : Int)) []), ()))))))))
def dc17 : DC :=
  (.seq (.reg [⟨none, (.al 2 (.agg 25 [(.int .i64 0), (.int .i64 0), (.int .i64 0), (.str []), (.sl (some 5900000) 40 [])]))⟩,
    ⟨none, (.mv (some 3) (.v (.bool false)))⟩])
  (.seq (.reg [⟨none, (.mv (some 12) (.t 0))⟩,
    ⟨none, (.ca (some 13) 27 [(.t 12), (.v (.str [32]))])⟩,
    ⟨none, (.mv (some 4) (.t 13))⟩])
  (.seq (.seq (.reg [⟨none, (.mv (some 14) (.t 4))⟩,
    ⟨none, (.ln 15 (some 9) (.t 14))⟩,
    ⟨none, (.ar 16 .neq (.t 15) (.v (.int .i64 4)))⟩,
    ⟨none, (.mv (some 17) (.t 16))⟩,
    ⟨(some (17, false)), (.mv (some 18) (.t 4))⟩,
    ⟨(some (17, false)), (.ea 19 9 (.t 18) (.v (.int .i64 0)))⟩,
    ⟨(some (17, false)), (.ld 20 none (.t 19))⟩,
    ⟨(some (17, false)), (.ca (some 21) 28 [(.t 20), (.v (.str [61]))])⟩,
    ⟨(some (17, false)), (.un 22 .not (.t 21))⟩,
    ⟨none, (.pick 23 (.t 17) (.v (.bool true)) (.t 22))⟩,
    ⟨none, (.mv (some 24) (.t 23))⟩,
    ⟨(some (24, false)), (.mv (some 25) (.t 4))⟩,
    ⟨(some (24, false)), (.ea 26 9 (.t 25) (.v (.int .i64 0)))⟩,
    ⟨(some (24, false)), (.ld 27 none (.t 26))⟩,
    ⟨(some (24, false)), (.ln 28 none (.t 27))⟩,
    ⟨(some (24, false)), (.ar 29 .gtr (.t 28) (.v (.int .i64 6)))⟩,
    ⟨none, (.pick 30 (.t 24) (.v (.bool true)) (.t 29))⟩,
    ⟨none, (.mv (some 31) (.t 30))⟩,
    ⟨(some (31, false)), (.mv (some 32) (.t 4))⟩,
    ⟨(some (31, false)), (.ea 33 9 (.t 32) (.v (.int .i64 1)))⟩,
    ⟨(some (31, false)), (.ld 34 none (.t 33))⟩,
    ⟨(some (31, false)), (.ln 35 none (.t 34))⟩,
    ⟨(some (31, false)), (.ar 36 .neq (.t 35) (.v (.int .i64 1)))⟩,
    ⟨none, (.pick 37 (.t 31) (.v (.bool true)) (.t 36))⟩])
  (.cond (.t 37)
    (.seq (.reg [⟨none, (.bd 38 25 [(.int .i64 0), (.int .i64 0), (.int .i64 0), (.str []), (.sl (some 5900000) 40 [])] [] [])⟩,
    ⟨none, (.st (some 25) (.t 2) (.t 38))⟩,
    ⟨none, (.mv (some 3) (.v (.bool false)))⟩])
  .ret)
    .skip))
  (.seq (.reg [⟨none, (.mv (some 40) (.t 4))⟩,
    ⟨none, (.ea 41 9 (.t 40) (.v (.int .i64 0)))⟩,
    ⟨none, (.ld 42 none (.t 41))⟩,
    ⟨none, (.sc 43 none (.t 42) (some (.v (.int .i64 1))) none)⟩,
    ⟨none, (.ca (some 44) 29 [(.t 43)])⟩,
    ⟨none, (.mv (some 39) (.t 44))⟩,
    ⟨none, (.ex 45 0 (.t 39))⟩,
    ⟨none, (.ex 46 1 (.t 39))⟩,
    ⟨none, (.mv (some 5) (.t 45))⟩,
    ⟨none, (.mv (some 6) (.t 46))⟩])
  (.seq (.reg [⟨none, (.mv (some 48) (.t 4))⟩,
    ⟨none, (.ea 49 9 (.t 48) (.v (.int .i64 1)))⟩,
    ⟨none, (.ld 50 none (.t 49))⟩,
    ⟨none, (.ca (some 51) 29 [(.t 50)])⟩,
    ⟨none, (.mv (some 47) (.t 51))⟩,
    ⟨none, (.ex 52 0 (.t 47))⟩,
    ⟨none, (.ex 53 1 (.t 47))⟩,
    ⟨none, (.mv (some 7) (.t 52))⟩,
    ⟨none, (.mv (some 8) (.t 53))⟩])
  (.seq (.seq (.reg [⟨none, (.mv (some 54) (.t 6))⟩,
    ⟨none, (.se 55 .ifc true (.t 54) (.v .nili))⟩,
    ⟨none, (.mv (some 56) (.t 55))⟩,
    ⟨(some (56, false)), (.mv (some 57) (.t 8))⟩,
    ⟨(some (56, false)), (.se 58 .ifc true (.t 57) (.v .nili))⟩,
    ⟨none, (.pick 59 (.t 56) (.v (.bool true)) (.t 58))⟩])
  (.cond (.t 59)
    (.seq (.reg [⟨none, (.bd 60 25 [(.int .i64 0), (.int .i64 0), (.int .i64 0), (.str []), (.sl (some 5900000) 40 [])] [] [])⟩,
    ⟨none, (.st (some 25) (.t 2) (.t 60))⟩,
    ⟨none, (.mv (some 3) (.v (.bool false)))⟩])
  .ret)
    .skip))
  (.seq (.reg [⟨none, (.mv (some 61) (.t 5))⟩,
    ⟨none, (.mv (some 62) (.t 7))⟩,
    ⟨none, (.mv (some 63) (.t 4))⟩,
    ⟨none, (.ea 64 9 (.t 63) (.v (.int .i64 3)))⟩,
    ⟨none, (.ld 65 none (.t 64))⟩,
    ⟨none, (.bd 66 25 [(.int .i64 0), (.int .i64 0), (.int .i64 0), (.str []), (.sl (some 5900000) 40 [])] [0, 1, 3] [(.t 61), (.t 62), (.t 65)])⟩,
    ⟨none, (.al 9 (.agg 25 [(.int .i64 0), (.int .i64 0), (.int .i64 0), (.str []), (.sl (some 5900000) 40 [])]))⟩,
    ⟨none, (.st (some 25) (.t 9) (.t 66))⟩])
  (.seq (.seq (.reg [⟨none, (.ca (some 67) 23 [])⟩,
    ⟨none, (.ln 68 (some 9) (.t 67))⟩,
    ⟨none, (.mv (some 69) (.v (.int .i64 0)))⟩])
  (.block 0 (.loop ⟨[(69, (.lf (.int .i64)))], [(9, (.agg 25 (.pair (.lf (.int .i64)) (.pair (.lf (.int .i64)) (.pair (.lf (.int .i64)) (.pair (.lf .str) (.con (.sl (some 5900000) 40 []))))))))], [10, 11, 70, 71, 72, 73, 74, 75, 76, 77, 78, 79, 80, 81, 82, 83, 84, 85].map .s⟩ (.seq (.reg [⟨none, (.ar 70 .lss (.t 69) (.t 68))⟩])
  (.seq (.cond (.t 70)
    .skip
    (.exit 0))
  (.seq (.block 1 (.seq (.reg [⟨none, (.mv (some 71) (.t 69))⟩,
    ⟨none, (.ea 72 9 (.t 67) (.t 69))⟩,
    ⟨none, (.ld 73 none (.t 72))⟩,
    ⟨none, (.mv (some 10) (.t 71))⟩,
    ⟨none, (.mv (some 11) (.t 73))⟩])
  (.seq (.reg [⟨none, (.mv (some 74) (.t 10))⟩,
    ⟨none, (.ar 75 .gtr (.t 74) (.v (.int .i64 0)))⟩,
    ⟨none, (.mv (some 76) (.t 75))⟩,
    ⟨(some (76, true)), (.mv (some 77) (.t 11))⟩,
    ⟨(some (76, true)), (.mv (some 78) (.t 4))⟩,
    ⟨(some (76, true)), (.ea 79 9 (.t 78) (.v (.int .i64 2)))⟩,
    ⟨(some (76, true)), (.ld 80 none (.t 79))⟩,
    ⟨(some (76, true)), (.ar 81 .eql (.t 77) (.t 80))⟩,
    ⟨none, (.pick 82 (.t 76) (.t 81) (.v (.bool false)))⟩])
  (.cond (.t 82)
    (.reg [⟨none, (.mv (some 83) (.t 10))⟩,
    ⟨none, (.fa 84 25 2 (.t 9))⟩,
    ⟨none, (.st none (.t 84) (.t 83))⟩])
    .skip))))
  (.reg [⟨none, (.ar 85 .add (.t 69) (.v (.int .i64 1)))⟩,
    ⟨none, (.mv (some 69) (.t 85))⟩])))))))
  (.seq (.reg [⟨none, (.ld 86 (some 25) (.t 9))⟩,
    ⟨none, (.ld 87 (some 25) (.t 9))⟩,
    ⟨none, (.ca (some 88) 10 [(.t 87)])⟩,
    ⟨none, (.ar 89 .eql (.t 88) (.v (.int .i64 0)))⟩,
    ⟨none, (.mv (some 90) (.t 89))⟩,
    ⟨(some (90, true)), (.ld 91 (some 25) (.t 9))⟩,
    ⟨(some (90, true)), (.ca (some 92) 12 [(.t 91)])⟩,
    ⟨(some (90, true)), (.mv (some 93) (.t 0))⟩,
    ⟨(some (90, true)), (.ar 94 .eql (.t 92) (.t 93))⟩,
    ⟨none, (.pick 95 (.t 90) (.t 94) (.v (.bool false)))⟩,
    ⟨none, (.st (some 25) (.t 2) (.t 86))⟩,
    ⟨none, (.mv (some 3) (.t 95))⟩])
  .ret)))))))))
noncomputable def ent17 : TEnt := ⟨17, [.str], (.tup (.pair (.agg 25 (.pair (.int .i64) (.pair (.int .i64) (.pair (.int .i64) (.pair .str (.sl 40 (.agg 40 (.pair .str (.pair .str (.pair (.sl 37 (.agg 37 (.pair .byte .str))) (.int .i64))))))))))) .bool)), fun x => F17 x, .plainN 0 [4]⟩
theorem eq17 (x : dens ent17.as) : ent17.F x = evFP [ent10, ent12, ent23, entSplit, entHas, entAtoi] SHF dc17 [(.cell 2 (some 25)), (.tmp 3)] ent17.as ent17.rs 0 [4] x := by kernel_rfl
/-- library/lines.next -/
noncomputable def F9 (a0 : List UInt8) : Option ((Int × Int × Int × List UInt8 × List (List UInt8 × List UInt8 × (List (UInt8 × List UInt8)) × Int)) × List UInt8 × Int × Int) :=
  bindO (fCut a0 ([10] : List UInt8)) fun y1 =>
  bindO (F17 y1.1) fun y2 =>
  gdN (List.length y2.1.2.2.2.2) (0) <|
  jn (σ := Bool) (fun nextj3 =>
    cond (!y1.2.2)
      (nextj3 true)
      (nextj3 (!y2.2))) fun j3 =>
  cond (j3)
    (some (((0 : Int), (0 : Int), (0 : Int), ([] : List UInt8), ([] : List (List UInt8 × List UInt8 × (List (UInt8 × List UInt8)) × Int))), ([] : List UInt8), (1 : Int), (3 : Int)))
    (gdN (0) (List.length ([] : List (List UInt8 × List UInt8 × (List (UInt8 × List UInt8)) × Int))) <|
    loopK (σ := Int × List UInt8 × (Int × Int × Int × List UInt8 × List (List UInt8 × List UInt8 × (List (UInt8 × List UInt8)) × Int)) × (Int × Int × Int × List UInt8 × List (List UInt8 × List UInt8 × (List (UInt8 × List UInt8)) × Int))) (fun p4 againp4 =>
      bnd (IntKind.wrap .i64 (p4.1 + (1 : Int))) fun x5 =>
      bindO (fCut p4.2.1 ([10] : List UInt8)) fun y6 =>
      cond (decide (y6.1 = ([] : List UInt8)))
        (cond (!y6.2.2)
          (some (((0 : Int), (0 : Int), (0 : Int), ([] : List UInt8), ([] : List (List UInt8 × List UInt8 × (List (UInt8 × List UInt8)) × Int))), ([] : List UInt8), x5, (3 : Int)))
          (some ((p4.2.2.2.1, p4.2.2.2.2.1, p4.2.2.2.2.2.1, p4.2.2.2.2.2.2.1, p4.2.2.2.2.2.2.2), y6.2.1, x5, (0 : Int))))
        (cond (decide ((64 : Int) ≤ (List.length p4.2.2.2.2.2.2.2 : Int)))
          (some (((0 : Int), (0 : Int), (0 : Int), ([] : List UInt8), ([] : List (List UInt8 × List UInt8 × (List (UInt8 × List UInt8)) × Int))), ([] : List UInt8), x5, (4 : Int)))
          (bindO (F18 y6.1) fun y7 =>
          jn (σ := Bool) (fun nextj8 =>
            cond (!y6.2.2)
              (nextj8 true)
              (nextj8 (!decide (y7.2 = (0 : Int))))) fun j8 =>
          cond (j8)
            (some (((0 : Int), (0 : Int), (0 : Int), ([] : List UInt8), ([] : List (List UInt8 × List UInt8 × (List (UInt8 × List UInt8)) × Int))), ([] : List UInt8), x5, (3 : Int)))
            (gdN (List.length p4.2.2.2.2.2.2.2) (List.length p4.2.2.2.2.2.2.2) <|
            gd (List.length p4.2.2.2.2.2.2.2 + List.length [y7.1] ≤ big) <|
            bnd (p4.2.2.2.2.2.2.2 ++ [y7.1]) fun l9 =>
            gdN (List.length l9) (List.length l9) <|
            againp4 (x5, y6.2.1, p4.2.2.1, (p4.2.2.2.1, p4.2.2.2.2.1, p4.2.2.2.2.2.1, p4.2.2.2.2.2.2.1, l9)))))) ((1 : Int), y1.2.1, ((0 : Int), (0 : Int), (0 : Int), ([] : List UInt8), ([] : List (List UInt8 × List UInt8 × (List (UInt8 × List UInt8)) × Int))), (y2.1.1, y2.1.2.1, y2.1.2.2.1, y2.1.2.2.2.1, ([] : List (List UInt8 × List UInt8 × (List (UInt8 × List UInt8)) × Int)))))
def dc9 : DC :=
  (.seq (.reg [⟨none, (.al 2 (.agg 25 [(.int .i64 0), (.int .i64 0), (.int .i64 0), (.str []), (.sl none 40 [])]))⟩,
    ⟨none, (.mv (some 3) (.v (.str [])))⟩,
    ⟨none, (.mv (some 4) (.v (.int .i64 0)))⟩,
    ⟨none, (.mv (some 5) (.v (.int .i64 0)))⟩])
  (.seq (.reg [⟨none, (.mv (some 6) (.v (.int .i64 1)))⟩])
  (.seq (.reg [⟨none, (.mv (some 15) (.t 0))⟩,
    ⟨none, (.ca (some 16) 16 [(.t 15), (.v (.str [10]))])⟩,
    ⟨none, (.mv (some 14) (.t 16))⟩,
    ⟨none, (.ex 17 0 (.t 14))⟩,
    ⟨none, (.ex 18 1 (.t 14))⟩,
    ⟨none, (.ex 19 2 (.t 14))⟩,
    ⟨none, (.mv (some 7) (.t 17))⟩,
    ⟨none, (.mv (some 8) (.t 18))⟩,
    ⟨none, (.mv (some 9) (.t 19))⟩])
  (.seq (.reg [⟨none, (.mv (some 21) (.t 7))⟩,
    ⟨none, (.ca (some 22) 17 [(.t 21)])⟩,
    ⟨none, (.mv (some 20) (.t 22))⟩,
    ⟨none, (.ex 23 0 (.t 20))⟩,
    ⟨none, (.ex 24 1 (.t 20))⟩,
    ⟨none, (.al 10 (.agg 25 [(.int .i64 0), (.int .i64 0), (.int .i64 0), (.str []), (.sl none 40 [])]))⟩,
    ⟨none, (.st (some 25) (.t 10) (.t 23))⟩,
    ⟨none, (.mv (some 11) (.t 24))⟩])
  (.seq (.jn ⟨[(30, (.lf .bool))], [], [25, 26, 27, 28, 29].map .s⟩ (.reg [⟨none, (.mv (some 25) (.t 9))⟩,
    ⟨none, (.un 26 .not (.t 25))⟩,
    ⟨none, (.mv (some 27) (.t 26))⟩,
    ⟨(some (27, false)), (.mv (some 28) (.t 11))⟩,
    ⟨(some (27, false)), (.un 29 .not (.t 28))⟩,
    ⟨none, (.pick 30 (.t 27) (.v (.bool true)) (.t 29))⟩])
  (.cond (.t 30)
    (.seq (.reg [⟨none, (.bd 31 25 [(.int .i64 0), (.int .i64 0), (.int .i64 0), (.str []), (.sl none 40 [])] [] [])⟩,
    ⟨none, (.mv (some 32) (.t 6))⟩,
    ⟨none, (.st (some 25) (.t 2) (.t 31))⟩,
    ⟨none, (.mv (some 3) (.v (.str [])))⟩,
    ⟨none, (.mv (some 4) (.t 32))⟩,
    ⟨none, (.mv (some 5) (.v (.int .i64 3)))⟩])
  .ret)
    .skip))
  (.seq (.seq (.gh 6001004 [])
  (.block 0 (.loop ⟨[(6, (.lf (.int .i64))), (8, (.lf .str))], [(2, (.lf (.agg 25 (.pair (.int .i64) (.pair (.int .i64) (.pair (.int .i64) (.pair .str (.sl 40 (.agg 40 (.pair .str (.pair .str (.pair (.sl 37 (.agg 37 (.pair .byte .str))) (.int .i64))))))))))))), (10, (.agg 25 (.pair (.lf (.int .i64)) (.pair (.lf (.int .i64)) (.pair (.lf (.int .i64)) (.pair (.lf .str) (.row 6001004 40 (.agg 40 (.pair .str (.pair .str (.pair (.sl 37 (.agg 37 (.pair .byte .str))) (.int .i64))))))))))))], [3, 4, 5, 7, 9, 12, 13, 33, 34, 35, 36, 37, 38, 39, 40, 41, 42, 43, 44, 45, 46, 47, 48, 49, 50, 51, 52, 53, 54, 55, 56, 57, 58, 59, 60, 61, 62, 63, 64, 65, 66, 67].map .s ++ [12].map .b ++ [65].map .f⟩ (.block 1 (.seq (.reg [⟨none, (.mv (some 33) (.t 6))⟩,
    ⟨none, (.ar 34 .add (.t 33) (.v (.int .i64 1)))⟩,
    ⟨none, (.mv (some 6) (.t 34))⟩])
  (.seq (.reg [⟨none, (.mv (some 36) (.t 8))⟩,
    ⟨none, (.ca (some 37) 16 [(.t 36), (.v (.str [10]))])⟩,
    ⟨none, (.mv (some 35) (.t 37))⟩,
    ⟨none, (.ex 38 0 (.t 35))⟩,
    ⟨none, (.ex 39 1 (.t 35))⟩,
    ⟨none, (.ex 40 2 (.t 35))⟩,
    ⟨none, (.mv (some 7) (.t 38))⟩,
    ⟨none, (.mv (some 8) (.t 39))⟩,
    ⟨none, (.mv (some 9) (.t 40))⟩])
  (.seq (.seq (.reg [⟨none, (.mv (some 41) (.t 7))⟩,
    ⟨none, (.ar 42 .eql (.t 41) (.v (.str [])))⟩])
  (.cond (.t 42)
    (.exit 0)
    .skip))
  (.seq (.seq (.reg [⟨none, (.fa 43 25 4 (.t 10))⟩,
    ⟨none, (.ld 44 none (.t 43))⟩,
    ⟨none, (.ln 45 (some 40) (.t 44))⟩,
    ⟨none, (.ar 46 .geq (.t 45) (.v (.int .i64 64)))⟩])
  (.cond (.t 46)
    (.seq (.reg [⟨none, (.bd 47 25 [(.int .i64 0), (.int .i64 0), (.int .i64 0), (.str []), (.sl none 40 [])] [] [])⟩,
    ⟨none, (.mv (some 48) (.t 6))⟩,
    ⟨none, (.st (some 25) (.t 2) (.t 47))⟩,
    ⟨none, (.mv (some 3) (.v (.str [])))⟩,
    ⟨none, (.mv (some 4) (.t 48))⟩,
    ⟨none, (.mv (some 5) (.v (.int .i64 4)))⟩])
  .ret)
    .skip))
  (.seq (.reg [⟨none, (.mv (some 50) (.t 7))⟩,
    ⟨none, (.ca (some 51) 18 [(.t 50)])⟩,
    ⟨none, (.mv (some 49) (.t 51))⟩,
    ⟨none, (.ex 52 0 (.t 49))⟩,
    ⟨none, (.ex 53 1 (.t 49))⟩,
    ⟨none, (.al 12 (.agg 40 [(.str []), (.str []), (.sl none 37 []), (.int .i64 0)]))⟩,
    ⟨none, (.st (some 40) (.t 12) (.t 52))⟩,
    ⟨none, (.mv (some 13) (.t 53))⟩])
  (.seq (.jn ⟨[(59, (.lf .bool))], [], [54, 55, 56, 57, 58].map .s⟩ (.reg [⟨none, (.mv (some 54) (.t 9))⟩,
    ⟨none, (.un 55 .not (.t 54))⟩,
    ⟨none, (.mv (some 56) (.t 55))⟩,
    ⟨(some (56, false)), (.mv (some 57) (.t 13))⟩,
    ⟨(some (56, false)), (.ar 58 .neq (.t 57) (.v (.int .i64 0)))⟩,
    ⟨none, (.pick 59 (.t 56) (.v (.bool true)) (.t 58))⟩])
  (.cond (.t 59)
    (.seq (.reg [⟨none, (.bd 60 25 [(.int .i64 0), (.int .i64 0), (.int .i64 0), (.str []), (.sl none 40 [])] [] [])⟩,
    ⟨none, (.mv (some 61) (.t 6))⟩,
    ⟨none, (.st (some 25) (.t 2) (.t 60))⟩,
    ⟨none, (.mv (some 3) (.v (.str [])))⟩,
    ⟨none, (.mv (some 4) (.t 61))⟩,
    ⟨none, (.mv (some 5) (.v (.int .i64 3)))⟩])
  .ret)
    .skip))
  (.reg [⟨none, (.fa 62 25 4 (.t 10))⟩,
    ⟨none, (.ld 63 none (.t 62))⟩,
    ⟨none, (.ld 64 (some 40) (.t 12))⟩,
    ⟨none, (.bs 65 40 (some 40) [(.t 64)])⟩,
    ⟨none, (.ap 66 40 (.t 63) (.t 65))⟩,
    ⟨none, (.fa 67 25 4 (.t 10))⟩,
    ⟨none, (.st none (.t 67) (.t 66))⟩])))))))))))
  (.seq (.seq (.reg [⟨none, (.mv (some 68) (.t 9))⟩,
    ⟨none, (.un 69 .not (.t 68))⟩])
  (.cond (.t 69)
    (.seq (.reg [⟨none, (.bd 70 25 [(.int .i64 0), (.int .i64 0), (.int .i64 0), (.str []), (.sl none 40 [])] [] [])⟩,
    ⟨none, (.mv (some 71) (.t 6))⟩,
    ⟨none, (.st (some 25) (.t 2) (.t 70))⟩,
    ⟨none, (.mv (some 3) (.v (.str [])))⟩,
    ⟨none, (.mv (some 4) (.t 71))⟩,
    ⟨none, (.mv (some 5) (.v (.int .i64 3)))⟩])
  .ret)
    .skip))
  (.seq (.reg [⟨none, (.ld 72 (some 25) (.t 10))⟩,
    ⟨none, (.mv (some 73) (.t 8))⟩,
    ⟨none, (.mv (some 74) (.t 6))⟩,
    ⟨none, (.st (some 25) (.t 2) (.t 72))⟩,
    ⟨none, (.mv (some 3) (.t 73))⟩,
    ⟨none, (.mv (some 4) (.t 74))⟩,
    ⟨none, (.mv (some 5) (.v (.int .i64 0)))⟩])
  .ret))))))))
noncomputable def ent9 : TEnt := ⟨9, [.str], (.tup (.pair (.agg 25 (.pair (.int .i64) (.pair (.int .i64) (.pair (.int .i64) (.pair .str (.sl 40 (.agg 40 (.pair .str (.pair .str (.pair (.sl 37 (.agg 37 (.pair .byte .str))) (.int .i64))))))))))) (.pair .str (.pair (.int .i64) (.int .i64))))), fun x => F9 x, .plain⟩
theorem eq9 (x : dens ent9.as) : ent9.F x = evF [entCut, ent17, ent18] SHF dc9 [(.cell 2 (some 25)), (.tmp 3), (.tmp 4), (.tmp 5)] ent9.as ent9.rs x := by kernel_rfl
/-- library/lines.Parse -/
noncomputable def F5 (a0 : List UInt8) : Option ((Int × Int × Int × List UInt8 × List (List UInt8 × List UInt8 × (List (UInt8 × List UInt8)) × Int)) × Int × Int) :=
  bindO (F9 a0) fun y1 =>
  cond (!decide (y1.2.2.2 = (0 : Int)))
    (some (((0 : Int), (0 : Int), (0 : Int), ([] : List UInt8), ([] : List (List UInt8 × List UInt8 × (List (UInt8 × List UInt8)) × Int))), y1.2.2.1, y1.2.2.2))
    (cond (!decide (y1.2.1 = ([] : List UInt8)))
      (bnd (IntKind.wrap .i64 (y1.2.2.1 + (1 : Int))) fun x2 =>
      some (((0 : Int), (0 : Int), (0 : Int), ([] : List UInt8), ([] : List (List UInt8 × List UInt8 × (List (UInt8 × List UInt8)) × Int))), x2, (3 : Int)))
      (some (y1.1, (0 : Int), (0 : Int))))
def dc5 : DC :=
  (.seq (.reg [⟨none, (.al 2 (.agg 25 [(.int .i64 0), (.int .i64 0), (.int .i64 0), (.str []), (.sl none 40 [])]))⟩,
    ⟨none, (.mv (some 3) (.v (.int .i64 0)))⟩,
    ⟨none, (.mv (some 4) (.v (.int .i64 0)))⟩])
  (.seq (.reg [⟨none, (.mv (some 10) (.t 0))⟩,
    ⟨none, (.ca (some 11) 9 [(.t 10)])⟩,
    ⟨none, (.mv (some 9) (.t 11))⟩,
    ⟨none, (.ex 12 0 (.t 9))⟩,
    ⟨none, (.ex 13 1 (.t 9))⟩,
    ⟨none, (.ex 14 2 (.t 9))⟩,
    ⟨none, (.ex 15 3 (.t 9))⟩,
    ⟨none, (.al 5 (.agg 25 [(.int .i64 0), (.int .i64 0), (.int .i64 0), (.str []), (.sl none 40 [])]))⟩,
    ⟨none, (.st (some 25) (.t 5) (.t 12))⟩,
    ⟨none, (.mv (some 6) (.t 13))⟩,
    ⟨none, (.mv (some 7) (.t 14))⟩,
    ⟨none, (.mv (some 8) (.t 15))⟩])
  (.seq (.seq (.reg [⟨none, (.mv (some 16) (.t 8))⟩,
    ⟨none, (.ar 17 .neq (.t 16) (.v (.int .i64 0)))⟩])
  (.cond (.t 17)
    (.seq (.reg [⟨none, (.bd 18 25 [(.int .i64 0), (.int .i64 0), (.int .i64 0), (.str []), (.sl none 40 [])] [] [])⟩,
    ⟨none, (.mv (some 19) (.t 7))⟩,
    ⟨none, (.mv (some 20) (.t 8))⟩,
    ⟨none, (.st (some 25) (.t 2) (.t 18))⟩,
    ⟨none, (.mv (some 3) (.t 19))⟩,
    ⟨none, (.mv (some 4) (.t 20))⟩])
  .ret)
    .skip))
  (.seq (.seq (.reg [⟨none, (.mv (some 21) (.t 6))⟩,
    ⟨none, (.ar 22 .neq (.t 21) (.v (.str [])))⟩])
  (.cond (.t 22)
    (.seq (.reg [⟨none, (.bd 23 25 [(.int .i64 0), (.int .i64 0), (.int .i64 0), (.str []), (.sl none 40 [])] [] [])⟩,
    ⟨none, (.mv (some 24) (.t 7))⟩,
    ⟨none, (.ar 25 .add (.t 24) (.v (.int .i64 1)))⟩,
    ⟨none, (.st (some 25) (.t 2) (.t 23))⟩,
    ⟨none, (.mv (some 3) (.t 25))⟩,
    ⟨none, (.mv (some 4) (.v (.int .i64 3)))⟩])
  .ret)
    .skip))
  (.seq (.reg [⟨none, (.ld 26 (some 25) (.t 5))⟩,
    ⟨none, (.st (some 25) (.t 2) (.t 26))⟩,
    ⟨none, (.mv (some 3) (.v (.int .i64 0)))⟩,
    ⟨none, (.mv (some 4) (.v (.int .i64 0)))⟩])
  .ret)))))
noncomputable def ent5 : TEnt := ⟨5, [.str], (.tup (.pair (.agg 25 (.pair (.int .i64) (.pair (.int .i64) (.pair (.int .i64) (.pair .str (.sl 40 (.agg 40 (.pair .str (.pair .str (.pair (.sl 37 (.agg 37 (.pair .byte .str))) (.int .i64))))))))))) (.pair (.int .i64) (.int .i64)))), fun x => F5 x, .plain⟩
theorem eq5 (x : dens ent5.as) : ent5.F x = evF [ent9] SHF dc5 [(.cell 2 (some 25)), (.tmp 3), (.tmp 4)] ent5.as ent5.rs x := by kernel_rfl
/-- library/lines.ParseAll -/
noncomputable def F7 (a0 : List UInt8) : Option ((List (Int × Int × Int × List UInt8 × List (List UInt8 × List UInt8 × (List (UInt8 × List UInt8)) × Int))) × Int × Int) :=
  jn (σ := Unit) (fun nextj1 =>
    nextj1 ()) fun j1 =>
  cond (decide ((65536 : Int) < (List.length a0 : Int)))
    (some (([] : List (Int × Int × Int × List UInt8 × List (List UInt8 × List UInt8 × (List (UInt8 × List UInt8)) × Int))), (0 : Int), (4 : Int)))
    (gdN (List.length ([] : List (Int × Int × Int × List UInt8 × List (List UInt8 × List UInt8 × (List (UInt8 × List UInt8)) × Int)))) (List.length ([] : List (Int × Int × Int × List UInt8 × List (List UInt8 × List UInt8 × (List (UInt8 × List UInt8)) × Int)))) <|
    loopK (σ := List UInt8 × (List (Int × Int × Int × List UInt8 × List (List UInt8 × List UInt8 × (List (UInt8 × List UInt8)) × Int))) × Int) (fun p2 againp2 =>
      cond (!decide (p2.1 = ([] : List UInt8)))
        (cond (decide ((64 : Int) ≤ (List.length p2.2.1 : Int)))
          (bnd (IntKind.wrap .i64 (p2.2.2 + (1 : Int))) fun x3 =>
          some (([] : List (Int × Int × Int × List UInt8 × List (List UInt8 × List UInt8 × (List (UInt8 × List UInt8)) × Int))), x3, (13 : Int)))
          (bindO (F9 p2.1) fun y4 =>
          cond (!decide (y4.2.2.2 = (0 : Int)))
            (bnd (IntKind.wrap .i64 (p2.2.2 + y4.2.2.1)) fun x5 =>
            some (([] : List (Int × Int × Int × List UInt8 × List (List UInt8 × List UInt8 × (List (UInt8 × List UInt8)) × Int))), x5, y4.2.2.2))
            (gdN (List.length p2.2.1) (List.length p2.2.1) <|
            gd (List.length p2.2.1 + List.length [y4.1] ≤ big) <|
            bnd (p2.2.1 ++ [y4.1]) fun l6 =>
            bnd (IntKind.wrap .i64 (p2.2.2 + y4.2.2.1)) fun x7 =>
            gdN (List.length l6) (List.length l6) <|
            againp2 (y4.2.1, l6, x7))))
        (some (p2.2.1, (0 : Int), (0 : Int)))) (a0, ([] : List (Int × Int × Int × List UInt8 × List (List UInt8 × List UInt8 × (List (UInt8 × List UInt8)) × Int))), (0 : Int)))
def dc7 : DC :=
  (.jn ⟨[], [], [2, 3, 4].map .s ++ [2].map .f⟩ (.reg [⟨none, (.nl 2 25)⟩,
    ⟨none, (.mv (some 3) (.v (.int .i64 0)))⟩,
    ⟨none, (.mv (some 4) (.v (.int .i64 0)))⟩])
  (.seq (.seq (.reg [⟨none, (.mv (some 11) (.t 0))⟩,
    ⟨none, (.ln 12 none (.t 11))⟩,
    ⟨none, (.ar 13 .gtr (.t 12) (.v (.int .i64 65536)))⟩])
  (.cond (.t 13)
    (.seq (.reg [⟨none, (.nl 2 25)⟩,
    ⟨none, (.mv (some 3) (.v (.int .i64 0)))⟩,
    ⟨none, (.mv (some 4) (.v (.int .i64 4)))⟩])
  .ret)
    .skip))
  (.seq (.reg [⟨none, (.nl 5 25)⟩])
  (.seq (.reg [⟨none, (.mv (some 6) (.v (.int .i64 0)))⟩])
  (.seq (.block 0 (.loop ⟨[(0, (.lf .str)), (5, (.row 5 25 (.agg 25 (.pair (.int .i64) (.pair (.int .i64) (.pair (.int .i64) (.pair .str (.sl 40 (.agg 40 (.pair .str (.pair .str (.pair (.sl 37 (.agg 37 (.pair .byte .str))) (.int .i64))))))))))))), (6, (.lf (.int .i64)))], [], [2, 3, 4, 7, 8, 9, 10, 14, 15, 16, 17, 18, 19, 20, 21, 22, 23, 24, 25, 26, 27, 28, 29, 30, 31, 32, 33, 34, 35, 36, 37, 38, 39, 40, 41].map .s ++ [7].map .b ++ [2, 36].map .f⟩ (.seq (.seq (.reg [⟨none, (.mv (some 14) (.t 0))⟩,
    ⟨none, (.ar 15 .neq (.t 14) (.v (.str [])))⟩])
  (.cond (.t 15)
    .skip
    (.exit 0)))
  (.block 1 (.seq (.seq (.reg [⟨none, (.mv (some 16) (.t 5))⟩,
    ⟨none, (.ln 17 (some 25) (.t 16))⟩,
    ⟨none, (.ar 18 .geq (.t 17) (.v (.int .i64 64)))⟩])
  (.cond (.t 18)
    (.seq (.reg [⟨none, (.mv (some 19) (.t 6))⟩,
    ⟨none, (.ar 20 .add (.t 19) (.v (.int .i64 1)))⟩,
    ⟨none, (.nl 2 25)⟩,
    ⟨none, (.mv (some 3) (.t 20))⟩,
    ⟨none, (.mv (some 4) (.v (.int .i64 13)))⟩])
  .ret)
    .skip))
  (.seq (.reg [⟨none, (.mv (some 22) (.t 0))⟩,
    ⟨none, (.ca (some 23) 9 [(.t 22)])⟩,
    ⟨none, (.mv (some 21) (.t 23))⟩,
    ⟨none, (.ex 24 0 (.t 21))⟩,
    ⟨none, (.ex 25 1 (.t 21))⟩,
    ⟨none, (.ex 26 2 (.t 21))⟩,
    ⟨none, (.ex 27 3 (.t 21))⟩,
    ⟨none, (.al 7 (.agg 25 [(.int .i64 0), (.int .i64 0), (.int .i64 0), (.str []), (.sl none 40 [])]))⟩,
    ⟨none, (.st (some 25) (.t 7) (.t 24))⟩,
    ⟨none, (.mv (some 8) (.t 25))⟩,
    ⟨none, (.mv (some 9) (.t 26))⟩,
    ⟨none, (.mv (some 10) (.t 27))⟩])
  (.seq (.seq (.reg [⟨none, (.mv (some 28) (.t 10))⟩,
    ⟨none, (.ar 29 .neq (.t 28) (.v (.int .i64 0)))⟩])
  (.cond (.t 29)
    (.seq (.reg [⟨none, (.mv (some 30) (.t 6))⟩,
    ⟨none, (.mv (some 31) (.t 9))⟩,
    ⟨none, (.ar 32 .add (.t 30) (.t 31))⟩,
    ⟨none, (.mv (some 33) (.t 10))⟩,
    ⟨none, (.nl 2 25)⟩,
    ⟨none, (.mv (some 3) (.t 32))⟩,
    ⟨none, (.mv (some 4) (.t 33))⟩])
  .ret)
    .skip))
  (.reg [⟨none, (.mv (some 34) (.t 5))⟩,
    ⟨none, (.ld 35 (some 25) (.t 7))⟩,
    ⟨none, (.bs 36 25 (some 25) [(.t 35)])⟩,
    ⟨none, (.ap 37 25 (.t 34) (.t 36))⟩,
    ⟨none, (.mv (some 38) (.t 8))⟩,
    ⟨none, (.mv (some 39) (.t 6))⟩,
    ⟨none, (.mv (some 40) (.t 9))⟩,
    ⟨none, (.ar 41 .add (.t 39) (.t 40))⟩,
    ⟨none, (.mv (some 5) (.t 37))⟩,
    ⟨none, (.mv (some 0) (.t 38))⟩,
    ⟨none, (.mv (some 6) (.t 41))⟩]))))))))
  (.seq (.reg [⟨none, (.mv (some 42) (.t 5))⟩,
    ⟨none, (.mv (some 2) (.t 42))⟩,
    ⟨none, (.mv (some 3) (.v (.int .i64 0)))⟩,
    ⟨none, (.mv (some 4) (.v (.int .i64 0)))⟩])
  .ret))))))
noncomputable def ent7 : TEnt := ⟨7, [.str], (.tup (.pair (.sl 25 (.agg 25 (.pair (.int .i64) (.pair (.int .i64) (.pair (.int .i64) (.pair .str (.sl 40 (.agg 40 (.pair .str (.pair .str (.pair (.sl 37 (.agg 37 (.pair .byte .str))) (.int .i64)))))))))))) (.pair (.int .i64) (.int .i64)))), fun x => F7 x, .plain⟩
theorem eq7 (x : dens ent7.as) : ent7.F x = evF [ent9] SHF dc7 [(.tmp 2), (.tmp 3), (.tmp 4)] ent7.as ent7.rs x := by kernel_rfl
/-- library/lines.PrintAll -/
noncomputable def F8 (a0 : List (Int × Int × Int × List UInt8 × List (List UInt8 × List UInt8 × (List (UInt8 × List UInt8)) × Int))) : Option (List UInt8 × Int) :=
  cond (decide ((64 : Int) < (List.length a0 : Int)))
    (some (([] : List UInt8), (13 : Int)))
    (gdN (0) (List.length ([] : List UInt8)) <|
    loopK (σ := Int × List UInt8) (fun p1 againp1 =>
      cond (decide (p1.1 < (List.length a0 : Int)))
        (gd (0 ≤ p1.1 ∧ p1.1 < (List.length a0 : Int)) <|
        bindO (F6 (List.getD a0 (Int.toNat p1.1) (0, (0, (0, ([], [])))))) fun y2 =>
        cond (!decide (y2.2 = (0 : Int)))
          (some (([] : List UInt8), y2.2))
          (gdN (List.length p1.2) (List.length p1.2) <|
          gd (List.length p1.2 + List.length y2.1 ≤ big) <|
          bnd (p1.2 ++ y2.1) fun b3 =>
          bnd (IntKind.wrap .i64 (p1.1 + (1 : Int))) fun x4 =>
          gdN (List.length b3) (List.length b3) <|
          againp1 (x4, b3)))
        (gdN (List.length p1.2) (List.length p1.2) <|
        cond (decide ((65536 : Int) < (List.length p1.2 : Int)))
          (some (([] : List UInt8), (4 : Int)))
          (gdN (List.length p1.2) (List.length p1.2) <|
          some (p1.2, (0 : Int))))) ((0 : Int), ([] : List UInt8)))
def dc8 : DC :=
  (.seq (.reg [⟨none, (.mv (some 2) (.v (.str [])))⟩,
    ⟨none, (.mv (some 3) (.v (.int .i64 0)))⟩])
  (.seq (.seq (.reg [⟨none, (.mv (some 9) (.t 0))⟩,
    ⟨none, (.ln 10 (some 25) (.t 9))⟩,
    ⟨none, (.ar 11 .gtr (.t 10) (.v (.int .i64 64)))⟩])
  (.cond (.t 11)
    (.seq (.reg [⟨none, (.mv (some 2) (.v (.str [])))⟩,
    ⟨none, (.mv (some 3) (.v (.int .i64 13)))⟩])
  .ret)
    .skip))
  (.seq (.reg [⟨none, (.ab 4 47 5)⟩])
  (.seq (.seq (.reg [⟨none, (.mv (some 12) (.t 0))⟩,
    ⟨none, (.ln 13 (some 25) (.t 12))⟩,
    ⟨none, (.mv (some 14) (.v (.int .i64 0)))⟩])
  (.block 0 (.loop ⟨[(14, (.lf (.int .i64)))], [(4, (.bld 3000004 47 5))], [2, 3, 6, 7, 8, 15, 16, 17, 18, 19, 20, 21, 22, 23, 24, 25, 26, 27, 28].map .s ++ [6].map .b⟩ (.seq (.reg [⟨none, (.ar 15 .lss (.t 14) (.t 13))⟩])
  (.seq (.cond (.t 15)
    .skip
    (.exit 0))
  (.seq (.block 1 (.seq (.reg [⟨none, (.ea 16 25 (.t 12) (.t 14))⟩,
    ⟨none, (.ld 17 (some 25) (.t 16))⟩,
    ⟨none, (.al 6 (.agg 25 [(.int .i64 0), (.int .i64 0), (.int .i64 0), (.str []), (.sl none 40 [])]))⟩,
    ⟨none, (.st (some 25) (.t 6) (.t 17))⟩])
  (.seq (.reg [⟨none, (.ld 19 (some 25) (.t 6))⟩,
    ⟨none, (.ca (some 20) 6 [(.t 19)])⟩,
    ⟨none, (.mv (some 18) (.t 20))⟩,
    ⟨none, (.ex 21 0 (.t 18))⟩,
    ⟨none, (.ex 22 1 (.t 18))⟩,
    ⟨none, (.mv (some 7) (.t 21))⟩,
    ⟨none, (.mv (some 8) (.t 22))⟩])
  (.seq (.seq (.reg [⟨none, (.mv (some 23) (.t 8))⟩,
    ⟨none, (.ar 24 .neq (.t 23) (.v (.int .i64 0)))⟩])
  (.cond (.t 24)
    (.seq (.reg [⟨none, (.mv (some 25) (.t 8))⟩,
    ⟨none, (.mv (some 2) (.v (.str [])))⟩,
    ⟨none, (.mv (some 3) (.t 25))⟩])
  .ret)
    .skip))
  (.reg [⟨none, (.mv (some 26) (.t 7))⟩,
    ⟨none, (.cw (some 27) 11 .wstr [(.t 4), (.t 26)])⟩])))))
  (.reg [⟨none, (.ar 28 .add (.t 14) (.v (.int .i64 1)))⟩,
    ⟨none, (.mv (some 14) (.t 28))⟩])))))))
  (.seq (.seq (.reg [⟨none, (.cw (some 29) 15 .len [(.t 4)])⟩,
    ⟨none, (.ar 30 .gtr (.t 29) (.v (.int .i64 65536)))⟩])
  (.cond (.t 30)
    (.seq (.reg [⟨none, (.mv (some 2) (.v (.str [])))⟩,
    ⟨none, (.mv (some 3) (.v (.int .i64 4)))⟩])
  .ret)
    .skip))
  (.seq (.reg [⟨none, (.cw (some 31) 14 .str [(.t 4)])⟩,
    ⟨none, (.mv (some 2) (.t 31))⟩,
    ⟨none, (.mv (some 3) (.v (.int .i64 0)))⟩])
  .ret))))))
noncomputable def ent8 : TEnt := ⟨8, [(.sl 25 (.agg 25 (.pair (.int .i64) (.pair (.int .i64) (.pair (.int .i64) (.pair .str (.sl 40 (.agg 40 (.pair .str (.pair .str (.pair (.sl 37 (.agg 37 (.pair .byte .str))) (.int .i64))))))))))))], (.tup (.pair .str (.int .i64))), fun x => F8 x, .plain⟩
theorem eq8 (x : dens ent8.as) : ent8.F x = evF [ent6, entWriteString, entString, entLen] SHF dc8 [(.tmp 2), (.tmp 3)] ent8.as ent8.rs x := by kernel_rfl
/-- library/librarylaw11.alive -/
noncomputable def F4 : Option (Bool) :=
  gd ((0 : Int) ≤ (97 : Int) ∧ (97 : Int) < (256 : Int)) <|
  bindO (F6 ((1 : Int), (3 : Int), (1 : Int), ([101, 110, 103] : List UInt8), [(([50, 52, 53] : List UInt8), ([49, 48] : List UInt8), [((UInt8.ofNat (Int.toNat (97 : Int))), ([68, 111, 103, 115] : List UInt8))], (0 : Int))])) fun y1 =>
  cond (!decide (y1.1 = ([61, 49, 32, 51, 32, 98, 111, 111, 107, 32, 101, 110, 103, 10, 50, 52, 53, 32, 49, 48, 32, 36, 97, 68, 111, 103, 115, 10, 10] : List UInt8)))
    (some false)
    (cond (!decide (y1.2 = (0 : Int)))
      (some false)
      (bindO (F5 ([61, 49, 32, 51, 32, 98, 111, 111, 107, 32, 101, 110, 103, 10, 50, 52, 53, 32, 49, 48, 32, 36, 97, 68, 111, 103, 115, 10] : List UInt8)) fun y2 =>
      bindO (F5 ([61, 49, 32, 51, 32, 98, 111, 111, 107, 32, 101, 110, 103, 10, 50, 52, 53, 32, 49, 48, 32, 36, 97, 68, 111, 103, 115] : List UInt8)) fun y3 =>
      bindO (F5 ([61, 49, 32, 51, 32, 98, 111, 111, 107, 32, 101, 110, 103, 10, 10, 120] : List UInt8)) fun y4 =>
      bindO (F5 ([61, 48, 49, 32, 51, 32, 98, 111, 111, 107, 32, 101, 110, 103, 10, 10] : List UInt8)) fun y5 =>
      cond (!decide (y2.2.1 = (3 : Int)))
        (some false)
        (cond (!decide (y3.2.1 = (2 : Int)))
          (some false)
          (cond (!decide (y4.2.1 = (3 : Int)))
            (some false)
            (cond (!decide (y5.2.1 = (1 : Int)))
              (some false)
              (cond (!decide (y2.2.2 = (3 : Int)))
                (some false)
                (cond (!decide (y3.2.2 = (3 : Int)))
                  (some false)
                  (cond (!decide (y4.2.2 = (3 : Int)))
                    (some false)
                    (cond (!decide (y5.2.2 = (3 : Int)))
                      (some false)
                      (gd (List.length y1.1 + List.length y1.1 ≤ big) <|
                      bnd (y1.1 ++ y1.1) fun x6 =>
                      bindO (F7 x6) fun y7 =>
                      gd (List.length y1.1 + List.length ([61, 49] : List UInt8) ≤ big) <|
                      bnd (y1.1 ++ ([61, 49] : List UInt8)) fun x8 =>
                      bindO (F7 x8) fun y9 =>
                      cond (decide ((List.length y7.1 : Int) = (2 : Int)))
                        (cond (decide (y7.2.1 = (0 : Int)))
                          (cond (decide (y7.2.2 = (0 : Int)))
                            (cond (decide (y9.2.1 = (4 : Int)))
                              (some (decide (y9.2.2 = (3 : Int))))
                              (some false))
                            (some false))
                          (some false))
                        (some false)))))))))))
def dc4 : DC :=
  (.seq (.reg [⟨none, (.mv (some 0) (.v (.bool false)))⟩])
  (.seq (.reg [⟨none, (.bd 22 37 [(.int .u8 0), (.str [])] [0, 1] [(.v (.int .u8 97)), (.v (.str [68, 111, 103, 115]))])⟩,
    ⟨none, (.bs 23 37 (some 37) [(.t 22)])⟩,
    ⟨none, (.bd 24 40 [(.str []), (.str []), (.sl none 37 []), (.int .i64 0)] [0, 1, 2] [(.v (.str [50, 52, 53])), (.v (.str [49, 48])), (.t 23)])⟩,
    ⟨none, (.bs 25 40 (some 40) [(.t 24)])⟩,
    ⟨none, (.bd 26 25 [(.int .i64 0), (.int .i64 0), (.int .i64 0), (.str []), (.sl none 40 [])] [0, 1, 2, 3, 4] [(.v (.int .i64 1)), (.v (.int .i64 3)), (.v (.int .i64 1)), (.v (.str [101, 110, 103])), (.t 25)])⟩,
    ⟨none, (.al 1 (.agg 25 [(.int .i64 0), (.int .i64 0), (.int .i64 0), (.str []), (.sl none 40 [])]))⟩,
    ⟨none, (.st (some 25) (.t 1) (.t 26))⟩])
  (.seq (.reg [⟨none, (.ld 28 (some 25) (.t 1))⟩,
    ⟨none, (.ca (some 29) 6 [(.t 28)])⟩,
    ⟨none, (.mv (some 27) (.t 29))⟩,
    ⟨none, (.ex 30 0 (.t 27))⟩,
    ⟨none, (.ex 31 1 (.t 27))⟩,
    ⟨none, (.mv (some 2) (.t 30))⟩,
    ⟨none, (.mv (some 3) (.t 31))⟩])
  (.seq (.seq (.reg [⟨none, (.mv (some 32) (.t 2))⟩,
    ⟨none, (.ar 33 .neq (.t 32) (.v (.str [61, 49, 32, 51, 32, 98, 111, 111, 107, 32, 101, 110, 103, 10, 50, 52, 53, 32, 49, 48, 32, 36, 97, 68, 111, 103, 115, 10, 10])))⟩,
    ⟨none, (.mv (some 34) (.t 33))⟩,
    ⟨(some (34, false)), (.mv (some 35) (.t 3))⟩,
    ⟨(some (34, false)), (.ar 36 .neq (.t 35) (.v (.int .i64 0)))⟩,
    ⟨none, (.pick 37 (.t 34) (.v (.bool true)) (.t 36))⟩])
  (.cond (.t 37)
    (.seq (.reg [⟨none, (.mv (some 0) (.v (.bool false)))⟩])
  .ret)
    .skip))
  (.seq (.reg [⟨none, (.ca (some 39) 5 [(.v (.str [61, 49, 32, 51, 32, 98, 111, 111, 107, 32, 101, 110, 103, 10, 50, 52, 53, 32, 49, 48, 32, 36, 97, 68, 111, 103, 115, 10]))])⟩,
    ⟨none, (.mv (some 38) (.t 39))⟩,
    ⟨none, (.ex 40 0 (.t 38))⟩,
    ⟨none, (.ex 41 1 (.t 38))⟩,
    ⟨none, (.ex 42 2 (.t 38))⟩,
    ⟨none, (.al 4 (.agg 25 [(.int .i64 0), (.int .i64 0), (.int .i64 0), (.str []), (.sl none 40 [])]))⟩,
    ⟨none, (.st (some 25) (.t 4) (.t 40))⟩,
    ⟨none, (.mv (some 5) (.t 41))⟩,
    ⟨none, (.mv (some 6) (.t 42))⟩])
  (.seq (.reg [⟨none, (.ca (some 44) 5 [(.v (.str [61, 49, 32, 51, 32, 98, 111, 111, 107, 32, 101, 110, 103, 10, 50, 52, 53, 32, 49, 48, 32, 36, 97, 68, 111, 103, 115]))])⟩,
    ⟨none, (.mv (some 43) (.t 44))⟩,
    ⟨none, (.ex 45 0 (.t 43))⟩,
    ⟨none, (.ex 46 1 (.t 43))⟩,
    ⟨none, (.ex 47 2 (.t 43))⟩,
    ⟨none, (.al 7 (.agg 25 [(.int .i64 0), (.int .i64 0), (.int .i64 0), (.str []), (.sl none 40 [])]))⟩,
    ⟨none, (.st (some 25) (.t 7) (.t 45))⟩,
    ⟨none, (.mv (some 8) (.t 46))⟩,
    ⟨none, (.mv (some 9) (.t 47))⟩])
  (.seq (.reg [⟨none, (.ca (some 49) 5 [(.v (.str [61, 49, 32, 51, 32, 98, 111, 111, 107, 32, 101, 110, 103, 10, 10, 120]))])⟩,
    ⟨none, (.mv (some 48) (.t 49))⟩,
    ⟨none, (.ex 50 0 (.t 48))⟩,
    ⟨none, (.ex 51 1 (.t 48))⟩,
    ⟨none, (.ex 52 2 (.t 48))⟩,
    ⟨none, (.al 10 (.agg 25 [(.int .i64 0), (.int .i64 0), (.int .i64 0), (.str []), (.sl none 40 [])]))⟩,
    ⟨none, (.st (some 25) (.t 10) (.t 50))⟩,
    ⟨none, (.mv (some 11) (.t 51))⟩,
    ⟨none, (.mv (some 12) (.t 52))⟩])
  (.seq (.reg [⟨none, (.ca (some 54) 5 [(.v (.str [61, 48, 49, 32, 51, 32, 98, 111, 111, 107, 32, 101, 110, 103, 10, 10]))])⟩,
    ⟨none, (.mv (some 53) (.t 54))⟩,
    ⟨none, (.ex 55 0 (.t 53))⟩,
    ⟨none, (.ex 56 1 (.t 53))⟩,
    ⟨none, (.ex 57 2 (.t 53))⟩,
    ⟨none, (.al 13 (.agg 25 [(.int .i64 0), (.int .i64 0), (.int .i64 0), (.str []), (.sl none 40 [])]))⟩,
    ⟨none, (.st (some 25) (.t 13) (.t 55))⟩,
    ⟨none, (.mv (some 14) (.t 56))⟩,
    ⟨none, (.mv (some 15) (.t 57))⟩])
  (.seq (.seq (.reg [⟨none, (.mv (some 58) (.t 5))⟩,
    ⟨none, (.ar 59 .neq (.t 58) (.v (.int .i64 3)))⟩,
    ⟨none, (.mv (some 60) (.t 59))⟩,
    ⟨(some (60, false)), (.mv (some 61) (.t 8))⟩,
    ⟨(some (60, false)), (.ar 62 .neq (.t 61) (.v (.int .i64 2)))⟩,
    ⟨none, (.pick 63 (.t 60) (.v (.bool true)) (.t 62))⟩,
    ⟨none, (.mv (some 64) (.t 63))⟩,
    ⟨(some (64, false)), (.mv (some 65) (.t 11))⟩,
    ⟨(some (64, false)), (.ar 66 .neq (.t 65) (.v (.int .i64 3)))⟩,
    ⟨none, (.pick 67 (.t 64) (.v (.bool true)) (.t 66))⟩,
    ⟨none, (.mv (some 68) (.t 67))⟩,
    ⟨(some (68, false)), (.mv (some 69) (.t 14))⟩,
    ⟨(some (68, false)), (.ar 70 .neq (.t 69) (.v (.int .i64 1)))⟩,
    ⟨none, (.pick 71 (.t 68) (.v (.bool true)) (.t 70))⟩,
    ⟨none, (.mv (some 72) (.t 71))⟩,
    ⟨(some (72, false)), (.mv (some 73) (.t 6))⟩,
    ⟨(some (72, false)), (.ar 74 .neq (.t 73) (.v (.int .i64 3)))⟩,
    ⟨none, (.pick 75 (.t 72) (.v (.bool true)) (.t 74))⟩,
    ⟨none, (.mv (some 76) (.t 75))⟩,
    ⟨(some (76, false)), (.mv (some 77) (.t 9))⟩,
    ⟨(some (76, false)), (.ar 78 .neq (.t 77) (.v (.int .i64 3)))⟩,
    ⟨none, (.pick 79 (.t 76) (.v (.bool true)) (.t 78))⟩,
    ⟨none, (.mv (some 80) (.t 79))⟩,
    ⟨(some (80, false)), (.mv (some 81) (.t 12))⟩,
    ⟨(some (80, false)), (.ar 82 .neq (.t 81) (.v (.int .i64 3)))⟩,
    ⟨none, (.pick 83 (.t 80) (.v (.bool true)) (.t 82))⟩,
    ⟨none, (.mv (some 84) (.t 83))⟩,
    ⟨(some (84, false)), (.mv (some 85) (.t 15))⟩,
    ⟨(some (84, false)), (.ar 86 .neq (.t 85) (.v (.int .i64 3)))⟩,
    ⟨none, (.pick 87 (.t 84) (.v (.bool true)) (.t 86))⟩])
  (.cond (.t 87)
    (.seq (.reg [⟨none, (.mv (some 0) (.v (.bool false)))⟩])
  .ret)
    .skip))
  (.seq (.reg [⟨none, (.mv (some 89) (.t 2))⟩,
    ⟨none, (.mv (some 90) (.t 2))⟩,
    ⟨none, (.ar 91 .add (.t 89) (.t 90))⟩,
    ⟨none, (.ca (some 92) 7 [(.t 91)])⟩,
    ⟨none, (.mv (some 88) (.t 92))⟩,
    ⟨none, (.ex 93 0 (.t 88))⟩,
    ⟨none, (.ex 94 1 (.t 88))⟩,
    ⟨none, (.ex 95 2 (.t 88))⟩,
    ⟨none, (.mv (some 16) (.t 93))⟩,
    ⟨none, (.mv (some 17) (.t 94))⟩,
    ⟨none, (.mv (some 18) (.t 95))⟩])
  (.seq (.reg [⟨none, (.mv (some 97) (.t 2))⟩,
    ⟨none, (.ar 98 .add (.t 97) (.v (.str [61, 49])))⟩,
    ⟨none, (.ca (some 99) 7 [(.t 98)])⟩,
    ⟨none, (.mv (some 96) (.t 99))⟩,
    ⟨none, (.ex 100 0 (.t 96))⟩,
    ⟨none, (.ex 101 1 (.t 96))⟩,
    ⟨none, (.ex 102 2 (.t 96))⟩,
    ⟨none, (.mv (some 19) (.t 100))⟩,
    ⟨none, (.mv (some 20) (.t 101))⟩,
    ⟨none, (.mv (some 21) (.t 102))⟩])
  (.seq (.reg [⟨none, (.mv (some 103) (.t 16))⟩,
    ⟨none, (.ln 104 (some 25) (.t 103))⟩,
    ⟨none, (.ar 105 .eql (.t 104) (.v (.int .i64 2)))⟩,
    ⟨none, (.mv (some 106) (.t 105))⟩,
    ⟨(some (106, true)), (.mv (some 107) (.t 17))⟩,
    ⟨(some (106, true)), (.ar 108 .eql (.t 107) (.v (.int .i64 0)))⟩,
    ⟨none, (.pick 109 (.t 106) (.t 108) (.v (.bool false)))⟩,
    ⟨none, (.mv (some 110) (.t 109))⟩,
    ⟨(some (110, true)), (.mv (some 111) (.t 18))⟩,
    ⟨(some (110, true)), (.ar 112 .eql (.t 111) (.v (.int .i64 0)))⟩,
    ⟨none, (.pick 113 (.t 110) (.t 112) (.v (.bool false)))⟩,
    ⟨none, (.mv (some 114) (.t 113))⟩,
    ⟨(some (114, true)), (.mv (some 115) (.t 20))⟩,
    ⟨(some (114, true)), (.ar 116 .eql (.t 115) (.v (.int .i64 4)))⟩,
    ⟨none, (.pick 117 (.t 114) (.t 116) (.v (.bool false)))⟩,
    ⟨none, (.mv (some 118) (.t 117))⟩,
    ⟨(some (118, true)), (.mv (some 119) (.t 21))⟩,
    ⟨(some (118, true)), (.ar 120 .eql (.t 119) (.v (.int .i64 3)))⟩,
    ⟨none, (.pick 121 (.t 118) (.t 120) (.v (.bool false)))⟩,
    ⟨none, (.mv (some 0) (.t 121))⟩])
  .ret))))))))))))
noncomputable def ent4 : TEnt := ⟨4, [], .bool, fun _ => F4, .plain⟩
theorem eq4 (x : dens ent4.as) : ent4.F x = evF [ent5, ent6, ent7] SHF dc4 [(.tmp 0)] ent4.as ent4.rs x := by kernel_rfl
/-- library/librarylaw11.LinesUnique -/
noncomputable def F3 (a0 : List UInt8) : Option (Bool) :=
  cond (decide ((70000 : Int) < (List.length a0 : Int)))
    (bindO (F4) fun y1 =>
    some y1)
    (bindO (F5 a0) fun y2 =>
    jn (σ := Unit) (fun nextj3 =>
      cond (decide (y2.2.2 = (0 : Int)))
        (bindO (F6 y2.1) fun y4 =>
        cond (!decide (y2.2.1 = (0 : Int)))
          (some false)
          (cond (!decide (y4.1 = a0))
            (some false)
            (cond (!decide (y4.2 = (0 : Int)))
              (some false)
              (nextj3 ()))))
        (cond (decide (y2.2.1 < (1 : Int)))
          (some false)
          (cond (!decide ((List.length y2.1.2.2.2.2 : Int) = (0 : Int)))
            (some false)
            (nextj3 ())))) fun j3 =>
    bindO (F7 a0) fun y5 =>
    cond (decide (y5.2.2 = (0 : Int)))
      (bindO (F8 y5.1) fun y6 =>
      cond (decide (y5.2.1 = (0 : Int)))
        (cond (decide (y6.1 = a0))
          (cond (decide (y6.2 = (0 : Int)))
            (bindO (F4) fun y7 =>
            some y7)
            (some false))
          (some false))
        (some false))
      (cond (decide ((List.length y5.1 : Int) = (0 : Int)))
        (bindO (F4) fun y8 =>
        some y8)
        (some false)))
def dc3 : DC :=
  (.seq (.reg [⟨none, (.mv (some 2) (.v (.bool false)))⟩])
  (.seq (.seq (.reg [⟨none, (.mv (some 12) (.t 0))⟩,
    ⟨none, (.ln 13 none (.t 12))⟩,
    ⟨none, (.ar 14 .gtr (.t 13) (.v (.int .i64 70000)))⟩])
  (.cond (.t 14)
    (.seq (.reg [⟨none, (.ca (some 15) 4 [])⟩,
    ⟨none, (.mv (some 2) (.t 15))⟩])
  .ret)
    .skip))
  (.seq (.reg [⟨none, (.mv (some 17) (.t 0))⟩,
    ⟨none, (.ca (some 18) 5 [(.t 17)])⟩,
    ⟨none, (.mv (some 16) (.t 18))⟩,
    ⟨none, (.ex 19 0 (.t 16))⟩,
    ⟨none, (.ex 20 1 (.t 16))⟩,
    ⟨none, (.ex 21 2 (.t 16))⟩,
    ⟨none, (.al 3 (.agg 25 [(.int .i64 0), (.int .i64 0), (.int .i64 0), (.str []), (.sl none 40 [])]))⟩,
    ⟨none, (.st (some 25) (.t 3) (.t 19))⟩,
    ⟨none, (.mv (some 4) (.t 20))⟩,
    ⟨none, (.mv (some 5) (.t 21))⟩])
  (.jn ⟨[], [], [6, 7, 22, 23, 24, 25, 26, 27, 28, 29, 30, 31, 32, 33, 34, 35, 36, 37, 38, 39, 40, 41, 42, 43, 44, 45, 46, 47].map .s⟩ (.seq (.reg [⟨none, (.mv (some 22) (.t 5))⟩,
    ⟨none, (.ar 23 .eql (.t 22) (.v (.int .i64 0)))⟩])
  (.cond (.t 23)
    (.seq (.reg [⟨none, (.ld 25 (some 25) (.t 3))⟩,
    ⟨none, (.ca (some 26) 6 [(.t 25)])⟩,
    ⟨none, (.mv (some 24) (.t 26))⟩,
    ⟨none, (.ex 27 0 (.t 24))⟩,
    ⟨none, (.ex 28 1 (.t 24))⟩,
    ⟨none, (.mv (some 6) (.t 27))⟩,
    ⟨none, (.mv (some 7) (.t 28))⟩])
  (.seq (.reg [⟨none, (.mv (some 29) (.t 4))⟩,
    ⟨none, (.ar 30 .neq (.t 29) (.v (.int .i64 0)))⟩,
    ⟨none, (.mv (some 31) (.t 30))⟩,
    ⟨(some (31, false)), (.mv (some 32) (.t 6))⟩,
    ⟨(some (31, false)), (.mv (some 33) (.t 0))⟩,
    ⟨(some (31, false)), (.ar 34 .neq (.t 32) (.t 33))⟩,
    ⟨none, (.pick 35 (.t 31) (.v (.bool true)) (.t 34))⟩,
    ⟨none, (.mv (some 36) (.t 35))⟩,
    ⟨(some (36, false)), (.mv (some 37) (.t 7))⟩,
    ⟨(some (36, false)), (.ar 38 .neq (.t 37) (.v (.int .i64 0)))⟩,
    ⟨none, (.pick 39 (.t 36) (.v (.bool true)) (.t 38))⟩])
  (.cond (.t 39)
    (.seq (.reg [⟨none, (.mv (some 2) (.v (.bool false)))⟩])
  .ret)
    .skip)))
    (.seq (.reg [⟨none, (.mv (some 40) (.t 4))⟩,
    ⟨none, (.ar 41 .lss (.t 40) (.v (.int .i64 1)))⟩,
    ⟨none, (.mv (some 42) (.t 41))⟩,
    ⟨(some (42, false)), (.fa 43 25 4 (.t 3))⟩,
    ⟨(some (42, false)), (.ld 44 none (.t 43))⟩,
    ⟨(some (42, false)), (.ln 45 (some 40) (.t 44))⟩,
    ⟨(some (42, false)), (.ar 46 .neq (.t 45) (.v (.int .i64 0)))⟩,
    ⟨none, (.pick 47 (.t 42) (.v (.bool true)) (.t 46))⟩])
  (.cond (.t 47)
    (.seq (.reg [⟨none, (.mv (some 2) (.v (.bool false)))⟩])
  .ret)
    .skip))))
  (.seq (.reg [⟨none, (.mv (some 49) (.t 0))⟩,
    ⟨none, (.ca (some 50) 7 [(.t 49)])⟩,
    ⟨none, (.mv (some 48) (.t 50))⟩,
    ⟨none, (.ex 51 0 (.t 48))⟩,
    ⟨none, (.ex 52 1 (.t 48))⟩,
    ⟨none, (.ex 53 2 (.t 48))⟩,
    ⟨none, (.mv (some 8) (.t 51))⟩,
    ⟨none, (.mv (some 9) (.t 52))⟩,
    ⟨none, (.mv (some 5) (.t 53))⟩])
  (.seq (.seq (.reg [⟨none, (.mv (some 54) (.t 5))⟩,
    ⟨none, (.ar 55 .eql (.t 54) (.v (.int .i64 0)))⟩])
  (.cond (.t 55)
    (.seq (.reg [⟨none, (.mv (some 57) (.t 8))⟩,
    ⟨none, (.ca (some 58) 8 [(.t 57)])⟩,
    ⟨none, (.mv (some 56) (.t 58))⟩,
    ⟨none, (.ex 59 0 (.t 56))⟩,
    ⟨none, (.ex 60 1 (.t 56))⟩,
    ⟨none, (.mv (some 10) (.t 59))⟩,
    ⟨none, (.mv (some 11) (.t 60))⟩])
  (.seq (.reg [⟨none, (.mv (some 61) (.t 9))⟩,
    ⟨none, (.ar 62 .eql (.t 61) (.v (.int .i64 0)))⟩,
    ⟨none, (.mv (some 63) (.t 62))⟩,
    ⟨(some (63, true)), (.mv (some 64) (.t 10))⟩,
    ⟨(some (63, true)), (.mv (some 65) (.t 0))⟩,
    ⟨(some (63, true)), (.ar 66 .eql (.t 64) (.t 65))⟩,
    ⟨none, (.pick 67 (.t 63) (.t 66) (.v (.bool false)))⟩,
    ⟨none, (.mv (some 68) (.t 67))⟩,
    ⟨(some (68, true)), (.mv (some 69) (.t 11))⟩,
    ⟨(some (68, true)), (.ar 70 .eql (.t 69) (.v (.int .i64 0)))⟩,
    ⟨none, (.pick 71 (.t 68) (.t 70) (.v (.bool false)))⟩,
    ⟨none, (.mv (some 72) (.t 71))⟩,
    ⟨(some (72, true)), (.ca (some 73) 4 [])⟩,
    ⟨none, (.pick 74 (.t 72) (.t 73) (.v (.bool false)))⟩,
    ⟨none, (.mv (some 2) (.t 74))⟩])
  .ret))
    .skip))
  (.seq (.reg [⟨none, (.mv (some 75) (.t 8))⟩,
    ⟨none, (.ln 76 (some 25) (.t 75))⟩,
    ⟨none, (.ar 77 .eql (.t 76) (.v (.int .i64 0)))⟩,
    ⟨none, (.mv (some 78) (.t 77))⟩,
    ⟨(some (78, true)), (.ca (some 79) 4 [])⟩,
    ⟨none, (.pick 80 (.t 78) (.t 79) (.v (.bool false)))⟩,
    ⟨none, (.mv (some 2) (.t 80))⟩])
  .ret)))))))
noncomputable def ent3 : TEnt := ⟨3, [.str], .bool, fun x => F3 x, .plain⟩
theorem eq3 (x : dens ent3.as) : ent3.F x = evF [ent4, ent5, ent6, ent7, ent8] SHF dc3 [(.tmp 2)] ent3.as ent3.rs x := by kernel_rfl
theorem mixedF : Tryd.prog.follows .mixedOrders = true := by kernel_rfl
section
variable {G : World → Prop} (hG : Keeps G)
include hG in
theorem ok39 (h19 : TEnt.Ok Tryd.prog G entTrim) : TEnt.Ok Tryd.prog G ent39 :=
  ent_ok hG mixedF (fn := Tryd.f39) (d := dc39) (crs := [(.tmp 2)]) (hint := []) (TT := [entTrim]) (SH := SHF) rfl rfl (by kernel_rfl) (by decide) rfl ⟨h19, trivial⟩ eq39
include hG in
theorem ok53 : TEnt.Ok Tryd.prog G ent53 :=
  ent_ok hG mixedF (fn := Tryd.f53) (d := dc53) (crs := [(.tmp 2)]) (hint := []) (TT := []) (SH := SHF) rfl rfl (by kernel_rfl) (by decide) rfl trivial eq53
include hG in
theorem ok54 (h72 : TEnt.Ok Tryd.prog G entVal) : TEnt.Ok Tryd.prog G ent54 :=
  ent_ok hG mixedF (fn := Tryd.f54) (d := dc54) (crs := [(.tmp 2)]) (hint := []) (TT := [entVal]) (SH := SHF) rfl rfl (by kernel_rfl) (by decide) rfl ⟨h72, trivial⟩ eq54
include hG in
theorem ok40 (h53 : TEnt.Ok Tryd.prog G ent53) (h54 : TEnt.Ok Tryd.prog G ent54) : TEnt.Ok Tryd.prog G ent40 :=
  ent_ok hG mixedF (fn := Tryd.f40) (d := dc40) (crs := [(.tmp 2)]) (hint := []) (TT := [ent53, ent54]) (SH := SHF) rfl rfl (by kernel_rfl) (by decide) rfl ⟨h53, h54, trivial⟩ eq40
include hG in
theorem ok20 (h24 : TEnt.Ok Tryd.prog G entRepl) (h39 : TEnt.Ok Tryd.prog G ent39) (h40 : TEnt.Ok Tryd.prog G ent40) : TEnt.Ok Tryd.prog G ent20 :=
  ent_ok hG mixedF (fn := Tryd.f20) (d := dc20) (crs := [(.tmp 2)]) (hint := []) (TT := [entRepl, ent39, ent40]) (SH := SHF) rfl rfl (by kernel_rfl) (by decide) rfl ⟨h24, h39, h40, trivial⟩ eq20
include hG in
theorem ok10 (h19 : TEnt.Ok Tryd.prog G entTrim) (h20 : TEnt.Ok Tryd.prog G ent20) : TEnt.Ok Tryd.prog G ent10 :=
  ent_ok hG mixedF (fn := Tryd.f10) (d := dc10) (crs := [(.tmp 2)]) (hint := []) (TT := [entTrim, ent20]) (SH := SHF) rfl rfl (by kernel_rfl) (by decide) rfl ⟨h19, h20, trivial⟩ eq10
include hG in
theorem ok23 : TEnt.Ok Tryd.prog G ent23 :=
  ent_ok hG mixedF (fn := Tryd.f23) (d := dc23) (crs := [(.tmp 0)]) (hint := []) (TT := []) (SH := SHF) rfl rfl (by kernel_rfl) (by decide) rfl trivial eq23
include hG in
theorem ok12 (h22 : TEnt.Ok Tryd.prog G entItoa) (h23 : TEnt.Ok Tryd.prog G ent23) : TEnt.Ok Tryd.prog G ent12 :=
  ent_ok hG mixedF (fn := Tryd.f12) (d := dc12) (crs := [(.tmp 2)]) (hint := []) (TT := [entItoa, ent23]) (SH := SHF) rfl rfl (by kernel_rfl) (by decide) rfl ⟨h22, h23, trivial⟩ eq12
include hG in
theorem ok13 (h11 : TEnt.Ok Tryd.prog G entWriteString) (h14 : TEnt.Ok Tryd.prog G entString) (h20 : TEnt.Ok Tryd.prog G ent20) (h22 : TEnt.Ok Tryd.prog G entItoa) (h24 : TEnt.Ok Tryd.prog G entRepl) (h25 : TEnt.Ok Tryd.prog G entWriteByte) : TEnt.Ok Tryd.prog G ent13 :=
  ent_ok hG mixedF (fn := Tryd.f13) (d := dc13) (crs := [(.tmp 2), (.tmp 3)]) (hint := []) (TT := [entWriteString, entString, ent20, entItoa, entRepl, entWriteByte]) (SH := SHF) rfl rfl (by kernel_rfl) (by decide) rfl ⟨h11, h14, h20, h22, h24, h25, trivial⟩ eq13
include hG in
theorem ok6 (h10 : TEnt.Ok Tryd.prog G ent10) (h11 : TEnt.Ok Tryd.prog G entWriteString) (h12 : TEnt.Ok Tryd.prog G ent12) (h13 : TEnt.Ok Tryd.prog G ent13) (h14 : TEnt.Ok Tryd.prog G entString) : TEnt.Ok Tryd.prog G ent6 :=
  ent_ok hG mixedF (fn := Tryd.f6) (d := dc6) (crs := [(.tmp 2), (.tmp 3)]) (hint := []) (TT := [ent10, entWriteString, ent12, ent13, entString]) (SH := SHF) rfl rfl (by kernel_rfl) (by decide) rfl ⟨h10, h11, h12, h13, h14, trivial⟩ eq6
include hG in
theorem ok31 (h14 : TEnt.Ok Tryd.prog G entString) (h25 : TEnt.Ok Tryd.prog G entWriteByte) (h28 : TEnt.Ok Tryd.prog G entHas) : TEnt.Ok Tryd.prog G ent31 :=
  ent_ok hG mixedF (fn := Tryd.f31) (d := dc31) (crs := [(.tmp 2)]) (hint := []) (TT := [entString, entWriteByte, entHas]) (SH := SHF) rfl rfl (by kernel_rfl) (by decide) rfl ⟨h14, h25, h28, trivial⟩ eq31
include hG in
theorem ok18 (h13 : TEnt.Ok Tryd.prog G ent13) (h16 : TEnt.Ok Tryd.prog G entCut) (h24 : TEnt.Ok Tryd.prog G entRepl) (h29 : TEnt.Ok Tryd.prog G entAtoi) (h30 : TEnt.Ok Tryd.prog G entSplitN) (h31 : TEnt.Ok Tryd.prog G ent31) : TEnt.Ok Tryd.prog G ent18 :=
  ent_ok hG mixedF (fn := Tryd.f18) (d := dc18) (crs := [(.cell 2 (some 40)), (.tmp 3)]) (hint := []) (TT := [ent13, entCut, entRepl, entAtoi, entSplitN, ent31]) (SH := SHF) rfl rfl (by kernel_rfl) (by decide) rfl ⟨h13, h16, h24, h29, h30, h31, trivial⟩ eq18
include hG in
theorem ok17 (h10 : TEnt.Ok Tryd.prog G ent10) (h12 : TEnt.Ok Tryd.prog G ent12) (h23 : TEnt.Ok Tryd.prog G ent23) (h27 : TEnt.Ok Tryd.prog G entSplit) (h28 : TEnt.Ok Tryd.prog G entHas) (h29 : TEnt.Ok Tryd.prog G entAtoi) : TEnt.Ok Tryd.prog G ent17 :=
  ent_okP hG mixedF (fn := Tryd.f17) (d := dc17) (crs := [(.cell 2 (some 25)), (.tmp 3)]) (hint := [(30000000, 25)]) (TT := [ent10, ent12, ent23, entSplit, entHas, entAtoi]) (SH := SHF) rfl rfl (by kernel_rfl) (by decide) rfl ⟨h10, h12, h23, h27, h28, h29, trivial⟩ eq17
include hG in
theorem ok9 (h16 : TEnt.Ok Tryd.prog G entCut) (h17 : TEnt.Ok Tryd.prog G ent17) (h18 : TEnt.Ok Tryd.prog G ent18) : TEnt.Ok Tryd.prog G ent9 :=
  ent_ok hG mixedF (fn := Tryd.f9) (d := dc9) (crs := [(.cell 2 (some 25)), (.tmp 3), (.tmp 4), (.tmp 5)]) (hint := [(10000000, 6001004)]) (TT := [entCut, ent17, ent18]) (SH := SHF) rfl rfl (by kernel_rfl) (by decide) rfl ⟨h16, h17, h18, trivial⟩ eq9
include hG in
theorem ok5 (h9 : TEnt.Ok Tryd.prog G ent9) : TEnt.Ok Tryd.prog G ent5 :=
  ent_ok hG mixedF (fn := Tryd.f5) (d := dc5) (crs := [(.cell 2 (some 25)), (.tmp 3), (.tmp 4)]) (hint := []) (TT := [ent9]) (SH := SHF) rfl rfl (by kernel_rfl) (by decide) rfl ⟨h9, trivial⟩ eq5
include hG in
theorem ok7 (h9 : TEnt.Ok Tryd.prog G ent9) : TEnt.Ok Tryd.prog G ent7 :=
  ent_ok hG mixedF (fn := Tryd.f7) (d := dc7) (crs := [(.tmp 2), (.tmp 3), (.tmp 4)]) (hint := []) (TT := [ent9]) (SH := SHF) rfl rfl (by kernel_rfl) (by decide) rfl ⟨h9, trivial⟩ eq7
include hG in
theorem ok8 (h6 : TEnt.Ok Tryd.prog G ent6) (h11 : TEnt.Ok Tryd.prog G entWriteString) (h14 : TEnt.Ok Tryd.prog G entString) (h15 : TEnt.Ok Tryd.prog G entLen) : TEnt.Ok Tryd.prog G ent8 :=
  ent_ok hG mixedF (fn := Tryd.f8) (d := dc8) (crs := [(.tmp 2), (.tmp 3)]) (hint := []) (TT := [ent6, entWriteString, entString, entLen]) (SH := SHF) rfl rfl (by kernel_rfl) (by decide) rfl ⟨h6, h11, h14, h15, trivial⟩ eq8
include hG in
theorem ok4 (h5 : TEnt.Ok Tryd.prog G ent5) (h6 : TEnt.Ok Tryd.prog G ent6) (h7 : TEnt.Ok Tryd.prog G ent7) : TEnt.Ok Tryd.prog G ent4 :=
  ent_ok hG mixedF (fn := Tryd.f4) (d := dc4) (crs := [(.tmp 0)]) (hint := []) (TT := [ent5, ent6, ent7]) (SH := SHF) rfl rfl (by kernel_rfl) (by decide) rfl ⟨h5, h6, h7, trivial⟩ eq4
include hG in
theorem ok3 (h4 : TEnt.Ok Tryd.prog G ent4) (h5 : TEnt.Ok Tryd.prog G ent5) (h6 : TEnt.Ok Tryd.prog G ent6) (h7 : TEnt.Ok Tryd.prog G ent7) (h8 : TEnt.Ok Tryd.prog G ent8) : TEnt.Ok Tryd.prog G ent3 :=
  ent_ok hG mixedF (fn := Tryd.f3) (d := dc3) (crs := [(.tmp 2)]) (hint := []) (TT := [ent4, ent5, ent6, ent7, ent8]) (SH := SHF) rfl rfl (by kernel_rfl) (by decide) rfl ⟨h4, h5, h6, h7, h8, trivial⟩ eq3
end
end Go.Proofs.YtbkaenpcmbplpaaDoor
