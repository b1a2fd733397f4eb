/-
  THE FUNCTIONS AS PLAIN ONES (printed by a program of ours), and that they are what the code's runs give.
-/
import Derived.Test.YtbkaenpcmbplpaaGreatDoorE
namespace Go.Proofs.YtbkaenpcmbplpaaGreatDoor
open Go Go.Nu
set_option maxRecDepth 100000
set_option linter.unusedVariables false
def SHF : List (TypeId × Sh) := [(5, .byte), (9, .str), (24, (.agg 24 (.pair (.int .i64) (.pair (.int .i64) (.pair (.int .i64) (.pair .str (.sl 44 (.agg 44 (.pair .str (.pair .str (.pair (.sl 46 (.agg 46 (.pair .byte .str))) (.int .i64)))))))))))), (44, (.agg 44 (.pair .str (.pair .str (.pair (.sl 46 (.agg 46 (.pair .byte .str))) (.int .i64)))))), (46, (.agg 46 (.pair .byte .str))), (88, (.arr 88 .bool)), (89, (.arr 89 .bool)), (118, (.arr 118 .byte)), (135, (.arr 135 .byte)), (138, (.arr 138 (.agg 137 (.pair .byte .byte)))), (142, (.arr 142 (.int .u64))), (144, (.arr 144 .byte)), (161, (.arr 161 .byte)), (162, (.arr 162 .byte))]
/-- library/field.digits -/
noncomputable def F61 (a0 : List UInt8) : Option (Bool) :=
  bindO (fTrim a0 ([48, 49, 50, 51, 52, 53, 54, 55, 56, 57] : List UInt8)) fun y1 =>
  some (decide (y1 = ([] : List UInt8)))
def dc61 : DC :=
  (.seq (.reg [⟨none, (.mv (some 2) (.v (.bool false)))⟩])
  (.seq (.reg [⟨none, (.mv (some 3) (.t 0))⟩,
    ⟨none, (.ca (some 4) 35 [(.t 3), (.v (.str [48, 49, 50, 51, 52, 53, 54, 55, 56, 57]))])⟩,
    ⟨none, (.ar 5 .eql (.t 4) (.v (.str [])))⟩,
    ⟨none, (.mv (some 2) (.t 5))⟩])
  .ret))
noncomputable def ent61 : TEnt := ⟨61, [.str], .bool, fun x => F61 x, .plain⟩
theorem eq61 (x : dens ent61.as) : ent61.F x = evF [entTrim] SHF dc61 [(.tmp 2)] ent61.as ent61.rs x := by kernel_rfl
/-- library/field.coded -/
noncomputable def F82 (a0 : UInt8) : Option (Bool) :=
  cond (decide ((97 : Int) ≤ (UInt8.toNat a0 : Int)))
    (cond (decide ((UInt8.toNat a0 : Int) ≤ (122 : Int)))
      (some true)
      (cond (decide ((48 : Int) ≤ (UInt8.toNat a0 : Int)))
        (some (decide ((UInt8.toNat a0 : Int) ≤ (57 : Int))))
        (some false)))
    (cond (decide ((48 : Int) ≤ (UInt8.toNat a0 : Int)))
      (some (decide ((UInt8.toNat a0 : Int) ≤ (57 : Int))))
      (some false))
def dc82 : DC :=
  (.seq (.reg [⟨none, (.mv (some 2) (.v (.bool false)))⟩])
  (.seq (.reg [⟨none, (.mv (some 3) (.t 0))⟩,
    ⟨none, (.ar 4 .geq (.t 3) (.v (.int .u8 97)))⟩,
    ⟨none, (.mv (some 5) (.t 4))⟩,
    ⟨(some (5, true)), (.mv (some 6) (.t 0))⟩,
    ⟨(some (5, true)), (.ar 7 .leq (.t 6) (.v (.int .u8 122)))⟩,
    ⟨none, (.pick 8 (.t 5) (.t 7) (.v (.bool false)))⟩,
    ⟨none, (.mv (some 9) (.t 8))⟩,
    ⟨(some (9, false)), (.mv (some 10) (.t 0))⟩,
    ⟨(some (9, false)), (.ar 11 .geq (.t 10) (.v (.int .u8 48)))⟩,
    ⟨(some (9, false)), (.mv (some 12) (.t 11))⟩,
    ⟨(some (12, true)), (.mv (some 13) (.t 0))⟩,
    ⟨(some (12, true)), (.ar 14 .leq (.t 13) (.v (.int .u8 57)))⟩,
    ⟨(some (9, false)), (.pick 15 (.t 12) (.t 14) (.v (.bool false)))⟩,
    ⟨none, (.pick 16 (.t 9) (.v (.bool true)) (.t 15))⟩,
    ⟨none, (.mv (some 2) (.t 16))⟩])
  .ret))
noncomputable def ent82 : TEnt := ⟨82, [.byte], .bool, fun x => F82 x, .plain⟩
theorem eq82 (x : dens ent82.as) : ent82.F x = evF [] SHF dc82 [(.tmp 2)] ent82.as ent82.rs x := by kernel_rfl
/-- library/text.Valid -/
noncomputable def F83 (a0 : List UInt8) : Option (Bool) :=
  bindO (fVal a0) fun y1 =>
  cond (!y1)
    (some false)
    (loopK (σ := (List UInt8 × Nat)) (fun p2 againp2 =>
      cond (decide (p2.2 < List.length p2.1))
        (cond (decide ((((Utf8.decode ⟨List.toArray p2.1⟩ p2.2).1 : Nat) : Int) < (32 : Int)))
          (some false)
          (cond (decide ((127 : Int) ≤ (((Utf8.decode ⟨List.toArray p2.1⟩ p2.2).1 : Nat) : Int)))
            (cond (decide ((((Utf8.decode ⟨List.toArray p2.1⟩ p2.2).1 : Nat) : Int) ≤ (159 : Int)))
              (some false)
              (cond (decide ((65535 : Int) < (((Utf8.decode ⟨List.toArray p2.1⟩ p2.2).1 : Nat) : Int)))
                (some false)
                (againp2 (p2.1, (p2.2 + (Utf8.decode ⟨List.toArray p2.1⟩ p2.2).2)))))
            (cond (decide ((65535 : Int) < (((Utf8.decode ⟨List.toArray p2.1⟩ p2.2).1 : Nat) : Int)))
              (some false)
              (againp2 (p2.1, (p2.2 + (Utf8.decode ⟨List.toArray p2.1⟩ p2.2).2))))))
        (some true)) (a0, 0))
def dc83 : DC :=
  (.seq (.reg [⟨none, (.mv (some 2) (.v (.bool false)))⟩])
  (.seq (.seq (.reg [⟨none, (.mv (some 5) (.t 0))⟩,
    ⟨none, (.ca (some 6) 97 [(.t 5)])⟩,
    ⟨none, (.un 7 .not (.t 6))⟩])
  (.cond (.t 7)
    (.seq (.reg [⟨none, (.mv (some 2) (.v (.bool false)))⟩])
  .ret)
    .skip))
  (.seq (.seq (.reg [⟨none, (.mv (some 8) (.t 0))⟩,
    ⟨none, (.rg 9 (.t 8))⟩])
  (.block 0 (.loop ⟨[], [(9, .itc)], [2, 4, 10, 11, 12, 13, 14, 15, 16, 17, 18, 19, 20, 21, 22, 23, 24, 25, 26].map .s⟩ (.seq (.reg [⟨none, (.nx 10 (.t 9))⟩,
    ⟨none, (.ex 11 0 (.t 10))⟩])
  (.seq (.cond (.t 11)
    .skip
    (.exit 0))
  (.block 1 (.seq (.reg [⟨none, (.ex 12 2 (.t 10))⟩,
    ⟨none, (.mv (some 4) (.t 12))⟩])
  (.seq (.reg [⟨none, (.mv (some 13) (.t 4))⟩,
    ⟨none, (.ar 14 .lss (.t 13) (.v (.int .i32 32)))⟩,
    ⟨none, (.mv (some 15) (.t 14))⟩,
    ⟨(some (15, false)), (.mv (some 16) (.t 4))⟩,
    ⟨(some (15, false)), (.ar 17 .geq (.t 16) (.v (.int .i32 127)))⟩,
    ⟨(some (15, false)), (.mv (some 18) (.t 17))⟩,
    ⟨(some (18, true)), (.mv (some 19) (.t 4))⟩,
    ⟨(some (18, true)), (.ar 20 .leq (.t 19) (.v (.int .i32 159)))⟩,
    ⟨(some (15, false)), (.pick 21 (.t 18) (.t 20) (.v (.bool false)))⟩,
    ⟨none, (.pick 22 (.t 15) (.v (.bool true)) (.t 21))⟩,
    ⟨none, (.mv (some 23) (.t 22))⟩,
    ⟨(some (23, false)), (.mv (some 24) (.t 4))⟩,
    ⟨(some (23, false)), (.ar 25 .gtr (.t 24) (.v (.int .i32 65535)))⟩,
    ⟨none, (.pick 26 (.t 23) (.v (.bool true)) (.t 25))⟩])
  (.cond (.t 26)
    (.seq (.reg [⟨none, (.mv (some 2) (.v (.bool false)))⟩])
  .ret)
    .skip)))))))))
  (.seq (.reg [⟨none, (.mv (some 2) (.v (.bool true)))⟩])
  .ret))))
noncomputable def ent83 : TEnt := ⟨83, [.str], .bool, fun x => F83 x, .plain⟩
theorem eq83 (x : dens ent83.as) : ent83.F x = evF [entVal] SHF dc83 [(.tmp 2)] ent83.as ent83.rs x := by kernel_rfl
/-- library/field.checkSub -/
noncomputable def F62 (a0 : UInt8 × List UInt8) : Option (Int) :=
  bindO (F82 a0.1) fun y1 =>
  cond (!y1)
    (some (1 : Int))
    (cond (decide (a0.2 = ([] : List UInt8)))
      (some (8 : Int))
      (bindO (F83 a0.2) fun y2 =>
      cond (!y2)
        (some (3 : Int))
        (cond (decide ((200 : Int) < (List.length a0.2 : Int)))
          (some (4 : Int))
          (some (0 : Int)))))
def dc62 : DC :=
  (.seq (.reg [⟨none, (.bx 1 (some 46) (.t 0))⟩,
    ⟨none, (.mv (some 2) (.v (.int .i64 0)))⟩])
  (.seq (.block 0 (.seq (.reg [⟨none, (.fa 4 46 0 (.t 1))⟩,
    ⟨none, (.ld 5 none (.t 4))⟩,
    ⟨none, (.ca (some 6) 82 [(.t 5)])⟩,
    ⟨none, (.un 7 .not (.t 6))⟩,
    ⟨none, (.mv (some 3) (.t 7))⟩])
  (.cond (.t 3)
    (.seq (.reg [⟨none, (.mv (some 2) (.v (.int .i64 1)))⟩])
  .ret)
    (.seq (.reg [⟨none, (.fa 9 46 1 (.t 1))⟩,
    ⟨none, (.ld 10 none (.t 9))⟩,
    ⟨none, (.ar 11 .eql (.t 10) (.v (.str [])))⟩,
    ⟨none, (.mv (some 8) (.t 11))⟩])
  (.cond (.t 8)
    (.seq (.reg [⟨none, (.mv (some 2) (.v (.int .i64 8)))⟩])
  .ret)
    (.seq (.reg [⟨none, (.fa 13 46 1 (.t 1))⟩,
    ⟨none, (.ld 14 none (.t 13))⟩,
    ⟨none, (.ca (some 15) 83 [(.t 14)])⟩,
    ⟨none, (.un 16 .not (.t 15))⟩,
    ⟨none, (.mv (some 12) (.t 16))⟩])
  (.cond (.t 12)
    (.seq (.reg [⟨none, (.mv (some 2) (.v (.int .i64 3)))⟩])
  .ret)
    (.seq (.reg [⟨none, (.fa 18 46 1 (.t 1))⟩,
    ⟨none, (.ld 19 none (.t 18))⟩,
    ⟨none, (.ln 20 none (.t 19))⟩,
    ⟨none, (.ar 21 .gtr (.t 20) (.v (.int .i64 200)))⟩,
    ⟨none, (.mv (some 17) (.t 21))⟩])
  (.cond (.t 17)
    (.seq (.reg [⟨none, (.mv (some 2) (.v (.int .i64 4)))⟩])
  .ret)
    .skip)))))))))
  (.seq (.reg [⟨none, (.mv (some 2) (.v (.int .i64 0)))⟩])
  .ret)))
noncomputable def ent62 : TEnt := ⟨62, [(.agg 46 (.pair .byte .str))], (.int .i64), fun x => F62 x, .plain⟩
theorem eq62 (x : dens ent62.as) : ent62.F x = evF [ent82, ent83] SHF dc62 [(.tmp 2)] ent62.as ent62.rs x := by kernel_rfl
/-- library/field.Right -/
noncomputable def F36 (a0 : List UInt8 × List UInt8 × (List (UInt8 × List UInt8)) × Int) : Option (Int) :=
  jn (σ := Bool) (fun nextj1 =>
    cond (!decide ((List.length a0.1 : Int) = (3 : Int)))
      (nextj1 true)
      (bindO (F61 a0.1) fun y2 =>
      cond (!y2)
        (nextj1 true)
        (nextj1 (Op.bytesLess a0.1 ([48, 49, 48] : List UInt8))))) fun j1 =>
  cond (j1)
    (some (6 : Int))
    (jn (σ := Bool) (fun nextj3 =>
      cond (!decide ((List.length a0.2.1 : Int) = (2 : Int)))
        (nextj3 true)
        (bindO (fRepl a0.2.1 ([32] : List UInt8) ([48] : List UInt8)) fun y4 =>
        bindO (F61 y4) fun y5 =>
        nextj3 (!y5))) fun j3 =>
    cond (j3)
      (some (3 : Int))
      (cond (decide ((List.length a0.2.2.1 : Int) = (0 : Int)))
        (some (8 : Int))
        (cond (decide ((16 : Int) < (List.length a0.2.2.1 : Int)))
          (some (4 : Int))
          (loopK (σ := Int) (fun p6 againp6 =>
            cond (decide (p6 < (List.length a0.2.2.1 : Int)))
              (gd (0 ≤ p6 ∧ p6 < (List.length a0.2.2.1 : Int)) <|
              bindO (F62 (List.getD a0.2.2.1 (Int.toNat p6) (0, []))) fun y7 =>
              cond (!decide (y7 = (0 : Int)))
                (some y7)
                (bnd (IntKind.wrap .i64 (p6 + (1 : Int))) fun x8 =>
                againp6 x8))
              (cond (decide (a0.2.2.2 < (0 : Int)))
                (some (2 : Int))
                (cond (decide ((9999 : Int) < a0.2.2.2))
                  (some (2 : Int))
                  (some (0 : Int))))) (0 : Int)))))
def dc36 : DC :=
  (.seq (.reg [⟨none, (.bx 1 (some 44) (.t 0))⟩,
    ⟨none, (.mv (some 2) (.v (.int .i64 0)))⟩])
  (.seq (.block 0 (.jn ⟨[(6, (.lf .bool))], [], [7, 8, 9, 10, 11, 12, 13, 14, 15, 16, 17, 18, 19, 20, 21].map .s⟩ (.reg [⟨none, (.fa 7 44 0 (.t 1))⟩,
    ⟨none, (.ld 8 none (.t 7))⟩,
    ⟨none, (.ln 9 none (.t 8))⟩,
    ⟨none, (.ar 10 .neq (.t 9) (.v (.int .i64 3)))⟩,
    ⟨none, (.mv (some 11) (.t 10))⟩,
    ⟨(some (11, false)), (.fa 12 44 0 (.t 1))⟩,
    ⟨(some (11, false)), (.ld 13 none (.t 12))⟩,
    ⟨(some (11, false)), (.ca (some 14) 61 [(.t 13)])⟩,
    ⟨(some (11, false)), (.un 15 .not (.t 14))⟩,
    ⟨none, (.pick 16 (.t 11) (.v (.bool true)) (.t 15))⟩,
    ⟨none, (.mv (some 17) (.t 16))⟩,
    ⟨(some (17, false)), (.fa 18 44 0 (.t 1))⟩,
    ⟨(some (17, false)), (.ld 19 none (.t 18))⟩,
    ⟨(some (17, false)), (.ar 20 .lss (.t 19) (.v (.str [48, 49, 48])))⟩,
    ⟨none, (.pick 21 (.t 17) (.v (.bool true)) (.t 20))⟩,
    ⟨none, (.mv (some 6) (.t 21))⟩])
  (.cond (.t 6)
    (.seq (.reg [⟨none, (.mv (some 2) (.v (.int .i64 6)))⟩])
  .ret)
    (.jn ⟨[(22, (.lf .bool))], [], [23, 24, 25, 26, 27, 28, 29, 30, 31, 32, 33].map .s⟩ (.reg [⟨none, (.fa 23 44 1 (.t 1))⟩,
    ⟨none, (.ld 24 none (.t 23))⟩,
    ⟨none, (.ln 25 none (.t 24))⟩,
    ⟨none, (.ar 26 .neq (.t 25) (.v (.int .i64 2)))⟩,
    ⟨none, (.mv (some 27) (.t 26))⟩,
    ⟨(some (27, false)), (.fa 28 44 1 (.t 1))⟩,
    ⟨(some (27, false)), (.ld 29 none (.t 28))⟩,
    ⟨(some (27, false)), (.ca (some 30) 40 [(.t 29), (.v (.str [32])), (.v (.str [48]))])⟩,
    ⟨(some (27, false)), (.ca (some 31) 61 [(.t 30)])⟩,
    ⟨(some (27, false)), (.un 32 .not (.t 31))⟩,
    ⟨none, (.pick 33 (.t 27) (.v (.bool true)) (.t 32))⟩,
    ⟨none, (.mv (some 22) (.t 33))⟩])
  (.cond (.t 22)
    (.seq (.reg [⟨none, (.mv (some 2) (.v (.int .i64 3)))⟩])
  .ret)
    (.seq (.reg [⟨none, (.fa 35 44 2 (.t 1))⟩,
    ⟨none, (.ld 36 none (.t 35))⟩,
    ⟨none, (.ln 37 (some 46) (.t 36))⟩,
    ⟨none, (.ar 38 .eql (.t 37) (.v (.int .i64 0)))⟩,
    ⟨none, (.mv (some 34) (.t 38))⟩])
  (.cond (.t 34)
    (.seq (.reg [⟨none, (.mv (some 2) (.v (.int .i64 8)))⟩])
  .ret)
    (.seq (.reg [⟨none, (.fa 40 44 2 (.t 1))⟩,
    ⟨none, (.ld 41 none (.t 40))⟩,
    ⟨none, (.ln 42 (some 46) (.t 41))⟩,
    ⟨none, (.ar 43 .gtr (.t 42) (.v (.int .i64 16)))⟩,
    ⟨none, (.mv (some 39) (.t 43))⟩])
  (.cond (.t 39)
    (.seq (.reg [⟨none, (.mv (some 2) (.v (.int .i64 4)))⟩])
  .ret)
    .skip)))))))))
  (.seq (.seq (.reg [⟨none, (.fa 44 44 2 (.t 1))⟩,
    ⟨none, (.ld 45 none (.t 44))⟩,
    ⟨none, (.ln 46 (some 46) (.t 45))⟩,
    ⟨none, (.mv (some 47) (.v (.int .i64 0)))⟩])
  (.block 1 (.loop ⟨[(47, (.lf (.int .i64)))], [], [2, 4, 5, 48, 49, 50, 51, 52, 53, 54, 55, 56].map .s ++ [4].map .b⟩ (.seq (.reg [⟨none, (.ar 48 .lss (.t 47) (.t 46))⟩])
  (.seq (.cond (.t 48)
    .skip
    (.exit 1))
  (.seq (.block 2 (.seq (.reg [⟨none, (.ea 49 46 (.t 45) (.t 47))⟩,
    ⟨none, (.ld 50 (some 46) (.t 49))⟩,
    ⟨none, (.al 4 (.agg 46 [(.int .u8 0), (.str [])]))⟩,
    ⟨none, (.st (some 46) (.t 4) (.t 50))⟩])
  (.seq (.reg [⟨none, (.ld 51 (some 46) (.t 4))⟩,
    ⟨none, (.ca (some 52) 62 [(.t 51)])⟩,
    ⟨none, (.mv (some 5) (.t 52))⟩])
  (.seq (.reg [⟨none, (.mv (some 53) (.t 5))⟩,
    ⟨none, (.ar 54 .neq (.t 53) (.v (.int .i64 0)))⟩])
  (.cond (.t 54)
    (.seq (.reg [⟨none, (.mv (some 55) (.t 5))⟩,
    ⟨none, (.mv (some 2) (.t 55))⟩])
  .ret)
    .skip)))))
  (.reg [⟨none, (.ar 56 .add (.t 47) (.v (.int .i64 1)))⟩,
    ⟨none, (.mv (some 47) (.t 56))⟩])))))))
  (.seq (.seq (.reg [⟨none, (.fa 57 44 3 (.t 1))⟩,
    ⟨none, (.ld 58 none (.t 57))⟩,
    ⟨none, (.ar 59 .lss (.t 58) (.v (.int .i64 0)))⟩,
    ⟨none, (.mv (some 60) (.t 59))⟩,
    ⟨(some (60, false)), (.fa 61 44 3 (.t 1))⟩,
    ⟨(some (60, false)), (.ld 62 none (.t 61))⟩,
    ⟨(some (60, false)), (.ar 63 .gtr (.t 62) (.v (.int .i64 9999)))⟩,
    ⟨none, (.pick 64 (.t 60) (.v (.bool true)) (.t 63))⟩])
  (.cond (.t 64)
    (.seq (.reg [⟨none, (.mv (some 2) (.v (.int .i64 2)))⟩])
  .ret)
    .skip))
  (.seq (.reg [⟨none, (.mv (some 2) (.v (.int .i64 0)))⟩])
  .ret)))))
noncomputable def ent36 : TEnt := ⟨36, [(.agg 44 (.pair .str (.pair .str (.pair (.sl 46 (.agg 46 (.pair .byte .str))) (.int .i64)))))], (.int .i64), fun x => F36 x, .plain⟩
theorem eq36 (x : dens ent36.as) : ent36.F x = evF [entRepl, ent61, ent62] SHF dc36 [(.tmp 2)] ent36.as ent36.rs x := by kernel_rfl
/-- library/record.Right -/
noncomputable def F23 (a0 : Int × Int × Int × List UInt8 × List (List UInt8 × List UInt8 × (List (UInt8 × List UInt8)) × Int)) : Option (Int) :=
  jn (σ := Bool) (fun nextj1 =>
    cond (decide (a0.1 < (0 : Int)))
      (nextj1 true)
      (nextj1 (decide ((9999 : Int) < a0.1)))) fun j1 =>
  cond (j1)
    (some (2 : Int))
    (jn (σ := Bool) (fun nextj2 =>
      cond (decide (a0.2.1 < (1 : Int)))
        (nextj2 true)
        (nextj2 (decide ((3 : Int) < a0.2.1)))) fun j2 =>
    cond (j2)
      (some (20 : Int))
      (jn (σ := Bool) (fun nextj3 =>
        cond (decide (a0.2.2.1 < (1 : Int)))
          (nextj3 true)
          (nextj3 (decide ((4 : Int) < a0.2.2.1)))) fun j3 =>
      cond (j3)
        (some (1 : Int))
        (jn (σ := Bool) (fun nextj4 =>
          cond (!decide ((List.length a0.2.2.2.1 : Int) = (3 : Int)))
            (nextj4 true)
            (bindO (fTrim a0.2.2.2.1 ([97, 98, 99, 100, 101, 102, 103, 104, 105, 106, 107, 108, 109, 110, 111, 112, 113, 114, 115, 116, 117, 118, 119, 120, 121, 122] : List UInt8)) fun y5 =>
            nextj4 (!decide (y5 = ([] : List UInt8))))) fun j4 =>
        cond (j4)
          (some (3 : Int))
          (cond (decide ((64 : Int) < (List.length a0.2.2.2.2 : Int)))
            (some (4 : Int))
            (loopK (σ := Int) (fun p6 againp6 =>
              cond (decide (p6 < (List.length a0.2.2.2.2 : Int)))
                (gd (0 ≤ p6 ∧ p6 < (List.length a0.2.2.2.2 : Int)) <|
                bindO (F36 (List.getD a0.2.2.2.2 (Int.toNat p6) ([], ([], ([], 0))))) fun y7 =>
                cond (!decide (y7 = (0 : Int)))
                  (some y7)
                  (bnd (IntKind.wrap .i64 (p6 + (1 : Int))) fun x8 =>
                  againp6 x8))
                (some (0 : Int))) (0 : Int))))))
def dc23 : DC :=
  (.seq (.reg [⟨none, (.bx 1 (some 24) (.t 0))⟩,
    ⟨none, (.mv (some 2) (.v (.int .i64 0)))⟩])
  (.seq (.block 0 (.jn ⟨[(6, (.lf .bool))], [], [7, 8, 9, 10, 11, 12, 13, 14].map .s⟩ (.reg [⟨none, (.fa 7 24 0 (.t 1))⟩,
    ⟨none, (.ld 8 none (.t 7))⟩,
    ⟨none, (.ar 9 .lss (.t 8) (.v (.int .i64 0)))⟩,
    ⟨none, (.mv (some 10) (.t 9))⟩,
    ⟨(some (10, false)), (.fa 11 24 0 (.t 1))⟩,
    ⟨(some (10, false)), (.ld 12 none (.t 11))⟩,
    ⟨(some (10, false)), (.ar 13 .gtr (.t 12) (.v (.int .i64 9999)))⟩,
    ⟨none, (.pick 14 (.t 10) (.v (.bool true)) (.t 13))⟩,
    ⟨none, (.mv (some 6) (.t 14))⟩])
  (.cond (.t 6)
    (.seq (.reg [⟨none, (.mv (some 2) (.v (.int .i64 2)))⟩])
  .ret)
    (.jn ⟨[(15, (.lf .bool))], [], [16, 17, 18, 19, 20, 21, 22, 23].map .s⟩ (.reg [⟨none, (.fa 16 24 1 (.t 1))⟩,
    ⟨none, (.ld 17 none (.t 16))⟩,
    ⟨none, (.ar 18 .lss (.t 17) (.v (.int .i64 1)))⟩,
    ⟨none, (.mv (some 19) (.t 18))⟩,
    ⟨(some (19, false)), (.fa 20 24 1 (.t 1))⟩,
    ⟨(some (19, false)), (.ld 21 none (.t 20))⟩,
    ⟨(some (19, false)), (.ar 22 .gtr (.t 21) (.v (.int .i64 3)))⟩,
    ⟨none, (.pick 23 (.t 19) (.v (.bool true)) (.t 22))⟩,
    ⟨none, (.mv (some 15) (.t 23))⟩])
  (.cond (.t 15)
    (.seq (.reg [⟨none, (.mv (some 2) (.v (.int .i64 20)))⟩])
  .ret)
    (.jn ⟨[(24, (.lf .bool))], [], [25, 26, 27, 28, 29, 30, 31, 32].map .s⟩ (.reg [⟨none, (.fa 25 24 2 (.t 1))⟩,
    ⟨none, (.ld 26 none (.t 25))⟩,
    ⟨none, (.ar 27 .lss (.t 26) (.v (.int .i64 1)))⟩,
    ⟨none, (.mv (some 28) (.t 27))⟩,
    ⟨(some (28, false)), (.fa 29 24 2 (.t 1))⟩,
    ⟨(some (28, false)), (.ld 30 none (.t 29))⟩,
    ⟨(some (28, false)), (.ar 31 .gtr (.t 30) (.v (.int .i64 4)))⟩,
    ⟨none, (.pick 32 (.t 28) (.v (.bool true)) (.t 31))⟩,
    ⟨none, (.mv (some 24) (.t 32))⟩])
  (.cond (.t 24)
    (.seq (.reg [⟨none, (.mv (some 2) (.v (.int .i64 1)))⟩])
  .ret)
    (.jn ⟨[(33, (.lf .bool))], [], [34, 35, 36, 37, 38, 39, 40, 41, 42, 43].map .s⟩ (.reg [⟨none, (.fa 34 24 3 (.t 1))⟩,
    ⟨none, (.ld 35 none (.t 34))⟩,
    ⟨none, (.ln 36 none (.t 35))⟩,
    ⟨none, (.ar 37 .neq (.t 36) (.v (.int .i64 3)))⟩,
    ⟨none, (.mv (some 38) (.t 37))⟩,
    ⟨(some (38, false)), (.fa 39 24 3 (.t 1))⟩,
    ⟨(some (38, false)), (.ld 40 none (.t 39))⟩,
    ⟨(some (38, false)), (.ca (some 41) 35 [(.t 40), (.v (.str [97, 98, 99, 100, 101, 102, 103, 104, 105, 106, 107, 108, 109, 110, 111, 112, 113, 114, 115, 116, 117, 118, 119, 120, 121, 122]))])⟩,
    ⟨(some (38, false)), (.ar 42 .neq (.t 41) (.v (.str [])))⟩,
    ⟨none, (.pick 43 (.t 38) (.v (.bool true)) (.t 42))⟩,
    ⟨none, (.mv (some 33) (.t 43))⟩])
  (.cond (.t 33)
    (.seq (.reg [⟨none, (.mv (some 2) (.v (.int .i64 3)))⟩])
  .ret)
    (.seq (.reg [⟨none, (.fa 45 24 4 (.t 1))⟩,
    ⟨none, (.ld 46 none (.t 45))⟩,
    ⟨none, (.ln 47 (some 44) (.t 46))⟩,
    ⟨none, (.ar 48 .gtr (.t 47) (.v (.int .i64 64)))⟩,
    ⟨none, (.mv (some 44) (.t 48))⟩])
  (.cond (.t 44)
    (.seq (.reg [⟨none, (.mv (some 2) (.v (.int .i64 4)))⟩])
  .ret)
    .skip)))))))))))
  (.seq (.seq (.reg [⟨none, (.fa 49 24 4 (.t 1))⟩,
    ⟨none, (.ld 50 none (.t 49))⟩,
    ⟨none, (.ln 51 (some 44) (.t 50))⟩,
    ⟨none, (.mv (some 52) (.v (.int .i64 0)))⟩])
  (.block 1 (.loop ⟨[(52, (.lf (.int .i64)))], [], [2, 4, 5, 53, 54, 55, 56, 57, 58, 59, 60, 61].map .s ++ [4].map .b⟩ (.seq (.reg [⟨none, (.ar 53 .lss (.t 52) (.t 51))⟩])
  (.seq (.cond (.t 53)
    .skip
    (.exit 1))
  (.seq (.block 2 (.seq (.reg [⟨none, (.ea 54 44 (.t 50) (.t 52))⟩,
    ⟨none, (.ld 55 (some 44) (.t 54))⟩,
    ⟨none, (.al 4 (.agg 44 [(.str []), (.str []), (.sl none 46 []), (.int .i64 0)]))⟩,
    ⟨none, (.st (some 44) (.t 4) (.t 55))⟩])
  (.seq (.reg [⟨none, (.ld 56 (some 44) (.t 4))⟩,
    ⟨none, (.ca (some 57) 36 [(.t 56)])⟩,
    ⟨none, (.mv (some 5) (.t 57))⟩])
  (.seq (.reg [⟨none, (.mv (some 58) (.t 5))⟩,
    ⟨none, (.ar 59 .neq (.t 58) (.v (.int .i64 0)))⟩])
  (.cond (.t 59)
    (.seq (.reg [⟨none, (.mv (some 60) (.t 5))⟩,
    ⟨none, (.mv (some 2) (.t 60))⟩])
  .ret)
    .skip)))))
  (.reg [⟨none, (.ar 61 .add (.t 52) (.v (.int .i64 1)))⟩,
    ⟨none, (.mv (some 52) (.t 61))⟩])))))))
  (.seq (.reg [⟨none, (.mv (some 2) (.v (.int .i64 0)))⟩])
  .ret))))
noncomputable def ent23 : TEnt := ⟨23, [(.agg 24 (.pair (.int .i64) (.pair (.int .i64) (.pair (.int .i64) (.pair .str (.sl 44 (.agg 44 (.pair .str (.pair .str (.pair (.sl 46 (.agg 46 (.pair .byte .str))) (.int .i64)))))))))))], (.int .i64), fun x => F23 x, .plain⟩
theorem eq23 (x : dens ent23.as) : ent23.F x = evF [entTrim, ent36] SHF dc23 [(.tmp 2)] ent23.as ent23.rs x := by kernel_rfl
/-- library/lines.kinds -/
noncomputable def F39 : Option (List (List UInt8)) :=
  some [([] : List UInt8), ([98, 111, 111, 107] : List UInt8), ([115, 101, 114, 105, 97, 108] : List UInt8), ([109, 97, 112] : List UInt8), ([100, 105, 103, 105, 116, 97, 108] : List UInt8)]
def dc39 : DC :=
  (.seq (.reg [⟨none, (.nl 0 9)⟩])
  (.seq (.reg [⟨none, (.bs 1 9 none [(.v (.str [])), (.v (.str [98, 111, 111, 107])), (.v (.str [115, 101, 114, 105, 97, 108])), (.v (.str [109, 97, 112])), (.v (.str [100, 105, 103, 105, 116, 97, 108]))])⟩,
    ⟨none, (.mv (some 0) (.t 1))⟩])
  .ret))
noncomputable def ent39 : TEnt := ⟨39, [], (.sl 9 .str), fun _ => F39, .plain⟩
theorem eq39 (x : dens ent39.as) : ent39.F x = evF [] SHF dc39 [(.tmp 0)] ent39.as ent39.rs x := by kernel_rfl
/-- library/lines.header -/
noncomputable def F25 (a0 : Int × Int × Int × List UInt8 × List (List UInt8 × List UInt8 × (List (UInt8 × List UInt8)) × Int)) : Option (List UInt8) :=
  bindO (fItoa a0.1) fun y1 =>
  gd (List.length ([61] : List UInt8) + List.length y1 ≤ big) <|
  bnd (([61] : List UInt8) ++ y1) fun x2 =>
  gd (List.length x2 + List.length ([32] : List UInt8) ≤ big) <|
  bnd (x2 ++ ([32] : List UInt8)) fun x3 =>
  bindO (fItoa a0.2.1) fun y4 =>
  gd (List.length x3 + List.length y4 ≤ big) <|
  bnd (x3 ++ y4) fun x5 =>
  gd (List.length x5 + List.length ([32] : List UInt8) ≤ big) <|
  bnd (x5 ++ ([32] : List UInt8)) fun x6 =>
  bindO (F39) fun y7 =>
  gd (0 ≤ a0.2.2.1 ∧ a0.2.2.1 < (List.length y7 : Int)) <|
  gd (List.length x6 + List.length (List.getD y7 (Int.toNat a0.2.2.1) []) ≤ big) <|
  bnd (x6 ++ (List.getD y7 (Int.toNat a0.2.2.1) [])) fun x8 =>
  gd (List.length x8 + List.length ([32] : List UInt8) ≤ big) <|
  bnd (x8 ++ ([32] : List UInt8)) fun x9 =>
  gd (List.length x9 + List.length a0.2.2.2.1 ≤ big) <|
  bnd (x9 ++ a0.2.2.2.1) fun x10 =>
  some x10
def dc25 : DC :=
  (.seq (.reg [⟨none, (.bx 1 (some 24) (.t 0))⟩,
    ⟨none, (.mv (some 2) (.v (.str [])))⟩])
  (.seq (.reg [⟨none, (.fa 3 24 0 (.t 1))⟩,
    ⟨none, (.ld 4 none (.t 3))⟩,
    ⟨none, (.ca (some 5) 38 [(.t 4)])⟩,
    ⟨none, (.ar 6 .add (.v (.str [61])) (.t 5))⟩,
    ⟨none, (.ar 7 .add (.t 6) (.v (.str [32])))⟩,
    ⟨none, (.fa 8 24 1 (.t 1))⟩,
    ⟨none, (.ld 9 none (.t 8))⟩,
    ⟨none, (.ca (some 10) 38 [(.t 9)])⟩,
    ⟨none, (.ar 11 .add (.t 7) (.t 10))⟩,
    ⟨none, (.ar 12 .add (.t 11) (.v (.str [32])))⟩,
    ⟨none, (.ca (some 13) 39 [])⟩,
    ⟨none, (.fa 14 24 2 (.t 1))⟩,
    ⟨none, (.ld 15 none (.t 14))⟩,
    ⟨none, (.ea 16 9 (.t 13) (.t 15))⟩,
    ⟨none, (.ld 17 none (.t 16))⟩,
    ⟨none, (.ar 18 .add (.t 12) (.t 17))⟩,
    ⟨none, (.ar 19 .add (.t 18) (.v (.str [32])))⟩,
    ⟨none, (.fa 20 24 3 (.t 1))⟩,
    ⟨none, (.ld 21 none (.t 20))⟩,
    ⟨none, (.ar 22 .add (.t 19) (.t 21))⟩,
    ⟨none, (.mv (some 2) (.t 22))⟩])
  .ret))
noncomputable def ent25 : TEnt := ⟨25, [(.agg 24 (.pair (.int .i64) (.pair (.int .i64) (.pair (.int .i64) (.pair .str (.sl 44 (.agg 44 (.pair .str (.pair .str (.pair (.sl 46 (.agg 46 (.pair .byte .str))) (.int .i64)))))))))))], .str, fun x => F25 x, .plain⟩
theorem eq25 (x : dens ent25.as) : ent25.F x = evF [entItoa, ent39] SHF dc25 [(.tmp 2)] ent25.as ent25.rs x := by kernel_rfl
/-- library/field.Print -/
noncomputable def F26 (a0 : List UInt8 × List UInt8 × (List (UInt8 × List UInt8)) × Int) : Option (List UInt8 × Int) :=
  bindO (F36 a0) fun y1 =>
  cond (!decide (y1 = (0 : Int)))
    (some (([] : List UInt8), y1))
    (gdN (0) (List.length ([] : List UInt8)) <|
    gd (List.length ([] : List UInt8) + List.length a0.1 ≤ big) <|
    bnd (([] : List UInt8) ++ a0.1) fun b2 =>
    jn (σ := List UInt8) (fun nextj3 =>
      cond (!decide (a0.2.2.2 = (0 : Int)))
        (bindO (fItoa a0.2.2.2) fun y4 =>
        gd (List.length ([64] : List UInt8) + List.length y4 ≤ big) <|
        bnd (([64] : List UInt8) ++ y4) fun x5 =>
        gdN (List.length b2) (List.length b2) <|
        gd (List.length b2 + List.length x5 ≤ big) <|
        bnd (b2 ++ x5) fun b6 =>
        gdN (List.length b6) (List.length b6) <|
        nextj3 b6)
        (gdN (List.length b2) (List.length b2) <|
        nextj3 b2)) fun j3 =>
    bindO (fRepl a0.2.1 ([32] : List UInt8) ([35] : List UInt8)) fun y7 =>
    gd (List.length ([32] : List UInt8) + List.length y7 ≤ big) <|
    bnd (([32] : List UInt8) ++ y7) fun x8 =>
    gd (List.length x8 + List.length ([32] : List UInt8) ≤ big) <|
    bnd (x8 ++ ([32] : List UInt8)) fun x9 =>
    gdN (List.length j3) (List.length j3) <|
    gd (List.length j3 + List.length x9 ≤ big) <|
    bnd (j3 ++ x9) fun b10 =>
    gdN (List.length b10) (List.length b10) <|
    loopK (σ := Int × List UInt8) (fun p11 againp11 =>
      cond (decide (p11.1 < (List.length a0.2.2.1 : Int)))
        (gd (0 ≤ p11.1 ∧ p11.1 < (List.length a0.2.2.1 : Int)) <|
        gdN (List.length p11.2) (List.length p11.2) <|
        gd ((0 : Int) ≤ (36 : Int) ∧ (36 : Int) < (256 : Int)) <|
        gd (List.length p11.2 + 1 ≤ big) <|
        bnd (p11.2 ++ [UInt8.ofNat (Int.toNat (36 : Int))]) fun b12 =>
        gdN (List.length b12) (List.length b12) <|
        gd (List.length b12 + 1 ≤ big) <|
        bnd (b12 ++ [(List.getD a0.2.2.1 (Int.toNat p11.1) (0, [])).1]) fun b13 =>
        bindO (fRepl ((List.getD a0.2.2.1 (Int.toNat p11.1) (0, [])).2) ([36] : List UInt8) ([36, 36] : List UInt8)) fun y14 =>
        gdN (List.length b13) (List.length b13) <|
        gd (List.length b13 + List.length y14 ≤ big) <|
        bnd (b13 ++ y14) fun b15 =>
        bnd (IntKind.wrap .i64 (p11.1 + (1 : Int))) fun x16 =>
        gdN (List.length b15) (List.length b15) <|
        againp11 (x16, b15))
        (gdN (List.length p11.2) (List.length p11.2) <|
        some (p11.2, (0 : Int)))) ((0 : Int), b10))
def dc26 : DC :=
  (.seq (.reg [⟨none, (.bx 1 (some 44) (.t 0))⟩,
    ⟨none, (.mv (some 2) (.v (.str [])))⟩,
    ⟨none, (.mv (some 3) (.v (.int .i64 0)))⟩])
  (.seq (.seq (.reg [⟨none, (.ld 8 (some 44) (.t 1))⟩,
    ⟨none, (.ca (some 9) 36 [(.t 8)])⟩,
    ⟨none, (.mv (some 4) (.t 9))⟩])
  (.seq (.reg [⟨none, (.mv (some 10) (.t 4))⟩,
    ⟨none, (.ar 11 .neq (.t 10) (.v (.int .i64 0)))⟩])
  (.cond (.t 11)
    (.seq (.reg [⟨none, (.mv (some 12) (.t 4))⟩,
    ⟨none, (.mv (some 2) (.v (.str [])))⟩,
    ⟨none, (.mv (some 3) (.t 12))⟩])
  .ret)
    .skip)))
  (.seq (.reg [⟨none, (.ab 5 51 5)⟩])
  (.seq (.reg [⟨none, (.fa 13 44 0 (.t 1))⟩,
    ⟨none, (.ld 14 none (.t 13))⟩,
    ⟨none, (.cw (some 15) 24 .wstr [(.t 5), (.t 14)])⟩])
  (.jn ⟨[], [(5, (.bld 3000005 51 5))], [16, 17, 18, 19, 20, 21, 22, 23].map .s⟩ (.seq (.reg [⟨none, (.fa 16 44 3 (.t 1))⟩,
    ⟨none, (.ld 17 none (.t 16))⟩,
    ⟨none, (.ar 18 .neq (.t 17) (.v (.int .i64 0)))⟩])
  (.cond (.t 18)
    (.reg [⟨none, (.fa 19 44 3 (.t 1))⟩,
    ⟨none, (.ld 20 none (.t 19))⟩,
    ⟨none, (.ca (some 21) 38 [(.t 20)])⟩,
    ⟨none, (.ar 22 .add (.v (.str [64])) (.t 21))⟩,
    ⟨none, (.cw (some 23) 24 .wstr [(.t 5), (.t 22)])⟩])
    .skip))
  (.seq (.reg [⟨none, (.fa 24 44 1 (.t 1))⟩,
    ⟨none, (.ld 25 none (.t 24))⟩,
    ⟨none, (.ca (some 26) 40 [(.t 25), (.v (.str [32])), (.v (.str [35]))])⟩,
    ⟨none, (.ar 27 .add (.v (.str [32])) (.t 26))⟩,
    ⟨none, (.ar 28 .add (.t 27) (.v (.str [32])))⟩,
    ⟨none, (.cw (some 29) 24 .wstr [(.t 5), (.t 28)])⟩])
  (.seq (.seq (.reg [⟨none, (.fa 30 44 2 (.t 1))⟩,
    ⟨none, (.ld 31 none (.t 30))⟩,
    ⟨none, (.ln 32 (some 46) (.t 31))⟩,
    ⟨none, (.mv (some 33) (.v (.int .i64 0)))⟩])
  (.block 0 (.loop ⟨[(33, (.lf (.int .i64)))], [(5, (.bld 3000005 51 5))], [7, 34, 35, 36, 37, 38, 39, 40, 41, 42, 43, 44, 45].map .s ++ [7].map .b⟩ (.seq (.reg [⟨none, (.ar 34 .lss (.t 33) (.t 32))⟩])
  (.seq (.cond (.t 34)
    .skip
    (.exit 0))
  (.seq (.block 1 (.seq (.reg [⟨none, (.ea 35 46 (.t 31) (.t 33))⟩,
    ⟨none, (.ld 36 (some 46) (.t 35))⟩,
    ⟨none, (.al 7 (.agg 46 [(.int .u8 0), (.str [])]))⟩,
    ⟨none, (.st (some 46) (.t 7) (.t 36))⟩])
  (.seq (.reg [⟨none, (.cw (some 37) 41 .wbyte [(.t 5), (.v (.int .u8 36))])⟩])
  (.seq (.reg [⟨none, (.fa 38 46 0 (.t 7))⟩,
    ⟨none, (.ld 39 none (.t 38))⟩,
    ⟨none, (.cw (some 40) 41 .wbyte [(.t 5), (.t 39)])⟩])
  (.reg [⟨none, (.fa 41 46 1 (.t 7))⟩,
    ⟨none, (.ld 42 none (.t 41))⟩,
    ⟨none, (.ca (some 43) 40 [(.t 42), (.v (.str [36])), (.v (.str [36, 36]))])⟩,
    ⟨none, (.cw (some 44) 24 .wstr [(.t 5), (.t 43)])⟩])))))
  (.reg [⟨none, (.ar 45 .add (.t 33) (.v (.int .i64 1)))⟩,
    ⟨none, (.mv (some 33) (.t 45))⟩])))))))
  (.seq (.reg [⟨none, (.cw (some 46) 27 .str [(.t 5)])⟩,
    ⟨none, (.mv (some 2) (.t 46))⟩,
    ⟨none, (.mv (some 3) (.v (.int .i64 0)))⟩])
  .ret))))))))
noncomputable def ent26 : TEnt := ⟨26, [(.agg 44 (.pair .str (.pair .str (.pair (.sl 46 (.agg 46 (.pair .byte .str))) (.int .i64)))))], (.tup (.pair .str (.int .i64))), fun x => F26 x, .plain⟩
theorem eq26 (x : dens ent26.as) : ent26.F x = evF [entWriteString, entString, ent36, entItoa, entRepl, entWriteByte] SHF dc26 [(.tmp 2), (.tmp 3)] ent26.as ent26.rs x := by kernel_rfl
/-- library/lines.Print -/
noncomputable def F11 (a0 : Int × Int × Int × List UInt8 × List (List UInt8 × List UInt8 × (List (UInt8 × List UInt8)) × Int)) : Option (List UInt8 × Int) :=
  bindO (F23 a0) fun y1 =>
  cond (!decide (y1 = (0 : Int)))
    (some (([] : List UInt8), y1))
    (bindO (F25 a0) fun y2 =>
    gd (List.length y2 + List.length ([10] : List UInt8) ≤ big) <|
    bnd (y2 ++ ([10] : List UInt8)) fun x3 =>
    gdN (0) (List.length ([] : List UInt8)) <|
    gd (List.length ([] : List UInt8) + List.length x3 ≤ big) <|
    bnd (([] : List UInt8) ++ x3) fun b4 =>
    gdN (List.length b4) (List.length b4) <|
    loopK (σ := Int × List UInt8) (fun p5 againp5 =>
      cond (decide (p5.1 < (List.length a0.2.2.2.2 : Int)))
        (gd (0 ≤ p5.1 ∧ p5.1 < (List.length a0.2.2.2.2 : Int)) <|
        bindO (F26 (List.getD a0.2.2.2.2 (Int.toNat p5.1) ([], ([], ([], 0))))) fun y6 =>
        cond (!decide (y6.2 = (0 : Int)))
          (some (([] : List UInt8), y6.2))
          (gd (List.length y6.1 + List.length ([10] : List UInt8) ≤ big) <|
          bnd (y6.1 ++ ([10] : List UInt8)) fun x7 =>
          gdN (List.length p5.2) (List.length p5.2) <|
          gd (List.length p5.2 + List.length x7 ≤ big) <|
          bnd (p5.2 ++ x7) fun b8 =>
          bnd (IntKind.wrap .i64 (p5.1 + (1 : Int))) fun x9 =>
          gdN (List.length b8) (List.length b8) <|
          againp5 (x9, b8)))
        (gdN (List.length p5.2) (List.length p5.2) <|
        gd (List.length p5.2 + List.length ([10] : List UInt8) ≤ big) <|
        bnd (p5.2 ++ ([10] : List UInt8)) fun b10 =>
        gdN (List.length b10) (List.length b10) <|
        some (b10, (0 : Int)))) ((0 : Int), b4))
def dc11 : DC :=
  (.seq (.reg [⟨none, (.bx 1 (some 24) (.t 0))⟩,
    ⟨none, (.mv (some 2) (.v (.str [])))⟩,
    ⟨none, (.mv (some 3) (.v (.int .i64 0)))⟩])
  (.seq (.seq (.reg [⟨none, (.ld 10 (some 24) (.t 1))⟩,
    ⟨none, (.ca (some 11) 23 [(.t 10)])⟩,
    ⟨none, (.mv (some 4) (.t 11))⟩])
  (.seq (.reg [⟨none, (.mv (some 12) (.t 4))⟩,
    ⟨none, (.ar 13 .neq (.t 12) (.v (.int .i64 0)))⟩])
  (.cond (.t 13)
    (.seq (.reg [⟨none, (.mv (some 14) (.t 4))⟩,
    ⟨none, (.mv (some 2) (.v (.str [])))⟩,
    ⟨none, (.mv (some 3) (.t 14))⟩])
  .ret)
    .skip)))
  (.seq (.reg [⟨none, (.ab 5 51 5)⟩])
  (.seq (.reg [⟨none, (.ld 15 (some 24) (.t 1))⟩,
    ⟨none, (.ca (some 16) 25 [(.t 15)])⟩,
    ⟨none, (.ar 17 .add (.t 16) (.v (.str [10])))⟩,
    ⟨none, (.cw (some 18) 24 .wstr [(.t 5), (.t 17)])⟩])
  (.seq (.seq (.reg [⟨none, (.fa 19 24 4 (.t 1))⟩,
    ⟨none, (.ld 20 none (.t 19))⟩,
    ⟨none, (.ln 21 (some 44) (.t 20))⟩,
    ⟨none, (.mv (some 22) (.v (.int .i64 0)))⟩])
  (.block 0 (.loop ⟨[(22, (.lf (.int .i64)))], [(5, (.bld 3000005 51 5))], [2, 3, 7, 8, 9, 23, 24, 25, 26, 27, 28, 29, 30, 31, 32, 33, 34, 35, 36, 37].map .s ++ [7].map .b⟩ (.seq (.reg [⟨none, (.ar 23 .lss (.t 22) (.t 21))⟩])
  (.seq (.cond (.t 23)
    .skip
    (.exit 0))
  (.seq (.block 1 (.seq (.reg [⟨none, (.ea 24 44 (.t 20) (.t 22))⟩,
    ⟨none, (.ld 25 (some 44) (.t 24))⟩,
    ⟨none, (.al 7 (.agg 44 [(.str []), (.str []), (.sl none 46 []), (.int .i64 0)]))⟩,
    ⟨none, (.st (some 44) (.t 7) (.t 25))⟩])
  (.seq (.reg [⟨none, (.ld 27 (some 44) (.t 7))⟩,
    ⟨none, (.ca (some 28) 26 [(.t 27)])⟩,
    ⟨none, (.mv (some 26) (.t 28))⟩,
    ⟨none, (.ex 29 0 (.t 26))⟩,
    ⟨none, (.ex 30 1 (.t 26))⟩,
    ⟨none, (.mv (some 8) (.t 29))⟩,
    ⟨none, (.mv (some 9) (.t 30))⟩])
  (.seq (.seq (.reg [⟨none, (.mv (some 31) (.t 9))⟩,
    ⟨none, (.ar 32 .neq (.t 31) (.v (.int .i64 0)))⟩])
  (.cond (.t 32)
    (.seq (.reg [⟨none, (.mv (some 33) (.t 9))⟩,
    ⟨none, (.mv (some 2) (.v (.str [])))⟩,
    ⟨none, (.mv (some 3) (.t 33))⟩])
  .ret)
    .skip))
  (.reg [⟨none, (.mv (some 34) (.t 8))⟩,
    ⟨none, (.ar 35 .add (.t 34) (.v (.str [10])))⟩,
    ⟨none, (.cw (some 36) 24 .wstr [(.t 5), (.t 35)])⟩])))))
  (.reg [⟨none, (.ar 37 .add (.t 22) (.v (.int .i64 1)))⟩,
    ⟨none, (.mv (some 22) (.t 37))⟩])))))))
  (.seq (.reg [⟨none, (.cw (some 38) 24 .wstr [(.t 5), (.v (.str [10]))])⟩])
  (.seq (.reg [⟨none, (.cw (some 39) 27 .str [(.t 5)])⟩,
    ⟨none, (.mv (some 2) (.t 39))⟩,
    ⟨none, (.mv (some 3) (.v (.int .i64 0)))⟩])
  .ret)))))))
noncomputable def ent11 : TEnt := ⟨11, [(.agg 24 (.pair (.int .i64) (.pair (.int .i64) (.pair (.int .i64) (.pair .str (.sl 44 (.agg 44 (.pair .str (.pair .str (.pair (.sl 46 (.agg 46 (.pair .byte .str))) (.int .i64)))))))))))], (.tup (.pair .str (.int .i64))), fun x => F11 x, .plain⟩
theorem eq11 (x : dens ent11.as) : ent11.F x = evF [ent23, entWriteString, ent25, ent26, entString] SHF dc11 [(.tmp 2), (.tmp 3)] ent11.as ent11.rs x := by kernel_rfl
/-- library/field.subs -/
noncomputable def F75 (a0 : List UInt8) : Option (List (UInt8 × List UInt8)) :=
  gdN (List.length ([] : List (UInt8 × List UInt8))) (List.length ([] : List (UInt8 × List UInt8))) <|
  loopK (σ := List UInt8 × List (UInt8 × List UInt8)) (fun p1 againp1 =>
    cond (decide ((1 : Int) < (List.length p1.1 : Int)))
      (gd (0 ≤ (0 : Int) ∧ (0 : Int) < (List.length p1.1 : Int)) <|
      cond (decide ((UInt8.toNat (List.getD p1.1 (Int.toNat (0 : Int)) 0) : Int) = (36 : Int)))
        (gd (0 ≤ (1 : Int) ∧ (1 : Int) < (List.length p1.1 : Int)) <|
        gd (0 ≤ (2 : Int) ∧ (2 : Int) ≤ (List.length p1.1 : Int)) <|
        bnd (List.drop (Int.toNat (2 : Int)) p1.1) fun x2 =>
        jn (σ := List UInt8 × List UInt8) (fun nextj3 =>
          gdN (0) (List.length ([] : List UInt8)) <|
          loopK (σ := List UInt8 × List UInt8) (fun p4 againp4 =>
            jn (σ := List UInt8 × UInt8 × Bool × Bool × Bool) (fun nextj5 =>
              cond (!decide (p4.1 = ([] : List UInt8)))
                (gd (0 ≤ (0 : Int) ∧ (0 : Int) < (List.length p4.1 : Int)) <|
                cond (!decide ((UInt8.toNat (List.getD p4.1 (Int.toNat (0 : Int)) 0) : Int) = (36 : Int)))
                  (nextj5 (p4.1, (List.getD p4.1 (Int.toNat (0 : Int)) 0), !decide ((UInt8.toNat (List.getD p4.1 (Int.toNat (0 : Int)) 0) : Int) = (36 : Int)), true, true))
                  (bindO (fHas p4.1 ([36, 36] : List UInt8)) fun y6 =>
                  cond (y6)
                    (nextj5 (p4.1, (List.getD p4.1 (Int.toNat (0 : Int)) 0), !decide ((UInt8.toNat (List.getD p4.1 (Int.toNat (0 : Int)) 0) : Int) = (36 : Int)), false, y6))
                    (gdN (List.length p4.2) (List.length p4.2) <|
                    nextj3 (p4.1, p4.2))))
                (gdN (List.length p4.2) (List.length p4.2) <|
                nextj3 (p4.1, p4.2))) fun j5 =>
            jn (σ := Int) (fun nextj7 =>
              gd (0 ≤ (0 : Int) ∧ (0 : Int) < (List.length p4.1 : Int)) <|
              cond (decide ((UInt8.toNat (List.getD p4.1 (Int.toNat (0 : Int)) 0) : Int) = (36 : Int)))
                (nextj7 (2 : Int))
                (nextj7 (1 : Int))) fun j7 =>
            gd (0 ≤ (0 : Int) ∧ (0 : Int) < (List.length p4.1 : Int)) <|
            gdN (List.length p4.2) (List.length p4.2) <|
            gd (List.length p4.2 + 1 ≤ big) <|
            bnd (p4.2 ++ [(List.getD p4.1 (Int.toNat (0 : Int)) 0)]) fun b8 =>
            gd (0 ≤ j7 ∧ j7 ≤ (List.length p4.1 : Int)) <|
            bnd (List.drop (Int.toNat j7) p4.1) fun x9 =>
            gdN (List.length b8) (List.length b8) <|
            againp4 (x9, b8)) (x2, ([] : List UInt8))) fun j3 =>
        gdN (List.length j3.2) (List.length j3.2) <|
        gdN (List.length p1.2) (List.length p1.2) <|
        gd (List.length p1.2 + List.length [((List.getD p1.1 (Int.toNat (1 : Int)) 0), j3.2)] ≤ big) <|
        bnd (p1.2 ++ [((List.getD p1.1 (Int.toNat (1 : Int)) 0), j3.2)]) fun l10 =>
        gdN (List.length l10) (List.length l10) <|
        againp1 (j3.1, l10))
        (some p1.2))
      (some p1.2)) (a0, ([] : List (UInt8 × List UInt8)))
def dc75 : DC :=
  (.seq (.reg [⟨none, (.nl 2 46)⟩])
  (.seq (.reg [⟨none, (.nl 3 46)⟩])
  (.seq (.block 0 (.loop ⟨[(0, (.lf .str)), (3, (.row 3 46 (.agg 46 (.pair .byte .str))))], [], [4, 5, 6, 7, 8, 9, 10, 11, 12, 13, 14, 15, 16, 17, 18, 19, 20, 21, 22, 23, 24, 25, 26, 27, 28, 29, 30, 31, 32, 33, 34, 35, 36, 37, 38, 39, 40, 41, 42, 43, 44].map .s ++ [5].map .b ++ [43, 3000005].map .f⟩ (.seq (.seq (.reg [⟨none, (.mv (some 7) (.t 0))⟩,
    ⟨none, (.ln 8 none (.t 7))⟩,
    ⟨none, (.ar 9 .gtr (.t 8) (.v (.int .i64 1)))⟩,
    ⟨none, (.mv (some 10) (.t 9))⟩,
    ⟨(some (10, true)), (.mv (some 11) (.t 0))⟩,
    ⟨(some (10, true)), (.ix 12 (.t 11) (.v (.int .i64 0)))⟩,
    ⟨(some (10, true)), (.ar 13 .eql (.t 12) (.v (.int .u8 36)))⟩,
    ⟨none, (.pick 14 (.t 10) (.t 13) (.v (.bool false)))⟩])
  (.cond (.t 14)
    .skip
    (.exit 0)))
  (.block 1 (.seq (.reg [⟨none, (.mv (some 15) (.t 0))⟩,
    ⟨none, (.ix 16 (.t 15) (.v (.int .i64 1)))⟩,
    ⟨none, (.mv (some 4) (.t 16))⟩])
  (.seq (.reg [⟨none, (.mv (some 17) (.t 0))⟩,
    ⟨none, (.sc 18 none (.t 17) (some (.v (.int .i64 2))) none)⟩,
    ⟨none, (.mv (some 0) (.t 18))⟩])
  (.seq (.reg [⟨none, (.ab 5 51 5)⟩])
  (.jn ⟨[(0, (.lf .str))], [(5, (.bld 3000005 51 5))], [6, 19, 20, 21, 22, 23, 24, 25, 26, 27, 28, 29, 30, 31, 32, 33, 34, 35, 36, 37, 38].map .s⟩ (.block 2 (.loop ⟨[(0, (.lf .str))], [(5, (.bld 3000005 51 5))], [6, 19, 20, 21, 22, 23, 24, 25, 26, 27, 28, 29, 30, 31, 32, 33, 34, 35, 36, 37, 38].map .s⟩ (.jn ⟨[(22, (.lf .str)), (23, (.lf .byte)), (24, (.lf .bool)), (25, (.lf .bool)), (28, (.lf .bool))], [], [19, 20, 21, 26, 27, 29].map .s⟩ (.seq (.reg [⟨none, (.mv (some 19) (.t 0))⟩,
    ⟨none, (.ar 20 .neq (.t 19) (.v (.str [])))⟩,
    ⟨none, (.mv (some 21) (.t 20))⟩,
    ⟨(some (21, true)), (.mv (some 22) (.t 0))⟩,
    ⟨(some (21, true)), (.ix 23 (.t 22) (.v (.int .i64 0)))⟩,
    ⟨(some (21, true)), (.ar 24 .neq (.t 23) (.v (.int .u8 36)))⟩,
    ⟨(some (21, true)), (.mv (some 25) (.t 24))⟩,
    ⟨(some (25, false)), (.mv (some 26) (.t 0))⟩,
    ⟨(some (25, false)), (.ca (some 27) 72 [(.t 26), (.v (.str [36, 36]))])⟩,
    ⟨(some (21, true)), (.pick 28 (.t 25) (.v (.bool true)) (.t 27))⟩,
    ⟨none, (.pick 29 (.t 21) (.t 28) (.v (.bool false)))⟩])
  (.cond (.t 29)
    .skip
    (.exit 2)))
  (.block 3 (.seq (.reg [⟨none, (.mv (some 6) (.v (.int .i64 1)))⟩])
  (.jn ⟨[(6, (.lf (.int .i64)))], [], [30, 31, 32].map .s⟩ (.seq (.reg [⟨none, (.mv (some 30) (.t 0))⟩,
    ⟨none, (.ix 31 (.t 30) (.v (.int .i64 0)))⟩,
    ⟨none, (.ar 32 .eql (.t 31) (.v (.int .u8 36)))⟩])
  (.cond (.t 32)
    (.reg [⟨none, (.mv (some 6) (.v (.int .i64 2)))⟩])
    .skip))
  (.seq (.reg [⟨none, (.mv (some 33) (.t 0))⟩,
    ⟨none, (.ix 34 (.t 33) (.v (.int .i64 0)))⟩,
    ⟨none, (.cw (some 35) 41 .wbyte [(.t 5), (.t 34)])⟩])
  (.reg [⟨none, (.mv (some 36) (.t 0))⟩,
    ⟨none, (.mv (some 37) (.t 6))⟩,
    ⟨none, (.sc 38 none (.t 36) (some (.t 37)) none)⟩,
    ⟨none, (.mv (some 0) (.t 38))⟩]))))))))
  (.reg [⟨none, (.mv (some 39) (.t 3))⟩,
    ⟨none, (.mv (some 40) (.t 4))⟩,
    ⟨none, (.cw (some 41) 27 .str [(.t 5)])⟩,
    ⟨none, (.bd 42 46 [(.int .u8 0), (.str [])] [0, 1] [(.t 40), (.t 41)])⟩,
    ⟨none, (.bs 43 46 (some 46) [(.t 42)])⟩,
    ⟨none, (.ap 44 46 (.t 39) (.t 43))⟩,
    ⟨none, (.mv (some 3) (.t 44))⟩])))))))))
  (.seq (.reg [⟨none, (.mv (some 45) (.t 3))⟩,
    ⟨none, (.mv (some 2) (.t 45))⟩])
  .ret))))
noncomputable def ent75 : TEnt := ⟨75, [.str], (.sl 46 (.agg 46 (.pair .byte .str))), fun x => F75 x, .plain⟩
theorem eq75 (x : dens ent75.as) : ent75.F x = evF [entString, entWriteByte, entHas] SHF dc75 [(.tmp 2)] ent75.as ent75.rs x := by kernel_rfl
/-- library/field.Parse -/
noncomputable def F49 (a0 : List UInt8) : Option ((List UInt8 × List UInt8 × (List (UInt8 × List UInt8)) × Int) × Int) :=
  bindO (fSplitN a0 ([32] : List UInt8) (3 : Int)) fun y1 =>
  cond (decide ((List.length y1 : Int) < (3 : Int)))
    (some ((([] : List UInt8), ([] : List UInt8), ([] : List (UInt8 × List UInt8)), (0 : Int)), (3 : Int)))
    (gd (0 ≤ (0 : Int) ∧ (0 : Int) < (List.length y1 : Int)) <|
    bindO (fCut (List.getD y1 (Int.toNat (0 : Int)) []) ([64] : List UInt8)) fun y2 =>
    bindO (fAtoi y2.2.1) fun y3 =>
    gd (0 ≤ (1 : Int) ∧ (1 : Int) < (List.length y1 : Int)) <|
    bindO (fRepl (List.getD y1 (Int.toNat (1 : Int)) []) ([35] : List UInt8) ([32] : List UInt8)) fun y4 =>
    gd (0 ≤ (2 : Int) ∧ (2 : Int) < (List.length y1 : Int)) <|
    bindO (F75 (List.getD y1 (Int.toNat (2 : Int)) [])) fun y5 =>
    bindO (F26 (y2.1, y4, y5, y3.1)) fun y6 =>
    cond (!decide (y6.2 = (0 : Int)))
      (some ((([] : List UInt8), ([] : List UInt8), ([] : List (UInt8 × List UInt8)), (0 : Int)), (3 : Int)))
      (cond (!decide (y6.1 = a0))
        (some ((([] : List UInt8), ([] : List UInt8), ([] : List (UInt8 × List UInt8)), (0 : Int)), (3 : Int)))
        (some ((y2.1, y4, y5, y3.1), (0 : Int)))))
def dc49 : DC :=
  (.seq (.reg [⟨none, (.al 2 (.agg 44 [(.str []), (.str []), (.sl none 46 []), (.int .i64 0)]))⟩,
    ⟨none, (.mv (some 3) (.v (.int .i64 0)))⟩])
  (.seq (.reg [⟨none, (.mv (some 13) (.t 0))⟩,
    ⟨none, (.ca (some 14) 74 [(.t 13), (.v (.str [32])), (.v (.int .i64 3))])⟩,
    ⟨none, (.mv (some 4) (.t 14))⟩])
  (.seq (.seq (.reg [⟨none, (.mv (some 15) (.t 4))⟩,
    ⟨none, (.ln 16 (some 9) (.t 15))⟩,
    ⟨none, (.ar 17 .lss (.t 16) (.v (.int .i64 3)))⟩])
  (.cond (.t 17)
    (.seq (.reg [⟨none, (.bd 18 44 [(.str []), (.str []), (.sl none 46 []), (.int .i64 0)] [] [])⟩,
    ⟨none, (.st (some 44) (.t 2) (.t 18))⟩,
    ⟨none, (.mv (some 3) (.v (.int .i64 3)))⟩])
  .ret)
    .skip))
  (.seq (.reg [⟨none, (.mv (some 20) (.t 4))⟩,
    ⟨none, (.ea 21 9 (.t 20) (.v (.int .i64 0)))⟩,
    ⟨none, (.ld 22 none (.t 21))⟩,
    ⟨none, (.ca (some 23) 47 [(.t 22), (.v (.str [64]))])⟩,
    ⟨none, (.mv (some 19) (.t 23))⟩,
    ⟨none, (.ex 24 0 (.t 19))⟩,
    ⟨none, (.ex 25 1 (.t 19))⟩,
    ⟨none, (.ex 26 2 (.t 19))⟩,
    ⟨none, (.mv (some 5) (.t 24))⟩,
    ⟨none, (.mv (some 6) (.t 25))⟩,
    ⟨none, (.mv (some 7) (.t 26))⟩])
  (.seq (.reg [⟨none, (.mv (some 28) (.t 6))⟩,
    ⟨none, (.ca (some 29) 73 [(.t 28)])⟩,
    ⟨none, (.mv (some 27) (.t 29))⟩,
    ⟨none, (.ex 30 0 (.t 27))⟩,
    ⟨none, (.ex 31 1 (.t 27))⟩,
    ⟨none, (.mv (some 8) (.t 30))⟩,
    ⟨none, (.mv (some 9) (.t 31))⟩])
  (.seq (.reg [⟨none, (.mv (some 32) (.t 5))⟩,
    ⟨none, (.mv (some 33) (.t 4))⟩,
    ⟨none, (.ea 34 9 (.t 33) (.v (.int .i64 1)))⟩,
    ⟨none, (.ld 35 none (.t 34))⟩,
    ⟨none, (.ca (some 36) 40 [(.t 35), (.v (.str [35])), (.v (.str [32]))])⟩,
    ⟨none, (.mv (some 37) (.t 4))⟩,
    ⟨none, (.ea 38 9 (.t 37) (.v (.int .i64 2)))⟩,
    ⟨none, (.ld 39 none (.t 38))⟩,
    ⟨none, (.ca (some 40) 75 [(.t 39)])⟩,
    ⟨none, (.mv (some 41) (.t 8))⟩,
    ⟨none, (.bd 42 44 [(.str []), (.str []), (.sl none 46 []), (.int .i64 0)] [0, 1, 2, 3] [(.t 32), (.t 36), (.t 40), (.t 41)])⟩,
    ⟨none, (.al 10 (.agg 44 [(.str []), (.str []), (.sl none 46 []), (.int .i64 0)]))⟩,
    ⟨none, (.st (some 44) (.t 10) (.t 42))⟩])
  (.seq (.seq (.reg [⟨none, (.ld 44 (some 44) (.t 10))⟩,
    ⟨none, (.ca (some 45) 26 [(.t 44)])⟩,
    ⟨none, (.mv (some 43) (.t 45))⟩,
    ⟨none, (.ex 46 0 (.t 43))⟩,
    ⟨none, (.ex 47 1 (.t 43))⟩,
    ⟨none, (.mv (some 11) (.t 46))⟩,
    ⟨none, (.mv (some 12) (.t 47))⟩])
  (.seq (.reg [⟨none, (.mv (some 48) (.t 12))⟩,
    ⟨none, (.ar 49 .neq (.t 48) (.v (.int .i64 0)))⟩,
    ⟨none, (.mv (some 50) (.t 49))⟩,
    ⟨(some (50, false)), (.mv (some 51) (.t 11))⟩,
    ⟨(some (50, false)), (.mv (some 52) (.t 0))⟩,
    ⟨(some (50, false)), (.ar 53 .neq (.t 51) (.t 52))⟩,
    ⟨none, (.pick 54 (.t 50) (.v (.bool true)) (.t 53))⟩])
  (.cond (.t 54)
    (.seq (.reg [⟨none, (.bd 55 44 [(.str []), (.str []), (.sl none 46 []), (.int .i64 0)] [] [])⟩,
    ⟨none, (.st (some 44) (.t 2) (.t 55))⟩,
    ⟨none, (.mv (some 3) (.v (.int .i64 3)))⟩])
  .ret)
    .skip)))
  (.seq (.reg [⟨none, (.ld 56 (some 44) (.t 10))⟩,
    ⟨none, (.st (some 44) (.t 2) (.t 56))⟩,
    ⟨none, (.mv (some 3) (.v (.int .i64 0)))⟩])
  .ret))))))))
noncomputable def ent49 : TEnt := ⟨49, [.str], (.tup (.pair (.agg 44 (.pair .str (.pair .str (.pair (.sl 46 (.agg 46 (.pair .byte .str))) (.int .i64))))) (.int .i64))), fun x => F49 x, .plain⟩
theorem eq49 (x : dens ent49.as) : ent49.F x = evF [ent26, entRepl, entCut, entAtoi, entSplitN, ent75] SHF dc49 [(.cell 2 (some 44)), (.tmp 3)] ent49.as ent49.rs x := by kernel_rfl
/-- library/lines.begin -/
noncomputable def F48 (a0 : List UInt8) : Option ((Int × Int × Int × List UInt8 × List (List UInt8 × List UInt8 × (List (UInt8 × List UInt8)) × Int)) × Bool) :=
  bindO (fSplit a0 ([32] : List UInt8)) fun y1 =>
  cond (!decide ((List.length y1 : Int) = (4 : Int)))
    (some (((0 : Int), (0 : Int), (0 : Int), ([] : List UInt8), ([] : List (List UInt8 × List UInt8 × (List (UInt8 × List UInt8)) × Int))), false))
    (gd (0 ≤ (0 : Int) ∧ (0 : Int) < (List.length y1 : Int)) <|
    bindO (fHas (List.getD y1 (Int.toNat (0 : Int)) []) ([61] : List UInt8)) fun y2 =>
    cond (!y2)
      (some (((0 : Int), (0 : Int), (0 : Int), ([] : List UInt8), ([] : List (List UInt8 × List UInt8 × (List (UInt8 × List UInt8)) × Int))), false))
      (gd (0 ≤ (0 : Int) ∧ (0 : Int) < (List.length y1 : Int)) <|
      cond (decide ((6 : Int) < (List.length (List.getD y1 (Int.toNat (0 : Int)) []) : Int)))
        (some (((0 : Int), (0 : Int), (0 : Int), ([] : List UInt8), ([] : List (List UInt8 × List UInt8 × (List (UInt8 × List UInt8)) × Int))), false))
        (gd (0 ≤ (1 : Int) ∧ (1 : Int) < (List.length y1 : Int)) <|
        cond (!decide ((List.length (List.getD y1 (Int.toNat (1 : Int)) []) : Int) = (1 : Int)))
          (some (((0 : Int), (0 : Int), (0 : Int), ([] : List UInt8), ([] : List (List UInt8 × List UInt8 × (List (UInt8 × List UInt8)) × Int))), false))
          (gd (0 ≤ (0 : Int) ∧ (0 : Int) < (List.length y1 : Int)) <|
          gd (0 ≤ (1 : Int) ∧ (1 : Int) ≤ (List.length (List.getD y1 (Int.toNat (0 : Int)) []) : Int)) <|
          bnd (List.drop (Int.toNat (1 : Int)) (List.getD y1 (Int.toNat (0 : Int)) [])) fun x3 =>
          bindO (fAtoi x3) fun y4 =>
          gd (0 ≤ (1 : Int) ∧ (1 : Int) < (List.length y1 : Int)) <|
          bindO (fAtoi (List.getD y1 (Int.toNat (1 : Int)) [])) fun y5 =>
          cond (!(Option.isNone y4.2))
            (some (((0 : Int), (0 : Int), (0 : Int), ([] : List UInt8), ([] : List (List UInt8 × List UInt8 × (List (UInt8 × List UInt8)) × Int))), false))
            (cond (!(Option.isNone y5.2))
              (some (((0 : Int), (0 : Int), (0 : Int), ([] : List UInt8), ([] : List (List UInt8 × List UInt8 × (List (UInt8 × List UInt8)) × Int))), false))
              (gd (0 ≤ (3 : Int) ∧ (3 : Int) < (List.length y1 : Int)) <|
              bindO (F39) fun y6 =>
              loopK (σ := Int × (Int × Int × Int × List UInt8 × Unit)) (fun p7 againp7 =>
                cond (decide (p7.1 < (List.length y6 : Int)))
                  (gd (0 ≤ p7.1 ∧ p7.1 < (List.length y6 : Int)) <|
                  cond (decide ((0 : Int) < p7.1))
                    (gd (0 ≤ (2 : Int) ∧ (2 : Int) < (List.length y1 : Int)) <|
                    cond (decide ((List.getD y6 (Int.toNat p7.1) []) = (List.getD y1 (Int.toNat (2 : Int)) [])))
                      (bnd (IntKind.wrap .i64 (p7.1 + (1 : Int))) fun x8 =>
                      againp7 (x8, (p7.2.1, p7.2.2.1, p7.1, p7.2.2.2.2.1, ())))
                      (bnd (IntKind.wrap .i64 (p7.1 + (1 : Int))) fun x9 =>
                      againp7 (x9, (p7.2.1, p7.2.2.1, p7.2.2.2.1, p7.2.2.2.2.1, ()))))
                    (bnd (IntKind.wrap .i64 (p7.1 + (1 : Int))) fun x10 =>
                    againp7 (x10, (p7.2.1, p7.2.2.1, p7.2.2.2.1, p7.2.2.2.2.1, ()))))
                  (bindO (F23 (p7.2.1, p7.2.2.1, p7.2.2.2.1, p7.2.2.2.2.1, ([] : List (List UInt8 × List UInt8 × (List (UInt8 × List UInt8)) × Int)))) fun y11 =>
                  cond (decide (y11 = (0 : Int)))
                    (bindO (F25 (p7.2.1, p7.2.2.1, p7.2.2.2.1, p7.2.2.2.2.1, ([] : List (List UInt8 × List UInt8 × (List (UInt8 × List UInt8)) × Int)))) fun y12 =>
                    some ((p7.2.1, p7.2.2.1, p7.2.2.2.1, p7.2.2.2.2.1, ([] : List (List UInt8 × List UInt8 × (List (UInt8 × List UInt8)) × Int))), decide (y12 = a0)))
                    (some ((p7.2.1, p7.2.2.1, p7.2.2.2.1, p7.2.2.2.2.1, ([] : List (List UInt8 × List UInt8 × (List (UInt8 × List UInt8)) × Int))), false)))) ((0 : Int), (y4.1, y5.1, (0 : Int), (List.getD y1 (Int.toNat (3 : Int)) []), ()))))))))
def dc48 : DC :=
  (.seq (.reg [⟨none, (.al 2 (.agg 24 [(.int .i64 0), (.int .i64 0), (.int .i64 0), (.str []), (.sl (some 5900000) 44 [])]))⟩,
    ⟨none, (.mv (some 3) (.v (.bool false)))⟩])
  (.seq (.reg [⟨none, (.mv (some 12) (.t 0))⟩,
    ⟨none, (.ca (some 13) 71 [(.t 12), (.v (.str [32]))])⟩,
    ⟨none, (.mv (some 4) (.t 13))⟩])
  (.seq (.seq (.reg [⟨none, (.mv (some 14) (.t 4))⟩,
    ⟨none, (.ln 15 (some 9) (.t 14))⟩,
    ⟨none, (.ar 16 .neq (.t 15) (.v (.int .i64 4)))⟩,
    ⟨none, (.mv (some 17) (.t 16))⟩,
    ⟨(some (17, false)), (.mv (some 18) (.t 4))⟩,
    ⟨(some (17, false)), (.ea 19 9 (.t 18) (.v (.int .i64 0)))⟩,
    ⟨(some (17, false)), (.ld 20 none (.t 19))⟩,
    ⟨(some (17, false)), (.ca (some 21) 72 [(.t 20), (.v (.str [61]))])⟩,
    ⟨(some (17, false)), (.un 22 .not (.t 21))⟩,
    ⟨none, (.pick 23 (.t 17) (.v (.bool true)) (.t 22))⟩,
    ⟨none, (.mv (some 24) (.t 23))⟩,
    ⟨(some (24, false)), (.mv (some 25) (.t 4))⟩,
    ⟨(some (24, false)), (.ea 26 9 (.t 25) (.v (.int .i64 0)))⟩,
    ⟨(some (24, false)), (.ld 27 none (.t 26))⟩,
    ⟨(some (24, false)), (.ln 28 none (.t 27))⟩,
    ⟨(some (24, false)), (.ar 29 .gtr (.t 28) (.v (.int .i64 6)))⟩,
    ⟨none, (.pick 30 (.t 24) (.v (.bool true)) (.t 29))⟩,
    ⟨none, (.mv (some 31) (.t 30))⟩,
    ⟨(some (31, false)), (.mv (some 32) (.t 4))⟩,
    ⟨(some (31, false)), (.ea 33 9 (.t 32) (.v (.int .i64 1)))⟩,
    ⟨(some (31, false)), (.ld 34 none (.t 33))⟩,
    ⟨(some (31, false)), (.ln 35 none (.t 34))⟩,
    ⟨(some (31, false)), (.ar 36 .neq (.t 35) (.v (.int .i64 1)))⟩,
    ⟨none, (.pick 37 (.t 31) (.v (.bool true)) (.t 36))⟩])
  (.cond (.t 37)
    (.seq (.reg [⟨none, (.bd 38 24 [(.int .i64 0), (.int .i64 0), (.int .i64 0), (.str []), (.sl (some 5900000) 44 [])] [] [])⟩,
    ⟨none, (.st (some 24) (.t 2) (.t 38))⟩,
    ⟨none, (.mv (some 3) (.v (.bool false)))⟩])
  .ret)
    .skip))
  (.seq (.reg [⟨none, (.mv (some 40) (.t 4))⟩,
    ⟨none, (.ea 41 9 (.t 40) (.v (.int .i64 0)))⟩,
    ⟨none, (.ld 42 none (.t 41))⟩,
    ⟨none, (.sc 43 none (.t 42) (some (.v (.int .i64 1))) none)⟩,
    ⟨none, (.ca (some 44) 73 [(.t 43)])⟩,
    ⟨none, (.mv (some 39) (.t 44))⟩,
    ⟨none, (.ex 45 0 (.t 39))⟩,
    ⟨none, (.ex 46 1 (.t 39))⟩,
    ⟨none, (.mv (some 5) (.t 45))⟩,
    ⟨none, (.mv (some 6) (.t 46))⟩])
  (.seq (.reg [⟨none, (.mv (some 48) (.t 4))⟩,
    ⟨none, (.ea 49 9 (.t 48) (.v (.int .i64 1)))⟩,
    ⟨none, (.ld 50 none (.t 49))⟩,
    ⟨none, (.ca (some 51) 73 [(.t 50)])⟩,
    ⟨none, (.mv (some 47) (.t 51))⟩,
    ⟨none, (.ex 52 0 (.t 47))⟩,
    ⟨none, (.ex 53 1 (.t 47))⟩,
    ⟨none, (.mv (some 7) (.t 52))⟩,
    ⟨none, (.mv (some 8) (.t 53))⟩])
  (.seq (.seq (.reg [⟨none, (.mv (some 54) (.t 6))⟩,
    ⟨none, (.se 55 .ifc true (.t 54) (.v .nili))⟩,
    ⟨none, (.mv (some 56) (.t 55))⟩,
    ⟨(some (56, false)), (.mv (some 57) (.t 8))⟩,
    ⟨(some (56, false)), (.se 58 .ifc true (.t 57) (.v .nili))⟩,
    ⟨none, (.pick 59 (.t 56) (.v (.bool true)) (.t 58))⟩])
  (.cond (.t 59)
    (.seq (.reg [⟨none, (.bd 60 24 [(.int .i64 0), (.int .i64 0), (.int .i64 0), (.str []), (.sl (some 5900000) 44 [])] [] [])⟩,
    ⟨none, (.st (some 24) (.t 2) (.t 60))⟩,
    ⟨none, (.mv (some 3) (.v (.bool false)))⟩])
  .ret)
    .skip))
  (.seq (.reg [⟨none, (.mv (some 61) (.t 5))⟩,
    ⟨none, (.mv (some 62) (.t 7))⟩,
    ⟨none, (.mv (some 63) (.t 4))⟩,
    ⟨none, (.ea 64 9 (.t 63) (.v (.int .i64 3)))⟩,
    ⟨none, (.ld 65 none (.t 64))⟩,
    ⟨none, (.bd 66 24 [(.int .i64 0), (.int .i64 0), (.int .i64 0), (.str []), (.sl (some 5900000) 44 [])] [0, 1, 3] [(.t 61), (.t 62), (.t 65)])⟩,
    ⟨none, (.al 9 (.agg 24 [(.int .i64 0), (.int .i64 0), (.int .i64 0), (.str []), (.sl (some 5900000) 44 [])]))⟩,
    ⟨none, (.st (some 24) (.t 9) (.t 66))⟩])
  (.seq (.seq (.reg [⟨none, (.ca (some 67) 39 [])⟩,
    ⟨none, (.ln 68 (some 9) (.t 67))⟩,
    ⟨none, (.mv (some 69) (.v (.int .i64 0)))⟩])
  (.block 0 (.loop ⟨[(69, (.lf (.int .i64)))], [(9, (.agg 24 (.pair (.lf (.int .i64)) (.pair (.lf (.int .i64)) (.pair (.lf (.int .i64)) (.pair (.lf .str) (.con (.sl (some 5900000) 44 []))))))))], [10, 11, 70, 71, 72, 73, 74, 75, 76, 77, 78, 79, 80, 81, 82, 83, 84, 85].map .s⟩ (.seq (.reg [⟨none, (.ar 70 .lss (.t 69) (.t 68))⟩])
  (.seq (.cond (.t 70)
    .skip
    (.exit 0))
  (.seq (.block 1 (.seq (.reg [⟨none, (.mv (some 71) (.t 69))⟩,
    ⟨none, (.ea 72 9 (.t 67) (.t 69))⟩,
    ⟨none, (.ld 73 none (.t 72))⟩,
    ⟨none, (.mv (some 10) (.t 71))⟩,
    ⟨none, (.mv (some 11) (.t 73))⟩])
  (.seq (.reg [⟨none, (.mv (some 74) (.t 10))⟩,
    ⟨none, (.ar 75 .gtr (.t 74) (.v (.int .i64 0)))⟩,
    ⟨none, (.mv (some 76) (.t 75))⟩,
    ⟨(some (76, true)), (.mv (some 77) (.t 11))⟩,
    ⟨(some (76, true)), (.mv (some 78) (.t 4))⟩,
    ⟨(some (76, true)), (.ea 79 9 (.t 78) (.v (.int .i64 2)))⟩,
    ⟨(some (76, true)), (.ld 80 none (.t 79))⟩,
    ⟨(some (76, true)), (.ar 81 .eql (.t 77) (.t 80))⟩,
    ⟨none, (.pick 82 (.t 76) (.t 81) (.v (.bool false)))⟩])
  (.cond (.t 82)
    (.reg [⟨none, (.mv (some 83) (.t 10))⟩,
    ⟨none, (.fa 84 24 2 (.t 9))⟩,
    ⟨none, (.st none (.t 84) (.t 83))⟩])
    .skip))))
  (.reg [⟨none, (.ar 85 .add (.t 69) (.v (.int .i64 1)))⟩,
    ⟨none, (.mv (some 69) (.t 85))⟩])))))))
  (.seq (.reg [⟨none, (.ld 86 (some 24) (.t 9))⟩,
    ⟨none, (.ld 87 (some 24) (.t 9))⟩,
    ⟨none, (.ca (some 88) 23 [(.t 87)])⟩,
    ⟨none, (.ar 89 .eql (.t 88) (.v (.int .i64 0)))⟩,
    ⟨none, (.mv (some 90) (.t 89))⟩,
    ⟨(some (90, true)), (.ld 91 (some 24) (.t 9))⟩,
    ⟨(some (90, true)), (.ca (some 92) 25 [(.t 91)])⟩,
    ⟨(some (90, true)), (.mv (some 93) (.t 0))⟩,
    ⟨(some (90, true)), (.ar 94 .eql (.t 92) (.t 93))⟩,
    ⟨none, (.pick 95 (.t 90) (.t 94) (.v (.bool false)))⟩,
    ⟨none, (.st (some 24) (.t 2) (.t 86))⟩,
    ⟨none, (.mv (some 3) (.t 95))⟩])
  .ret)))))))))
noncomputable def ent48 : TEnt := ⟨48, [.str], (.tup (.pair (.agg 24 (.pair (.int .i64) (.pair (.int .i64) (.pair (.int .i64) (.pair .str (.sl 44 (.agg 44 (.pair .str (.pair .str (.pair (.sl 46 (.agg 46 (.pair .byte .str))) (.int .i64))))))))))) .bool)), fun x => F48 x, .plainN 0 [4]⟩
theorem eq48 (x : dens ent48.as) : ent48.F x = evFP [ent23, ent25, ent39, entSplit, entHas, entAtoi] SHF dc48 [(.cell 2 (some 24)), (.tmp 3)] ent48.as ent48.rs 0 [4] x := by kernel_rfl
/-- library/lines.next -/
noncomputable def F31 (a0 : List UInt8) : Option ((Int × Int × Int × List UInt8 × List (List UInt8 × List UInt8 × (List (UInt8 × List UInt8)) × Int)) × List UInt8 × Int × Int) :=
  bindO (fCut a0 ([10] : List UInt8)) fun y1 =>
  bindO (F48 y1.1) fun y2 =>
  gdN (List.length y2.1.2.2.2.2) (0) <|
  jn (σ := Bool) (fun nextj3 =>
    cond (!y1.2.2)
      (nextj3 true)
      (nextj3 (!y2.2))) fun j3 =>
  cond (j3)
    (some (((0 : Int), (0 : Int), (0 : Int), ([] : List UInt8), ([] : List (List UInt8 × List UInt8 × (List (UInt8 × List UInt8)) × Int))), ([] : List UInt8), (1 : Int), (3 : Int)))
    (gdN (0) (List.length ([] : List (List UInt8 × List UInt8 × (List (UInt8 × List UInt8)) × Int))) <|
    loopK (σ := Int × List UInt8 × (Int × Int × Int × List UInt8 × List (List UInt8 × List UInt8 × (List (UInt8 × List UInt8)) × Int)) × (Int × Int × Int × List UInt8 × List (List UInt8 × List UInt8 × (List (UInt8 × List UInt8)) × Int))) (fun p4 againp4 =>
      bnd (IntKind.wrap .i64 (p4.1 + (1 : Int))) fun x5 =>
      bindO (fCut p4.2.1 ([10] : List UInt8)) fun y6 =>
      cond (decide (y6.1 = ([] : List UInt8)))
        (cond (!y6.2.2)
          (some (((0 : Int), (0 : Int), (0 : Int), ([] : List UInt8), ([] : List (List UInt8 × List UInt8 × (List (UInt8 × List UInt8)) × Int))), ([] : List UInt8), x5, (3 : Int)))
          (some ((p4.2.2.2.1, p4.2.2.2.2.1, p4.2.2.2.2.2.1, p4.2.2.2.2.2.2.1, p4.2.2.2.2.2.2.2), y6.2.1, x5, (0 : Int))))
        (cond (decide ((64 : Int) ≤ (List.length p4.2.2.2.2.2.2.2 : Int)))
          (some (((0 : Int), (0 : Int), (0 : Int), ([] : List UInt8), ([] : List (List UInt8 × List UInt8 × (List (UInt8 × List UInt8)) × Int))), ([] : List UInt8), x5, (4 : Int)))
          (bindO (F49 y6.1) fun y7 =>
          jn (σ := Bool) (fun nextj8 =>
            cond (!y6.2.2)
              (nextj8 true)
              (nextj8 (!decide (y7.2 = (0 : Int))))) fun j8 =>
          cond (j8)
            (some (((0 : Int), (0 : Int), (0 : Int), ([] : List UInt8), ([] : List (List UInt8 × List UInt8 × (List (UInt8 × List UInt8)) × Int))), ([] : List UInt8), x5, (3 : Int)))
            (gdN (List.length p4.2.2.2.2.2.2.2) (List.length p4.2.2.2.2.2.2.2) <|
            gd (List.length p4.2.2.2.2.2.2.2 + List.length [y7.1] ≤ big) <|
            bnd (p4.2.2.2.2.2.2.2 ++ [y7.1]) fun l9 =>
            gdN (List.length l9) (List.length l9) <|
            againp4 (x5, y6.2.1, p4.2.2.1, (p4.2.2.2.1, p4.2.2.2.2.1, p4.2.2.2.2.2.1, p4.2.2.2.2.2.2.1, l9)))))) ((1 : Int), y1.2.1, ((0 : Int), (0 : Int), (0 : Int), ([] : List UInt8), ([] : List (List UInt8 × List UInt8 × (List (UInt8 × List UInt8)) × Int))), (y2.1.1, y2.1.2.1, y2.1.2.2.1, y2.1.2.2.2.1, ([] : List (List UInt8 × List UInt8 × (List (UInt8 × List UInt8)) × Int)))))
def dc31 : DC :=
  (.seq (.reg [⟨none, (.al 2 (.agg 24 [(.int .i64 0), (.int .i64 0), (.int .i64 0), (.str []), (.sl none 44 [])]))⟩,
    ⟨none, (.mv (some 3) (.v (.str [])))⟩,
    ⟨none, (.mv (some 4) (.v (.int .i64 0)))⟩,
    ⟨none, (.mv (some 5) (.v (.int .i64 0)))⟩])
  (.seq (.reg [⟨none, (.mv (some 6) (.v (.int .i64 1)))⟩])
  (.seq (.reg [⟨none, (.mv (some 15) (.t 0))⟩,
    ⟨none, (.ca (some 16) 47 [(.t 15), (.v (.str [10]))])⟩,
    ⟨none, (.mv (some 14) (.t 16))⟩,
    ⟨none, (.ex 17 0 (.t 14))⟩,
    ⟨none, (.ex 18 1 (.t 14))⟩,
    ⟨none, (.ex 19 2 (.t 14))⟩,
    ⟨none, (.mv (some 7) (.t 17))⟩,
    ⟨none, (.mv (some 8) (.t 18))⟩,
    ⟨none, (.mv (some 9) (.t 19))⟩])
  (.seq (.reg [⟨none, (.mv (some 21) (.t 7))⟩,
    ⟨none, (.ca (some 22) 48 [(.t 21)])⟩,
    ⟨none, (.mv (some 20) (.t 22))⟩,
    ⟨none, (.ex 23 0 (.t 20))⟩,
    ⟨none, (.ex 24 1 (.t 20))⟩,
    ⟨none, (.al 10 (.agg 24 [(.int .i64 0), (.int .i64 0), (.int .i64 0), (.str []), (.sl none 44 [])]))⟩,
    ⟨none, (.st (some 24) (.t 10) (.t 23))⟩,
    ⟨none, (.mv (some 11) (.t 24))⟩])
  (.seq (.jn ⟨[(30, (.lf .bool))], [], [25, 26, 27, 28, 29].map .s⟩ (.reg [⟨none, (.mv (some 25) (.t 9))⟩,
    ⟨none, (.un 26 .not (.t 25))⟩,
    ⟨none, (.mv (some 27) (.t 26))⟩,
    ⟨(some (27, false)), (.mv (some 28) (.t 11))⟩,
    ⟨(some (27, false)), (.un 29 .not (.t 28))⟩,
    ⟨none, (.pick 30 (.t 27) (.v (.bool true)) (.t 29))⟩])
  (.cond (.t 30)
    (.seq (.reg [⟨none, (.bd 31 24 [(.int .i64 0), (.int .i64 0), (.int .i64 0), (.str []), (.sl none 44 [])] [] [])⟩,
    ⟨none, (.mv (some 32) (.t 6))⟩,
    ⟨none, (.st (some 24) (.t 2) (.t 31))⟩,
    ⟨none, (.mv (some 3) (.v (.str [])))⟩,
    ⟨none, (.mv (some 4) (.t 32))⟩,
    ⟨none, (.mv (some 5) (.v (.int .i64 3)))⟩])
  .ret)
    .skip))
  (.seq (.seq (.gh 6001004 [])
  (.block 0 (.loop ⟨[(6, (.lf (.int .i64))), (8, (.lf .str))], [(2, (.lf (.agg 24 (.pair (.int .i64) (.pair (.int .i64) (.pair (.int .i64) (.pair .str (.sl 44 (.agg 44 (.pair .str (.pair .str (.pair (.sl 46 (.agg 46 (.pair .byte .str))) (.int .i64))))))))))))), (10, (.agg 24 (.pair (.lf (.int .i64)) (.pair (.lf (.int .i64)) (.pair (.lf (.int .i64)) (.pair (.lf .str) (.row 6001004 44 (.agg 44 (.pair .str (.pair .str (.pair (.sl 46 (.agg 46 (.pair .byte .str))) (.int .i64))))))))))))], [3, 4, 5, 7, 9, 12, 13, 33, 34, 35, 36, 37, 38, 39, 40, 41, 42, 43, 44, 45, 46, 47, 48, 49, 50, 51, 52, 53, 54, 55, 56, 57, 58, 59, 60, 61, 62, 63, 64, 65, 66, 67].map .s ++ [12].map .b ++ [65].map .f⟩ (.block 1 (.seq (.reg [⟨none, (.mv (some 33) (.t 6))⟩,
    ⟨none, (.ar 34 .add (.t 33) (.v (.int .i64 1)))⟩,
    ⟨none, (.mv (some 6) (.t 34))⟩])
  (.seq (.reg [⟨none, (.mv (some 36) (.t 8))⟩,
    ⟨none, (.ca (some 37) 47 [(.t 36), (.v (.str [10]))])⟩,
    ⟨none, (.mv (some 35) (.t 37))⟩,
    ⟨none, (.ex 38 0 (.t 35))⟩,
    ⟨none, (.ex 39 1 (.t 35))⟩,
    ⟨none, (.ex 40 2 (.t 35))⟩,
    ⟨none, (.mv (some 7) (.t 38))⟩,
    ⟨none, (.mv (some 8) (.t 39))⟩,
    ⟨none, (.mv (some 9) (.t 40))⟩])
  (.seq (.seq (.reg [⟨none, (.mv (some 41) (.t 7))⟩,
    ⟨none, (.ar 42 .eql (.t 41) (.v (.str [])))⟩])
  (.cond (.t 42)
    (.exit 0)
    .skip))
  (.seq (.seq (.reg [⟨none, (.fa 43 24 4 (.t 10))⟩,
    ⟨none, (.ld 44 none (.t 43))⟩,
    ⟨none, (.ln 45 (some 44) (.t 44))⟩,
    ⟨none, (.ar 46 .geq (.t 45) (.v (.int .i64 64)))⟩])
  (.cond (.t 46)
    (.seq (.reg [⟨none, (.bd 47 24 [(.int .i64 0), (.int .i64 0), (.int .i64 0), (.str []), (.sl none 44 [])] [] [])⟩,
    ⟨none, (.mv (some 48) (.t 6))⟩,
    ⟨none, (.st (some 24) (.t 2) (.t 47))⟩,
    ⟨none, (.mv (some 3) (.v (.str [])))⟩,
    ⟨none, (.mv (some 4) (.t 48))⟩,
    ⟨none, (.mv (some 5) (.v (.int .i64 4)))⟩])
  .ret)
    .skip))
  (.seq (.reg [⟨none, (.mv (some 50) (.t 7))⟩,
    ⟨none, (.ca (some 51) 49 [(.t 50)])⟩,
    ⟨none, (.mv (some 49) (.t 51))⟩,
    ⟨none, (.ex 52 0 (.t 49))⟩,
    ⟨none, (.ex 53 1 (.t 49))⟩,
    ⟨none, (.al 12 (.agg 44 [(.str []), (.str []), (.sl none 46 []), (.int .i64 0)]))⟩,
    ⟨none, (.st (some 44) (.t 12) (.t 52))⟩,
    ⟨none, (.mv (some 13) (.t 53))⟩])
  (.seq (.jn ⟨[(59, (.lf .bool))], [], [54, 55, 56, 57, 58].map .s⟩ (.reg [⟨none, (.mv (some 54) (.t 9))⟩,
    ⟨none, (.un 55 .not (.t 54))⟩,
    ⟨none, (.mv (some 56) (.t 55))⟩,
    ⟨(some (56, false)), (.mv (some 57) (.t 13))⟩,
    ⟨(some (56, false)), (.ar 58 .neq (.t 57) (.v (.int .i64 0)))⟩,
    ⟨none, (.pick 59 (.t 56) (.v (.bool true)) (.t 58))⟩])
  (.cond (.t 59)
    (.seq (.reg [⟨none, (.bd 60 24 [(.int .i64 0), (.int .i64 0), (.int .i64 0), (.str []), (.sl none 44 [])] [] [])⟩,
    ⟨none, (.mv (some 61) (.t 6))⟩,
    ⟨none, (.st (some 24) (.t 2) (.t 60))⟩,
    ⟨none, (.mv (some 3) (.v (.str [])))⟩,
    ⟨none, (.mv (some 4) (.t 61))⟩,
    ⟨none, (.mv (some 5) (.v (.int .i64 3)))⟩])
  .ret)
    .skip))
  (.reg [⟨none, (.fa 62 24 4 (.t 10))⟩,
    ⟨none, (.ld 63 none (.t 62))⟩,
    ⟨none, (.ld 64 (some 44) (.t 12))⟩,
    ⟨none, (.bs 65 44 (some 44) [(.t 64)])⟩,
    ⟨none, (.ap 66 44 (.t 63) (.t 65))⟩,
    ⟨none, (.fa 67 24 4 (.t 10))⟩,
    ⟨none, (.st none (.t 67) (.t 66))⟩])))))))))))
  (.seq (.seq (.reg [⟨none, (.mv (some 68) (.t 9))⟩,
    ⟨none, (.un 69 .not (.t 68))⟩])
  (.cond (.t 69)
    (.seq (.reg [⟨none, (.bd 70 24 [(.int .i64 0), (.int .i64 0), (.int .i64 0), (.str []), (.sl none 44 [])] [] [])⟩,
    ⟨none, (.mv (some 71) (.t 6))⟩,
    ⟨none, (.st (some 24) (.t 2) (.t 70))⟩,
    ⟨none, (.mv (some 3) (.v (.str [])))⟩,
    ⟨none, (.mv (some 4) (.t 71))⟩,
    ⟨none, (.mv (some 5) (.v (.int .i64 3)))⟩])
  .ret)
    .skip))
  (.seq (.reg [⟨none, (.ld 72 (some 24) (.t 10))⟩,
    ⟨none, (.mv (some 73) (.t 8))⟩,
    ⟨none, (.mv (some 74) (.t 6))⟩,
    ⟨none, (.st (some 24) (.t 2) (.t 72))⟩,
    ⟨none, (.mv (some 3) (.t 73))⟩,
    ⟨none, (.mv (some 4) (.t 74))⟩,
    ⟨none, (.mv (some 5) (.v (.int .i64 0)))⟩])
  .ret))))))))
noncomputable def ent31 : TEnt := ⟨31, [.str], (.tup (.pair (.agg 24 (.pair (.int .i64) (.pair (.int .i64) (.pair (.int .i64) (.pair .str (.sl 44 (.agg 44 (.pair .str (.pair .str (.pair (.sl 46 (.agg 46 (.pair .byte .str))) (.int .i64))))))))))) (.pair .str (.pair (.int .i64) (.int .i64))))), fun x => F31 x, .plain⟩
theorem eq31 (x : dens ent31.as) : ent31.F x = evF [entCut, ent48, ent49] SHF dc31 [(.cell 2 (some 24)), (.tmp 3), (.tmp 4), (.tmp 5)] ent31.as ent31.rs x := by kernel_rfl
/-- library/lines.Parse -/
noncomputable def F13 (a0 : List UInt8) : Option ((Int × Int × Int × List UInt8 × List (List UInt8 × List UInt8 × (List (UInt8 × List UInt8)) × Int)) × Int × Int) :=
  bindO (F31 a0) fun y1 =>
  cond (!decide (y1.2.2.2 = (0 : Int)))
    (some (((0 : Int), (0 : Int), (0 : Int), ([] : List UInt8), ([] : List (List UInt8 × List UInt8 × (List (UInt8 × List UInt8)) × Int))), y1.2.2.1, y1.2.2.2))
    (cond (!decide (y1.2.1 = ([] : List UInt8)))
      (bnd (IntKind.wrap .i64 (y1.2.2.1 + (1 : Int))) fun x2 =>
      some (((0 : Int), (0 : Int), (0 : Int), ([] : List UInt8), ([] : List (List UInt8 × List UInt8 × (List (UInt8 × List UInt8)) × Int))), x2, (3 : Int)))
      (some (y1.1, (0 : Int), (0 : Int))))
def dc13 : DC :=
  (.seq (.reg [⟨none, (.al 2 (.agg 24 [(.int .i64 0), (.int .i64 0), (.int .i64 0), (.str []), (.sl none 44 [])]))⟩,
    ⟨none, (.mv (some 3) (.v (.int .i64 0)))⟩,
    ⟨none, (.mv (some 4) (.v (.int .i64 0)))⟩])
  (.seq (.reg [⟨none, (.mv (some 10) (.t 0))⟩,
    ⟨none, (.ca (some 11) 31 [(.t 10)])⟩,
    ⟨none, (.mv (some 9) (.t 11))⟩,
    ⟨none, (.ex 12 0 (.t 9))⟩,
    ⟨none, (.ex 13 1 (.t 9))⟩,
    ⟨none, (.ex 14 2 (.t 9))⟩,
    ⟨none, (.ex 15 3 (.t 9))⟩,
    ⟨none, (.al 5 (.agg 24 [(.int .i64 0), (.int .i64 0), (.int .i64 0), (.str []), (.sl none 44 [])]))⟩,
    ⟨none, (.st (some 24) (.t 5) (.t 12))⟩,
    ⟨none, (.mv (some 6) (.t 13))⟩,
    ⟨none, (.mv (some 7) (.t 14))⟩,
    ⟨none, (.mv (some 8) (.t 15))⟩])
  (.seq (.seq (.reg [⟨none, (.mv (some 16) (.t 8))⟩,
    ⟨none, (.ar 17 .neq (.t 16) (.v (.int .i64 0)))⟩])
  (.cond (.t 17)
    (.seq (.reg [⟨none, (.bd 18 24 [(.int .i64 0), (.int .i64 0), (.int .i64 0), (.str []), (.sl none 44 [])] [] [])⟩,
    ⟨none, (.mv (some 19) (.t 7))⟩,
    ⟨none, (.mv (some 20) (.t 8))⟩,
    ⟨none, (.st (some 24) (.t 2) (.t 18))⟩,
    ⟨none, (.mv (some 3) (.t 19))⟩,
    ⟨none, (.mv (some 4) (.t 20))⟩])
  .ret)
    .skip))
  (.seq (.seq (.reg [⟨none, (.mv (some 21) (.t 6))⟩,
    ⟨none, (.ar 22 .neq (.t 21) (.v (.str [])))⟩])
  (.cond (.t 22)
    (.seq (.reg [⟨none, (.bd 23 24 [(.int .i64 0), (.int .i64 0), (.int .i64 0), (.str []), (.sl none 44 [])] [] [])⟩,
    ⟨none, (.mv (some 24) (.t 7))⟩,
    ⟨none, (.ar 25 .add (.t 24) (.v (.int .i64 1)))⟩,
    ⟨none, (.st (some 24) (.t 2) (.t 23))⟩,
    ⟨none, (.mv (some 3) (.t 25))⟩,
    ⟨none, (.mv (some 4) (.v (.int .i64 3)))⟩])
  .ret)
    .skip))
  (.seq (.reg [⟨none, (.ld 26 (some 24) (.t 5))⟩,
    ⟨none, (.st (some 24) (.t 2) (.t 26))⟩,
    ⟨none, (.mv (some 3) (.v (.int .i64 0)))⟩,
    ⟨none, (.mv (some 4) (.v (.int .i64 0)))⟩])
  .ret)))))
noncomputable def ent13 : TEnt := ⟨13, [.str], (.tup (.pair (.agg 24 (.pair (.int .i64) (.pair (.int .i64) (.pair (.int .i64) (.pair .str (.sl 44 (.agg 44 (.pair .str (.pair .str (.pair (.sl 46 (.agg 46 (.pair .byte .str))) (.int .i64))))))))))) (.pair (.int .i64) (.int .i64)))), fun x => F13 x, .plain⟩
theorem eq13 (x : dens ent13.as) : ent13.F x = evF [ent31] SHF dc13 [(.cell 2 (some 24)), (.tmp 3), (.tmp 4)] ent13.as ent13.rs x := by kernel_rfl
/-- library/lines.ParseAll -/
noncomputable def F16 (a0 : List UInt8) : Option ((List (Int × Int × Int × List UInt8 × List (List UInt8 × List UInt8 × (List (UInt8 × List UInt8)) × Int))) × Int × Int) :=
  jn (σ := Unit) (fun nextj1 =>
    nextj1 ()) fun j1 =>
  cond (decide ((65536 : Int) < (List.length a0 : Int)))
    (some (([] : List (Int × Int × Int × List UInt8 × List (List UInt8 × List UInt8 × (List (UInt8 × List UInt8)) × Int))), (0 : Int), (4 : Int)))
    (gdN (List.length ([] : List (Int × Int × Int × List UInt8 × List (List UInt8 × List UInt8 × (List (UInt8 × List UInt8)) × Int)))) (List.length ([] : List (Int × Int × Int × List UInt8 × List (List UInt8 × List UInt8 × (List (UInt8 × List UInt8)) × Int)))) <|
    loopK (σ := List UInt8 × (List (Int × Int × Int × List UInt8 × List (List UInt8 × List UInt8 × (List (UInt8 × List UInt8)) × Int))) × Int) (fun p2 againp2 =>
      cond (!decide (p2.1 = ([] : List UInt8)))
        (cond (decide ((64 : Int) ≤ (List.length p2.2.1 : Int)))
          (bnd (IntKind.wrap .i64 (p2.2.2 + (1 : Int))) fun x3 =>
          some (([] : List (Int × Int × Int × List UInt8 × List (List UInt8 × List UInt8 × (List (UInt8 × List UInt8)) × Int))), x3, (13 : Int)))
          (bindO (F31 p2.1) fun y4 =>
          cond (!decide (y4.2.2.2 = (0 : Int)))
            (bnd (IntKind.wrap .i64 (p2.2.2 + y4.2.2.1)) fun x5 =>
            some (([] : List (Int × Int × Int × List UInt8 × List (List UInt8 × List UInt8 × (List (UInt8 × List UInt8)) × Int))), x5, y4.2.2.2))
            (gdN (List.length p2.2.1) (List.length p2.2.1) <|
            gd (List.length p2.2.1 + List.length [y4.1] ≤ big) <|
            bnd (p2.2.1 ++ [y4.1]) fun l6 =>
            bnd (IntKind.wrap .i64 (p2.2.2 + y4.2.2.1)) fun x7 =>
            gdN (List.length l6) (List.length l6) <|
            againp2 (y4.2.1, l6, x7))))
        (some (p2.2.1, (0 : Int), (0 : Int)))) (a0, ([] : List (Int × Int × Int × List UInt8 × List (List UInt8 × List UInt8 × (List (UInt8 × List UInt8)) × Int))), (0 : Int)))
def dc16 : DC :=
  (.jn ⟨[], [], [2, 3, 4].map .s ++ [2].map .f⟩ (.reg [⟨none, (.nl 2 24)⟩,
    ⟨none, (.mv (some 3) (.v (.int .i64 0)))⟩,
    ⟨none, (.mv (some 4) (.v (.int .i64 0)))⟩])
  (.seq (.seq (.reg [⟨none, (.mv (some 11) (.t 0))⟩,
    ⟨none, (.ln 12 none (.t 11))⟩,
    ⟨none, (.ar 13 .gtr (.t 12) (.v (.int .i64 65536)))⟩])
  (.cond (.t 13)
    (.seq (.reg [⟨none, (.nl 2 24)⟩,
    ⟨none, (.mv (some 3) (.v (.int .i64 0)))⟩,
    ⟨none, (.mv (some 4) (.v (.int .i64 4)))⟩])
  .ret)
    .skip))
  (.seq (.reg [⟨none, (.nl 5 24)⟩])
  (.seq (.reg [⟨none, (.mv (some 6) (.v (.int .i64 0)))⟩])
  (.seq (.block 0 (.loop ⟨[(0, (.lf .str)), (5, (.row 5 24 (.agg 24 (.pair (.int .i64) (.pair (.int .i64) (.pair (.int .i64) (.pair .str (.sl 44 (.agg 44 (.pair .str (.pair .str (.pair (.sl 46 (.agg 46 (.pair .byte .str))) (.int .i64))))))))))))), (6, (.lf (.int .i64)))], [], [2, 3, 4, 7, 8, 9, 10, 14, 15, 16, 17, 18, 19, 20, 21, 22, 23, 24, 25, 26, 27, 28, 29, 30, 31, 32, 33, 34, 35, 36, 37, 38, 39, 40, 41].map .s ++ [7].map .b ++ [2, 36].map .f⟩ (.seq (.seq (.reg [⟨none, (.mv (some 14) (.t 0))⟩,
    ⟨none, (.ar 15 .neq (.t 14) (.v (.str [])))⟩])
  (.cond (.t 15)
    .skip
    (.exit 0)))
  (.block 1 (.seq (.seq (.reg [⟨none, (.mv (some 16) (.t 5))⟩,
    ⟨none, (.ln 17 (some 24) (.t 16))⟩,
    ⟨none, (.ar 18 .geq (.t 17) (.v (.int .i64 64)))⟩])
  (.cond (.t 18)
    (.seq (.reg [⟨none, (.mv (some 19) (.t 6))⟩,
    ⟨none, (.ar 20 .add (.t 19) (.v (.int .i64 1)))⟩,
    ⟨none, (.nl 2 24)⟩,
    ⟨none, (.mv (some 3) (.t 20))⟩,
    ⟨none, (.mv (some 4) (.v (.int .i64 13)))⟩])
  .ret)
    .skip))
  (.seq (.reg [⟨none, (.mv (some 22) (.t 0))⟩,
    ⟨none, (.ca (some 23) 31 [(.t 22)])⟩,
    ⟨none, (.mv (some 21) (.t 23))⟩,
    ⟨none, (.ex 24 0 (.t 21))⟩,
    ⟨none, (.ex 25 1 (.t 21))⟩,
    ⟨none, (.ex 26 2 (.t 21))⟩,
    ⟨none, (.ex 27 3 (.t 21))⟩,
    ⟨none, (.al 7 (.agg 24 [(.int .i64 0), (.int .i64 0), (.int .i64 0), (.str []), (.sl none 44 [])]))⟩,
    ⟨none, (.st (some 24) (.t 7) (.t 24))⟩,
    ⟨none, (.mv (some 8) (.t 25))⟩,
    ⟨none, (.mv (some 9) (.t 26))⟩,
    ⟨none, (.mv (some 10) (.t 27))⟩])
  (.seq (.seq (.reg [⟨none, (.mv (some 28) (.t 10))⟩,
    ⟨none, (.ar 29 .neq (.t 28) (.v (.int .i64 0)))⟩])
  (.cond (.t 29)
    (.seq (.reg [⟨none, (.mv (some 30) (.t 6))⟩,
    ⟨none, (.mv (some 31) (.t 9))⟩,
    ⟨none, (.ar 32 .add (.t 30) (.t 31))⟩,
    ⟨none, (.mv (some 33) (.t 10))⟩,
    ⟨none, (.nl 2 24)⟩,
    ⟨none, (.mv (some 3) (.t 32))⟩,
    ⟨none, (.mv (some 4) (.t 33))⟩])
  .ret)
    .skip))
  (.reg [⟨none, (.mv (some 34) (.t 5))⟩,
    ⟨none, (.ld 35 (some 24) (.t 7))⟩,
    ⟨none, (.bs 36 24 (some 24) [(.t 35)])⟩,
    ⟨none, (.ap 37 24 (.t 34) (.t 36))⟩,
    ⟨none, (.mv (some 38) (.t 8))⟩,
    ⟨none, (.mv (some 39) (.t 6))⟩,
    ⟨none, (.mv (some 40) (.t 9))⟩,
    ⟨none, (.ar 41 .add (.t 39) (.t 40))⟩,
    ⟨none, (.mv (some 5) (.t 37))⟩,
    ⟨none, (.mv (some 0) (.t 38))⟩,
    ⟨none, (.mv (some 6) (.t 41))⟩]))))))))
  (.seq (.reg [⟨none, (.mv (some 42) (.t 5))⟩,
    ⟨none, (.mv (some 2) (.t 42))⟩,
    ⟨none, (.mv (some 3) (.v (.int .i64 0)))⟩,
    ⟨none, (.mv (some 4) (.v (.int .i64 0)))⟩])
  .ret))))))
noncomputable def ent16 : TEnt := ⟨16, [.str], (.tup (.pair (.sl 24 (.agg 24 (.pair (.int .i64) (.pair (.int .i64) (.pair (.int .i64) (.pair .str (.sl 44 (.agg 44 (.pair .str (.pair .str (.pair (.sl 46 (.agg 46 (.pair .byte .str))) (.int .i64)))))))))))) (.pair (.int .i64) (.int .i64)))), fun x => F16 x, .plain⟩
theorem eq16 (x : dens ent16.as) : ent16.F x = evF [ent31] SHF dc16 [(.tmp 2), (.tmp 3), (.tmp 4)] ent16.as ent16.rs x := by kernel_rfl
/-- library/lines.PrintAll -/
noncomputable def F20 (a0 : List (Int × Int × Int × List UInt8 × List (List UInt8 × List UInt8 × (List (UInt8 × List UInt8)) × Int))) : Option (List UInt8 × Int) :=
  cond (decide ((64 : Int) < (List.length a0 : Int)))
    (some (([] : List UInt8), (13 : Int)))
    (gdN (0) (List.length ([] : List UInt8)) <|
    loopK (σ := Int × List UInt8) (fun p1 againp1 =>
      cond (decide (p1.1 < (List.length a0 : Int)))
        (gd (0 ≤ p1.1 ∧ p1.1 < (List.length a0 : Int)) <|
        bindO (F11 (List.getD a0 (Int.toNat p1.1) (0, (0, (0, ([], [])))))) fun y2 =>
        cond (!decide (y2.2 = (0 : Int)))
          (some (([] : List UInt8), y2.2))
          (gdN (List.length p1.2) (List.length p1.2) <|
          gd (List.length p1.2 + List.length y2.1 ≤ big) <|
          bnd (p1.2 ++ y2.1) fun b3 =>
          bnd (IntKind.wrap .i64 (p1.1 + (1 : Int))) fun x4 =>
          gdN (List.length b3) (List.length b3) <|
          againp1 (x4, b3)))
        (gdN (List.length p1.2) (List.length p1.2) <|
        cond (decide ((65536 : Int) < (List.length p1.2 : Int)))
          (some (([] : List UInt8), (4 : Int)))
          (gdN (List.length p1.2) (List.length p1.2) <|
          some (p1.2, (0 : Int))))) ((0 : Int), ([] : List UInt8)))
def dc20 : DC :=
  (.seq (.reg [⟨none, (.mv (some 2) (.v (.str [])))⟩,
    ⟨none, (.mv (some 3) (.v (.int .i64 0)))⟩])
  (.seq (.seq (.reg [⟨none, (.mv (some 9) (.t 0))⟩,
    ⟨none, (.ln 10 (some 24) (.t 9))⟩,
    ⟨none, (.ar 11 .gtr (.t 10) (.v (.int .i64 64)))⟩])
  (.cond (.t 11)
    (.seq (.reg [⟨none, (.mv (some 2) (.v (.str [])))⟩,
    ⟨none, (.mv (some 3) (.v (.int .i64 13)))⟩])
  .ret)
    .skip))
  (.seq (.reg [⟨none, (.ab 4 51 5)⟩])
  (.seq (.seq (.reg [⟨none, (.mv (some 12) (.t 0))⟩,
    ⟨none, (.ln 13 (some 24) (.t 12))⟩,
    ⟨none, (.mv (some 14) (.v (.int .i64 0)))⟩])
  (.block 0 (.loop ⟨[(14, (.lf (.int .i64)))], [(4, (.bld 3000004 51 5))], [2, 3, 6, 7, 8, 15, 16, 17, 18, 19, 20, 21, 22, 23, 24, 25, 26, 27, 28].map .s ++ [6].map .b⟩ (.seq (.reg [⟨none, (.ar 15 .lss (.t 14) (.t 13))⟩])
  (.seq (.cond (.t 15)
    .skip
    (.exit 0))
  (.seq (.block 1 (.seq (.reg [⟨none, (.ea 16 24 (.t 12) (.t 14))⟩,
    ⟨none, (.ld 17 (some 24) (.t 16))⟩,
    ⟨none, (.al 6 (.agg 24 [(.int .i64 0), (.int .i64 0), (.int .i64 0), (.str []), (.sl none 44 [])]))⟩,
    ⟨none, (.st (some 24) (.t 6) (.t 17))⟩])
  (.seq (.reg [⟨none, (.ld 19 (some 24) (.t 6))⟩,
    ⟨none, (.ca (some 20) 11 [(.t 19)])⟩,
    ⟨none, (.mv (some 18) (.t 20))⟩,
    ⟨none, (.ex 21 0 (.t 18))⟩,
    ⟨none, (.ex 22 1 (.t 18))⟩,
    ⟨none, (.mv (some 7) (.t 21))⟩,
    ⟨none, (.mv (some 8) (.t 22))⟩])
  (.seq (.seq (.reg [⟨none, (.mv (some 23) (.t 8))⟩,
    ⟨none, (.ar 24 .neq (.t 23) (.v (.int .i64 0)))⟩])
  (.cond (.t 24)
    (.seq (.reg [⟨none, (.mv (some 25) (.t 8))⟩,
    ⟨none, (.mv (some 2) (.v (.str [])))⟩,
    ⟨none, (.mv (some 3) (.t 25))⟩])
  .ret)
    .skip))
  (.reg [⟨none, (.mv (some 26) (.t 7))⟩,
    ⟨none, (.cw (some 27) 24 .wstr [(.t 4), (.t 26)])⟩])))))
  (.reg [⟨none, (.ar 28 .add (.t 14) (.v (.int .i64 1)))⟩,
    ⟨none, (.mv (some 14) (.t 28))⟩])))))))
  (.seq (.seq (.reg [⟨none, (.cw (some 29) 34 .len [(.t 4)])⟩,
    ⟨none, (.ar 30 .gtr (.t 29) (.v (.int .i64 65536)))⟩])
  (.cond (.t 30)
    (.seq (.reg [⟨none, (.mv (some 2) (.v (.str [])))⟩,
    ⟨none, (.mv (some 3) (.v (.int .i64 4)))⟩])
  .ret)
    .skip))
  (.seq (.reg [⟨none, (.cw (some 31) 27 .str [(.t 4)])⟩,
    ⟨none, (.mv (some 2) (.t 31))⟩,
    ⟨none, (.mv (some 3) (.v (.int .i64 0)))⟩])
  .ret))))))
noncomputable def ent20 : TEnt := ⟨20, [(.sl 24 (.agg 24 (.pair (.int .i64) (.pair (.int .i64) (.pair (.int .i64) (.pair .str (.sl 44 (.agg 44 (.pair .str (.pair .str (.pair (.sl 46 (.agg 46 (.pair .byte .str))) (.int .i64))))))))))))], (.tup (.pair .str (.int .i64))), fun x => F20 x, .plain⟩
theorem eq20 (x : dens ent20.as) : ent20.F x = evF [ent11, entWriteString, entString, entLen] SHF dc20 [(.tmp 2), (.tmp 3)] ent20.as ent20.rs x := by kernel_rfl
/-- library/libraryref07.digit -/
noncomputable def F67 (a0 : UInt8) : Option (Bool) :=
  cond (decide ((48 : Int) ≤ (UInt8.toNat a0 : Int)))
    (some (decide ((UInt8.toNat a0 : Int) ≤ (57 : Int))))
    (some false)
def dc67 : DC :=
  (.seq (.reg [⟨none, (.mv (some 2) (.v (.bool false)))⟩])
  (.seq (.reg [⟨none, (.mv (some 3) (.t 0))⟩,
    ⟨none, (.ar 4 .geq (.t 3) (.v (.int .u8 48)))⟩,
    ⟨none, (.mv (some 5) (.t 4))⟩,
    ⟨(some (5, true)), (.mv (some 6) (.t 0))⟩,
    ⟨(some (5, true)), (.ar 7 .leq (.t 6) (.v (.int .u8 57)))⟩,
    ⟨none, (.pick 8 (.t 5) (.t 7) (.v (.bool false)))⟩,
    ⟨none, (.mv (some 2) (.t 8))⟩])
  .ret))
noncomputable def ent67 : TEnt := ⟨67, [.byte], .bool, fun x => F67 x, .plain⟩
theorem eq67 (x : dens ent67.as) : ent67.F x = evF [] SHF dc67 [(.tmp 2)] ent67.as ent67.rs x := by kernel_rfl
/-- library/libraryref07.Tag -/
noncomputable def F66 (a0 : List UInt8) : Option (Bool) :=
  cond (decide ((List.length a0 : Int) = (3 : Int)))
    (gd (0 ≤ (0 : Int) ∧ (0 : Int) < (List.length a0 : Int)) <|
    bindO (F67 (List.getD a0 (Int.toNat (0 : Int)) 0)) fun y1 =>
    cond (y1)
      (gd (0 ≤ (1 : Int) ∧ (1 : Int) < (List.length a0 : Int)) <|
      bindO (F67 (List.getD a0 (Int.toNat (1 : Int)) 0)) fun y2 =>
      cond (y2)
        (gd (0 ≤ (2 : Int) ∧ (2 : Int) < (List.length a0 : Int)) <|
        bindO (F67 (List.getD a0 (Int.toNat (2 : Int)) 0)) fun y3 =>
        cond (y3)
          (some (!(Op.bytesLess a0 ([48, 49, 48] : List UInt8))))
          (some false))
        (some false))
      (some false))
    (some false)
def dc66 : DC :=
  (.seq (.reg [⟨none, (.mv (some 2) (.v (.bool false)))⟩])
  (.seq (.reg [⟨none, (.mv (some 3) (.t 0))⟩,
    ⟨none, (.ln 4 none (.t 3))⟩,
    ⟨none, (.ar 5 .eql (.t 4) (.v (.int .i64 3)))⟩,
    ⟨none, (.mv (some 6) (.t 5))⟩,
    ⟨(some (6, true)), (.mv (some 7) (.t 0))⟩,
    ⟨(some (6, true)), (.ix 8 (.t 7) (.v (.int .i64 0)))⟩,
    ⟨(some (6, true)), (.ca (some 9) 67 [(.t 8)])⟩,
    ⟨none, (.pick 10 (.t 6) (.t 9) (.v (.bool false)))⟩,
    ⟨none, (.mv (some 11) (.t 10))⟩,
    ⟨(some (11, true)), (.mv (some 12) (.t 0))⟩,
    ⟨(some (11, true)), (.ix 13 (.t 12) (.v (.int .i64 1)))⟩,
    ⟨(some (11, true)), (.ca (some 14) 67 [(.t 13)])⟩,
    ⟨none, (.pick 15 (.t 11) (.t 14) (.v (.bool false)))⟩,
    ⟨none, (.mv (some 16) (.t 15))⟩,
    ⟨(some (16, true)), (.mv (some 17) (.t 0))⟩,
    ⟨(some (16, true)), (.ix 18 (.t 17) (.v (.int .i64 2)))⟩,
    ⟨(some (16, true)), (.ca (some 19) 67 [(.t 18)])⟩,
    ⟨none, (.pick 20 (.t 16) (.t 19) (.v (.bool false)))⟩,
    ⟨none, (.mv (some 21) (.t 20))⟩,
    ⟨(some (21, true)), (.mv (some 22) (.t 0))⟩,
    ⟨(some (21, true)), (.ar 23 .geq (.t 22) (.v (.str [48, 49, 48])))⟩,
    ⟨none, (.pick 24 (.t 21) (.t 23) (.v (.bool false)))⟩,
    ⟨none, (.mv (some 2) (.t 24))⟩])
  .ret))
noncomputable def ent66 : TEnt := ⟨66, [.str], .bool, fun x => F66 x, .plain⟩
theorem eq66 (x : dens ent66.as) : ent66.F x = evF [ent67] SHF dc66 [(.tmp 2)] ent66.as ent66.rs x := by kernel_rfl
/-- library/libraryref07.Code -/
noncomputable def F68 (a0 : UInt8) : Option (Bool) :=
  bindO (F67 a0) fun y1 =>
  cond (y1)
    (some true)
    (cond (decide ((97 : Int) ≤ (UInt8.toNat a0 : Int)))
      (some (decide ((UInt8.toNat a0 : Int) ≤ (122 : Int))))
      (some false))
def dc68 : DC :=
  (.seq (.reg [⟨none, (.mv (some 2) (.v (.bool false)))⟩])
  (.seq (.reg [⟨none, (.mv (some 3) (.t 0))⟩,
    ⟨none, (.ca (some 4) 67 [(.t 3)])⟩,
    ⟨none, (.mv (some 5) (.t 4))⟩,
    ⟨(some (5, false)), (.mv (some 6) (.t 0))⟩,
    ⟨(some (5, false)), (.ar 7 .geq (.t 6) (.v (.int .u8 97)))⟩,
    ⟨(some (5, false)), (.mv (some 8) (.t 7))⟩,
    ⟨(some (8, true)), (.mv (some 9) (.t 0))⟩,
    ⟨(some (8, true)), (.ar 10 .leq (.t 9) (.v (.int .u8 122)))⟩,
    ⟨(some (5, false)), (.pick 11 (.t 8) (.t 10) (.v (.bool false)))⟩,
    ⟨none, (.pick 12 (.t 5) (.v (.bool true)) (.t 11))⟩,
    ⟨none, (.mv (some 2) (.t 12))⟩])
  .ret))
noncomputable def ent68 : TEnt := ⟨68, [.byte], .bool, fun x => F68 x, .plain⟩
theorem eq68 (x : dens ent68.as) : ent68.F x = evF [ent67] SHF dc68 [(.tmp 2)] ent68.as ent68.rs x := by kernel_rfl
/-- library/libraryref01.decode -/
noncomputable def F88 (a0 : List UInt8) (a1 : Int) : Option (Int × Int) :=
  gd (0 ≤ a1 ∧ a1 < (List.length a0 : Int)) <|
  jn (σ := Unit) (fun nextj1 =>
    cond (decide ((32 : Int) ≤ (IntKind.wrap .i64 (UInt8.toNat (List.getD a0 (Int.toNat a1) 0) : Int))))
      (cond (decide ((IntKind.wrap .i64 (UInt8.toNat (List.getD a0 (Int.toNat a1) 0) : Int)) < (127 : Int)))
        (some ((IntKind.wrap .i64 (UInt8.toNat (List.getD a0 (Int.toNat a1) 0) : Int)), (1 : Int)))
        (nextj1 ()))
      (nextj1 ())) fun j1 =>
  jn (σ := Bool) (fun nextj2 =>
    cond (decide ((194 : Int) ≤ (IntKind.wrap .i64 (UInt8.toNat (List.getD a0 (Int.toNat a1) 0) : Int))))
      (cond (decide ((IntKind.wrap .i64 (UInt8.toNat (List.getD a0 (Int.toNat a1) 0) : Int)) < (224 : Int)))
        (bnd (IntKind.wrap .i64 (a1 + (1 : Int))) fun x3 =>
        cond (decide (x3 < (List.length a0 : Int)))
          (bnd (IntKind.wrap .i64 (a1 + (1 : Int))) fun x4 =>
          gd (0 ≤ x4 ∧ x4 < (List.length a0 : Int)) <|
          cond (decide ((128 : Int) ≤ (UInt8.toNat (List.getD a0 (Int.toNat x4) 0) : Int)))
            (bnd (IntKind.wrap .i64 (a1 + (1 : Int))) fun x5 =>
            gd (0 ≤ x5 ∧ x5 < (List.length a0 : Int)) <|
            nextj2 (decide ((UInt8.toNat (List.getD a0 (Int.toNat x5) 0) : Int) < (192 : Int))))
            (nextj2 false))
          (nextj2 false))
        (nextj2 false))
      (nextj2 false)) fun j2 =>
  cond (j2)
    (bnd (IntKind.wrap .i64 ((IntKind.wrap .i64 (UInt8.toNat (List.getD a0 (Int.toNat a1) 0) : Int)) - (192 : Int))) fun x6 =>
    bnd (IntKind.wrap .i64 (x6 * (64 : Int))) fun x7 =>
    bnd (IntKind.wrap .i64 (a1 + (1 : Int))) fun x8 =>
    gd (0 ≤ x8 ∧ x8 < (List.length a0 : Int)) <|
    bnd (IntKind.wrap .i64 (x7 + (IntKind.wrap .i64 (UInt8.toNat (List.getD a0 (Int.toNat x8) 0) : Int)))) fun x9 =>
    bnd (IntKind.wrap .i64 (x9 - (128 : Int))) fun x10 =>
    cond (decide ((160 : Int) ≤ x10))
      (some (x10, (2 : Int)))
      (some ((0 : Int), (0 : Int))))
    (jn (σ := Bool) (fun nextj11 =>
      cond (decide ((224 : Int) ≤ (IntKind.wrap .i64 (UInt8.toNat (List.getD a0 (Int.toNat a1) 0) : Int))))
        (cond (decide ((IntKind.wrap .i64 (UInt8.toNat (List.getD a0 (Int.toNat a1) 0) : Int)) < (240 : Int)))
          (bnd (IntKind.wrap .i64 (a1 + (2 : Int))) fun x12 =>
          cond (decide (x12 < (List.length a0 : Int)))
            (bnd (IntKind.wrap .i64 (a1 + (1 : Int))) fun x13 =>
            gd (0 ≤ x13 ∧ x13 < (List.length a0 : Int)) <|
            cond (decide ((128 : Int) ≤ (UInt8.toNat (List.getD a0 (Int.toNat x13) 0) : Int)))
              (bnd (IntKind.wrap .i64 (a1 + (1 : Int))) fun x14 =>
              gd (0 ≤ x14 ∧ x14 < (List.length a0 : Int)) <|
              cond (decide ((UInt8.toNat (List.getD a0 (Int.toNat x14) 0) : Int) < (192 : Int)))
                (bnd (IntKind.wrap .i64 (a1 + (2 : Int))) fun x15 =>
                gd (0 ≤ x15 ∧ x15 < (List.length a0 : Int)) <|
                cond (decide ((128 : Int) ≤ (UInt8.toNat (List.getD a0 (Int.toNat x15) 0) : Int)))
                  (bnd (IntKind.wrap .i64 (a1 + (2 : Int))) fun x16 =>
                  gd (0 ≤ x16 ∧ x16 < (List.length a0 : Int)) <|
                  nextj11 (decide ((UInt8.toNat (List.getD a0 (Int.toNat x16) 0) : Int) < (192 : Int))))
                  (nextj11 false))
                (nextj11 false))
              (nextj11 false))
            (nextj11 false))
          (nextj11 false))
        (nextj11 false)) fun j11 =>
    cond (j11)
      (bnd (IntKind.wrap .i64 ((IntKind.wrap .i64 (UInt8.toNat (List.getD a0 (Int.toNat a1) 0) : Int)) - (224 : Int))) fun x17 =>
      bnd (IntKind.wrap .i64 (x17 * (4096 : Int))) fun x18 =>
      bnd (IntKind.wrap .i64 (a1 + (1 : Int))) fun x19 =>
      gd (0 ≤ x19 ∧ x19 < (List.length a0 : Int)) <|
      bnd (IntKind.wrap .i64 ((IntKind.wrap .i64 (UInt8.toNat (List.getD a0 (Int.toNat x19) 0) : Int)) - (128 : Int))) fun x20 =>
      bnd (IntKind.wrap .i64 (x20 * (64 : Int))) fun x21 =>
      bnd (IntKind.wrap .i64 (x18 + x21)) fun x22 =>
      bnd (IntKind.wrap .i64 (a1 + (2 : Int))) fun x23 =>
      gd (0 ≤ x23 ∧ x23 < (List.length a0 : Int)) <|
      bnd (IntKind.wrap .i64 (x22 + (IntKind.wrap .i64 (UInt8.toNat (List.getD a0 (Int.toNat x23) 0) : Int)))) fun x24 =>
      bnd (IntKind.wrap .i64 (x24 - (128 : Int))) fun x25 =>
      cond (decide ((2048 : Int) ≤ x25))
        (cond (decide (x25 < (55296 : Int)))
          (some (x25, (3 : Int)))
          (cond (decide ((57343 : Int) < x25))
            (some (x25, (3 : Int)))
            (some ((0 : Int), (0 : Int)))))
        (some ((0 : Int), (0 : Int))))
      (some ((0 : Int), (0 : Int))))
def dc88 : DC :=
  (.seq (.reg [⟨none, (.mv (some 4) (.v (.int .i64 0)))⟩,
    ⟨none, (.mv (some 5) (.v (.int .i64 0)))⟩])
  (.seq (.reg [⟨none, (.mv (some 9) (.t 0))⟩,
    ⟨none, (.mv (some 10) (.t 1))⟩,
    ⟨none, (.ix 11 (.t 9) (.t 10))⟩,
    ⟨none, (.cvi 12 .i64 (.t 11))⟩,
    ⟨none, (.mv (some 6) (.t 12))⟩])
  (.jn ⟨[], [], [13, 14, 15, 16, 17, 18].map .s⟩ (.seq (.reg [⟨none, (.mv (some 13) (.t 6))⟩,
    ⟨none, (.ar 14 .geq (.t 13) (.v (.int .i64 32)))⟩,
    ⟨none, (.mv (some 15) (.t 14))⟩,
    ⟨(some (15, true)), (.mv (some 16) (.t 6))⟩,
    ⟨(some (15, true)), (.ar 17 .lss (.t 16) (.v (.int .i64 127)))⟩,
    ⟨none, (.pick 18 (.t 15) (.t 17) (.v (.bool false)))⟩])
  (.cond (.t 18)
    (.seq (.reg [⟨none, (.mv (some 19) (.t 6))⟩,
    ⟨none, (.mv (some 4) (.t 19))⟩,
    ⟨none, (.mv (some 5) (.v (.int .i64 1)))⟩])
  .ret)
    .skip))
  (.seq (.jn ⟨[(46, (.lf .bool))], [], [20, 21, 22, 23, 24, 25, 26, 27, 28, 29, 30, 31, 32, 33, 34, 35, 36, 37, 38, 39, 40, 41, 42, 43, 44, 45].map .s⟩ (.reg [⟨none, (.mv (some 20) (.t 6))⟩,
    ⟨none, (.ar 21 .geq (.t 20) (.v (.int .i64 194)))⟩,
    ⟨none, (.mv (some 22) (.t 21))⟩,
    ⟨(some (22, true)), (.mv (some 23) (.t 6))⟩,
    ⟨(some (22, true)), (.ar 24 .lss (.t 23) (.v (.int .i64 224)))⟩,
    ⟨none, (.pick 25 (.t 22) (.t 24) (.v (.bool false)))⟩,
    ⟨none, (.mv (some 26) (.t 25))⟩,
    ⟨(some (26, true)), (.mv (some 27) (.t 1))⟩,
    ⟨(some (26, true)), (.ar 28 .add (.t 27) (.v (.int .i64 1)))⟩,
    ⟨(some (26, true)), (.mv (some 29) (.t 0))⟩,
    ⟨(some (26, true)), (.ln 30 none (.t 29))⟩,
    ⟨(some (26, true)), (.ar 31 .lss (.t 28) (.t 30))⟩,
    ⟨none, (.pick 32 (.t 26) (.t 31) (.v (.bool false)))⟩,
    ⟨none, (.mv (some 33) (.t 32))⟩,
    ⟨(some (33, true)), (.mv (some 34) (.t 0))⟩,
    ⟨(some (33, true)), (.mv (some 35) (.t 1))⟩,
    ⟨(some (33, true)), (.ar 36 .add (.t 35) (.v (.int .i64 1)))⟩,
    ⟨(some (33, true)), (.ix 37 (.t 34) (.t 36))⟩,
    ⟨(some (33, true)), (.ar 38 .geq (.t 37) (.v (.int .u8 128)))⟩,
    ⟨none, (.pick 39 (.t 33) (.t 38) (.v (.bool false)))⟩,
    ⟨none, (.mv (some 40) (.t 39))⟩,
    ⟨(some (40, true)), (.mv (some 41) (.t 0))⟩,
    ⟨(some (40, true)), (.mv (some 42) (.t 1))⟩,
    ⟨(some (40, true)), (.ar 43 .add (.t 42) (.v (.int .i64 1)))⟩,
    ⟨(some (40, true)), (.ix 44 (.t 41) (.t 43))⟩,
    ⟨(some (40, true)), (.ar 45 .lss (.t 44) (.v (.int .u8 192)))⟩,
    ⟨none, (.pick 46 (.t 40) (.t 45) (.v (.bool false)))⟩])
  (.cond (.t 46)
    (.seq (.reg [⟨none, (.mv (some 47) (.t 6))⟩,
    ⟨none, (.ar 48 .sub (.t 47) (.v (.int .i64 192)))⟩,
    ⟨none, (.ar 49 .mul (.t 48) (.v (.int .i64 64)))⟩,
    ⟨none, (.mv (some 50) (.t 0))⟩,
    ⟨none, (.mv (some 51) (.t 1))⟩,
    ⟨none, (.ar 52 .add (.t 51) (.v (.int .i64 1)))⟩,
    ⟨none, (.ix 53 (.t 50) (.t 52))⟩,
    ⟨none, (.cvi 54 .i64 (.t 53))⟩,
    ⟨none, (.ar 55 .add (.t 49) (.t 54))⟩,
    ⟨none, (.ar 56 .sub (.t 55) (.v (.int .i64 128)))⟩,
    ⟨none, (.mv (some 7) (.t 56))⟩])
  (.seq (.seq (.reg [⟨none, (.mv (some 57) (.t 7))⟩,
    ⟨none, (.ar 58 .geq (.t 57) (.v (.int .i64 160)))⟩])
  (.cond (.t 58)
    (.seq (.reg [⟨none, (.mv (some 59) (.t 7))⟩,
    ⟨none, (.mv (some 4) (.t 59))⟩,
    ⟨none, (.mv (some 5) (.v (.int .i64 2)))⟩])
  .ret)
    .skip))
  (.seq (.reg [⟨none, (.mv (some 4) (.v (.int .i64 0)))⟩,
    ⟨none, (.mv (some 5) (.v (.int .i64 0)))⟩])
  .ret)))
    .skip))
  (.seq (.jn ⟨[(100, (.lf .bool))], [], [60, 61, 62, 63, 64, 65, 66, 67, 68, 69, 70, 71, 72, 73, 74, 75, 76, 77, 78, 79, 80, 81, 82, 83, 84, 85, 86, 87, 88, 89, 90, 91, 92, 93, 94, 95, 96, 97, 98, 99].map .s⟩ (.reg [⟨none, (.mv (some 60) (.t 6))⟩,
    ⟨none, (.ar 61 .geq (.t 60) (.v (.int .i64 224)))⟩,
    ⟨none, (.mv (some 62) (.t 61))⟩,
    ⟨(some (62, true)), (.mv (some 63) (.t 6))⟩,
    ⟨(some (62, true)), (.ar 64 .lss (.t 63) (.v (.int .i64 240)))⟩,
    ⟨none, (.pick 65 (.t 62) (.t 64) (.v (.bool false)))⟩,
    ⟨none, (.mv (some 66) (.t 65))⟩,
    ⟨(some (66, true)), (.mv (some 67) (.t 1))⟩,
    ⟨(some (66, true)), (.ar 68 .add (.t 67) (.v (.int .i64 2)))⟩,
    ⟨(some (66, true)), (.mv (some 69) (.t 0))⟩,
    ⟨(some (66, true)), (.ln 70 none (.t 69))⟩,
    ⟨(some (66, true)), (.ar 71 .lss (.t 68) (.t 70))⟩,
    ⟨none, (.pick 72 (.t 66) (.t 71) (.v (.bool false)))⟩,
    ⟨none, (.mv (some 73) (.t 72))⟩,
    ⟨(some (73, true)), (.mv (some 74) (.t 0))⟩,
    ⟨(some (73, true)), (.mv (some 75) (.t 1))⟩,
    ⟨(some (73, true)), (.ar 76 .add (.t 75) (.v (.int .i64 1)))⟩,
    ⟨(some (73, true)), (.ix 77 (.t 74) (.t 76))⟩,
    ⟨(some (73, true)), (.ar 78 .geq (.t 77) (.v (.int .u8 128)))⟩,
    ⟨none, (.pick 79 (.t 73) (.t 78) (.v (.bool false)))⟩,
    ⟨none, (.mv (some 80) (.t 79))⟩,
    ⟨(some (80, true)), (.mv (some 81) (.t 0))⟩,
    ⟨(some (80, true)), (.mv (some 82) (.t 1))⟩,
    ⟨(some (80, true)), (.ar 83 .add (.t 82) (.v (.int .i64 1)))⟩,
    ⟨(some (80, true)), (.ix 84 (.t 81) (.t 83))⟩,
    ⟨(some (80, true)), (.ar 85 .lss (.t 84) (.v (.int .u8 192)))⟩,
    ⟨none, (.pick 86 (.t 80) (.t 85) (.v (.bool false)))⟩,
    ⟨none, (.mv (some 87) (.t 86))⟩,
    ⟨(some (87, true)), (.mv (some 88) (.t 0))⟩,
    ⟨(some (87, true)), (.mv (some 89) (.t 1))⟩,
    ⟨(some (87, true)), (.ar 90 .add (.t 89) (.v (.int .i64 2)))⟩,
    ⟨(some (87, true)), (.ix 91 (.t 88) (.t 90))⟩,
    ⟨(some (87, true)), (.ar 92 .geq (.t 91) (.v (.int .u8 128)))⟩,
    ⟨none, (.pick 93 (.t 87) (.t 92) (.v (.bool false)))⟩,
    ⟨none, (.mv (some 94) (.t 93))⟩,
    ⟨(some (94, true)), (.mv (some 95) (.t 0))⟩,
    ⟨(some (94, true)), (.mv (some 96) (.t 1))⟩,
    ⟨(some (94, true)), (.ar 97 .add (.t 96) (.v (.int .i64 2)))⟩,
    ⟨(some (94, true)), (.ix 98 (.t 95) (.t 97))⟩,
    ⟨(some (94, true)), (.ar 99 .lss (.t 98) (.v (.int .u8 192)))⟩,
    ⟨none, (.pick 100 (.t 94) (.t 99) (.v (.bool false)))⟩])
  (.cond (.t 100)
    (.seq (.reg [⟨none, (.mv (some 101) (.t 6))⟩,
    ⟨none, (.ar 102 .sub (.t 101) (.v (.int .i64 224)))⟩,
    ⟨none, (.ar 103 .mul (.t 102) (.v (.int .i64 4096)))⟩,
    ⟨none, (.mv (some 104) (.t 0))⟩,
    ⟨none, (.mv (some 105) (.t 1))⟩,
    ⟨none, (.ar 106 .add (.t 105) (.v (.int .i64 1)))⟩,
    ⟨none, (.ix 107 (.t 104) (.t 106))⟩,
    ⟨none, (.cvi 108 .i64 (.t 107))⟩,
    ⟨none, (.ar 109 .sub (.t 108) (.v (.int .i64 128)))⟩,
    ⟨none, (.ar 110 .mul (.t 109) (.v (.int .i64 64)))⟩,
    ⟨none, (.ar 111 .add (.t 103) (.t 110))⟩,
    ⟨none, (.mv (some 112) (.t 0))⟩,
    ⟨none, (.mv (some 113) (.t 1))⟩,
    ⟨none, (.ar 114 .add (.t 113) (.v (.int .i64 2)))⟩,
    ⟨none, (.ix 115 (.t 112) (.t 114))⟩,
    ⟨none, (.cvi 116 .i64 (.t 115))⟩,
    ⟨none, (.ar 117 .add (.t 111) (.t 116))⟩,
    ⟨none, (.ar 118 .sub (.t 117) (.v (.int .i64 128)))⟩,
    ⟨none, (.mv (some 8) (.t 118))⟩])
  (.seq (.reg [⟨none, (.mv (some 119) (.t 8))⟩,
    ⟨none, (.ar 120 .geq (.t 119) (.v (.int .i64 2048)))⟩,
    ⟨none, (.mv (some 121) (.t 120))⟩,
    ⟨(some (121, true)), (.mv (some 122) (.t 8))⟩,
    ⟨(some (121, true)), (.ar 123 .lss (.t 122) (.v (.int .i64 55296)))⟩,
    ⟨(some (121, true)), (.mv (some 124) (.t 123))⟩,
    ⟨(some (124, false)), (.mv (some 125) (.t 8))⟩,
    ⟨(some (124, false)), (.ar 126 .gtr (.t 125) (.v (.int .i64 57343)))⟩,
    ⟨(some (121, true)), (.pick 127 (.t 124) (.v (.bool true)) (.t 126))⟩,
    ⟨none, (.pick 128 (.t 121) (.t 127) (.v (.bool false)))⟩])
  (.cond (.t 128)
    (.seq (.reg [⟨none, (.mv (some 129) (.t 8))⟩,
    ⟨none, (.mv (some 4) (.t 129))⟩,
    ⟨none, (.mv (some 5) (.v (.int .i64 3)))⟩])
  .ret)
    .skip)))
    .skip))
  (.seq (.reg [⟨none, (.mv (some 4) (.v (.int .i64 0)))⟩,
    ⟨none, (.mv (some 5) (.v (.int .i64 0)))⟩])
  .ret))))))
noncomputable def ent88 : TEnt := ⟨88, [.str, (.int .i64)], (.tup (.pair (.int .i64) (.int .i64))), fun x => F88 x.1 x.2, .plain⟩
theorem eq88 (x : dens ent88.as) : ent88.F x = evF [] SHF dc88 [(.tmp 4), (.tmp 5)] ent88.as ent88.rs x := by kernel_rfl
/-- library/libraryref01.Valid -/
noncomputable def F69 (a0 : List UInt8) : Option (Bool) :=
  loopK (σ := Int) (fun p1 againp1 =>
    cond (decide (p1 < (List.length a0 : Int)))
      (bindO (F88 a0 p1) fun y2 =>
      cond (decide (y2.2 = (0 : Int)))
        (some false)
        (bnd (IntKind.wrap .i64 (p1 + y2.2)) fun x3 =>
        againp1 x3))
      (some true)) (0 : Int)
def dc69 : DC :=
  (.seq (.reg [⟨none, (.mv (some 2) (.v (.bool false)))⟩])
  (.seq (.reg [⟨none, (.mv (some 3) (.v (.int .i64 0)))⟩])
  (.seq (.block 0 (.loop ⟨[(3, (.lf (.int .i64)))], [], [2, 4, 5, 6, 7, 8, 9, 10, 11, 12, 13, 14, 15, 16, 17, 18, 19, 20].map .s⟩ (.seq (.seq (.reg [⟨none, (.mv (some 6) (.t 3))⟩,
    ⟨none, (.mv (some 7) (.t 0))⟩,
    ⟨none, (.ln 8 none (.t 7))⟩,
    ⟨none, (.ar 9 .lss (.t 6) (.t 8))⟩])
  (.cond (.t 9)
    .skip
    (.exit 0)))
  (.block 1 (.seq (.reg [⟨none, (.mv (some 11) (.t 0))⟩,
    ⟨none, (.mv (some 12) (.t 3))⟩,
    ⟨none, (.ca (some 13) 88 [(.t 11), (.t 12)])⟩,
    ⟨none, (.mv (some 10) (.t 13))⟩,
    ⟨none, (.ex 14 0 (.t 10))⟩,
    ⟨none, (.ex 15 1 (.t 10))⟩,
    ⟨none, (.mv (some 4) (.t 14))⟩,
    ⟨none, (.mv (some 5) (.t 15))⟩])
  (.seq (.seq (.reg [⟨none, (.mv (some 16) (.t 5))⟩,
    ⟨none, (.ar 17 .eql (.t 16) (.v (.int .i64 0)))⟩])
  (.cond (.t 17)
    (.seq (.reg [⟨none, (.mv (some 2) (.v (.bool false)))⟩])
  .ret)
    .skip))
  (.reg [⟨none, (.mv (some 18) (.t 3))⟩,
    ⟨none, (.mv (some 19) (.t 5))⟩,
    ⟨none, (.ar 20 .add (.t 18) (.t 19))⟩,
    ⟨none, (.mv (some 3) (.t 20))⟩])))))))
  (.seq (.reg [⟨none, (.mv (some 2) (.v (.bool true)))⟩])
  .ret))))
noncomputable def ent69 : TEnt := ⟨69, [.str], .bool, fun x => F69 x, .plain⟩
theorem eq69 (x : dens ent69.as) : ent69.F x = evF [ent88] SHF dc69 [(.tmp 2)] ent69.as ent69.rs x := by kernel_rfl
/-- library/libraryref07.Right -/
noncomputable def F42 (a0 : List UInt8 × List UInt8 × (List (UInt8 × List UInt8)) × Int) : Option (Int) :=
  bindO (F66 a0.1) fun y1 =>
  cond (!y1)
    (some (6 : Int))
    (jn (σ := Unit) (fun nextj2 =>
      cond (!decide ((List.length a0.2.1 : Int) = (2 : Int)))
        (some (3 : Int))
        (gd (0 ≤ (0 : Int) ∧ (0 : Int) < (List.length a0.2.1 : Int)) <|
        cond (!decide ((UInt8.toNat (List.getD a0.2.1 (Int.toNat (0 : Int)) 0) : Int) = (32 : Int)))
          (gd (0 ≤ (0 : Int) ∧ (0 : Int) < (List.length a0.2.1 : Int)) <|
          bindO (F67 (List.getD a0.2.1 (Int.toNat (0 : Int)) 0)) fun y3 =>
          cond (!y3)
            (some (3 : Int))
            (gd (0 ≤ (1 : Int) ∧ (1 : Int) < (List.length a0.2.1 : Int)) <|
            cond (!decide ((UInt8.toNat (List.getD a0.2.1 (Int.toNat (1 : Int)) 0) : Int) = (32 : Int)))
              (gd (0 ≤ (1 : Int) ∧ (1 : Int) < (List.length a0.2.1 : Int)) <|
              bindO (F67 (List.getD a0.2.1 (Int.toNat (1 : Int)) 0)) fun y4 =>
              cond (!y4)
                (some (3 : Int))
                (nextj2 ()))
              (nextj2 ())))
          (gd (0 ≤ (1 : Int) ∧ (1 : Int) < (List.length a0.2.1 : Int)) <|
          cond (!decide ((UInt8.toNat (List.getD a0.2.1 (Int.toNat (1 : Int)) 0) : Int) = (32 : Int)))
            (gd (0 ≤ (1 : Int) ∧ (1 : Int) < (List.length a0.2.1 : Int)) <|
            bindO (F67 (List.getD a0.2.1 (Int.toNat (1 : Int)) 0)) fun y5 =>
            cond (!y5)
              (some (3 : Int))
              (nextj2 ()))
            (nextj2 ())))) fun j2 =>
    cond (decide ((List.length a0.2.2.1 : Int) = (0 : Int)))
      (some (8 : Int))
      (cond (decide ((16 : Int) < (List.length a0.2.2.1 : Int)))
        (some (4 : Int))
        (loopK (σ := Int) (fun p6 againp6 =>
          cond (decide (p6 < (List.length a0.2.2.1 : Int)))
            (gd (0 ≤ p6 ∧ p6 < (List.length a0.2.2.1 : Int)) <|
            bindO (F68 ((List.getD a0.2.2.1 (Int.toNat p6) (0, [])).1)) fun y7 =>
            cond (!y7)
              (some (1 : Int))
              (cond (decide ((List.getD a0.2.2.1 (Int.toNat p6) (0, [])).2 = ([] : List UInt8)))
                (some (8 : Int))
                (bindO (F69 ((List.getD a0.2.2.1 (Int.toNat p6) (0, [])).2)) fun y8 =>
                cond (!y8)
                  (some (3 : Int))
                  (cond (decide ((200 : Int) < (List.length ((List.getD a0.2.2.1 (Int.toNat p6) (0, [])).2) : Int)))
                    (some (4 : Int))
                    (bnd (IntKind.wrap .i64 (p6 + (1 : Int))) fun x9 =>
                    againp6 x9)))))
            (cond (decide (a0.2.2.2 < (0 : Int)))
              (some (2 : Int))
              (cond (decide ((9999 : Int) < a0.2.2.2))
                (some (2 : Int))
                (some (0 : Int))))) (0 : Int))))
def dc42 : DC :=
  (.seq (.reg [⟨none, (.bx 1 (some 44) (.t 0))⟩,
    ⟨none, (.mv (some 2) (.v (.int .i64 0)))⟩])
  (.seq (.seq (.reg [⟨none, (.fa 5 44 0 (.t 1))⟩,
    ⟨none, (.ld 6 none (.t 5))⟩,
    ⟨none, (.ca (some 7) 66 [(.t 6)])⟩,
    ⟨none, (.un 8 .not (.t 7))⟩])
  (.cond (.t 8)
    (.seq (.reg [⟨none, (.mv (some 2) (.v (.int .i64 6)))⟩])
  .ret)
    .skip))
  (.jn ⟨[], [], [9, 10, 11, 12, 13, 14, 15, 16, 17, 18, 19, 20, 21, 22, 23, 24, 25, 26, 27, 28, 29, 30, 31, 32, 33, 34, 35, 36, 37, 38].map .s⟩ (.seq (.reg [⟨none, (.fa 9 44 1 (.t 1))⟩,
    ⟨none, (.ld 10 none (.t 9))⟩,
    ⟨none, (.ln 11 none (.t 10))⟩,
    ⟨none, (.ar 12 .neq (.t 11) (.v (.int .i64 2)))⟩,
    ⟨none, (.mv (some 13) (.t 12))⟩,
    ⟨(some (13, false)), (.fa 14 44 1 (.t 1))⟩,
    ⟨(some (13, false)), (.ld 15 none (.t 14))⟩,
    ⟨(some (13, false)), (.ix 16 (.t 15) (.v (.int .i64 0)))⟩,
    ⟨(some (13, false)), (.ar 17 .neq (.t 16) (.v (.int .u8 32)))⟩,
    ⟨(some (13, false)), (.mv (some 18) (.t 17))⟩,
    ⟨(some (18, true)), (.fa 19 44 1 (.t 1))⟩,
    ⟨(some (18, true)), (.ld 20 none (.t 19))⟩,
    ⟨(some (18, true)), (.ix 21 (.t 20) (.v (.int .i64 0)))⟩,
    ⟨(some (18, true)), (.ca (some 22) 67 [(.t 21)])⟩,
    ⟨(some (18, true)), (.un 23 .not (.t 22))⟩,
    ⟨(some (13, false)), (.pick 24 (.t 18) (.t 23) (.v (.bool false)))⟩,
    ⟨none, (.pick 25 (.t 13) (.v (.bool true)) (.t 24))⟩,
    ⟨none, (.mv (some 26) (.t 25))⟩,
    ⟨(some (26, false)), (.fa 27 44 1 (.t 1))⟩,
    ⟨(some (26, false)), (.ld 28 none (.t 27))⟩,
    ⟨(some (26, false)), (.ix 29 (.t 28) (.v (.int .i64 1)))⟩,
    ⟨(some (26, false)), (.ar 30 .neq (.t 29) (.v (.int .u8 32)))⟩,
    ⟨(some (26, false)), (.mv (some 31) (.t 30))⟩,
    ⟨(some (31, true)), (.fa 32 44 1 (.t 1))⟩,
    ⟨(some (31, true)), (.ld 33 none (.t 32))⟩,
    ⟨(some (31, true)), (.ix 34 (.t 33) (.v (.int .i64 1)))⟩,
    ⟨(some (31, true)), (.ca (some 35) 67 [(.t 34)])⟩,
    ⟨(some (31, true)), (.un 36 .not (.t 35))⟩,
    ⟨(some (26, false)), (.pick 37 (.t 31) (.t 36) (.v (.bool false)))⟩,
    ⟨none, (.pick 38 (.t 26) (.v (.bool true)) (.t 37))⟩])
  (.cond (.t 38)
    (.seq (.reg [⟨none, (.mv (some 2) (.v (.int .i64 3)))⟩])
  .ret)
    .skip))
  (.seq (.seq (.reg [⟨none, (.fa 39 44 2 (.t 1))⟩,
    ⟨none, (.ld 40 none (.t 39))⟩,
    ⟨none, (.ln 41 (some 46) (.t 40))⟩,
    ⟨none, (.ar 42 .eql (.t 41) (.v (.int .i64 0)))⟩])
  (.cond (.t 42)
    (.seq (.reg [⟨none, (.mv (some 2) (.v (.int .i64 8)))⟩])
  .ret)
    .skip))
  (.seq (.seq (.reg [⟨none, (.fa 43 44 2 (.t 1))⟩,
    ⟨none, (.ld 44 none (.t 43))⟩,
    ⟨none, (.ln 45 (some 46) (.t 44))⟩,
    ⟨none, (.ar 46 .gtr (.t 45) (.v (.int .i64 16)))⟩])
  (.cond (.t 46)
    (.seq (.reg [⟨none, (.mv (some 2) (.v (.int .i64 4)))⟩])
  .ret)
    .skip))
  (.seq (.seq (.reg [⟨none, (.mv (some 3) (.v (.int .i64 0)))⟩])
  (.block 0 (.loop ⟨[(3, (.lf (.int .i64)))], [], [2, 4, 47, 48, 49, 50, 51, 52, 53, 54, 55, 56, 57, 58, 59, 60, 61, 62, 63, 64, 65, 66, 67, 68, 69, 70, 71, 72, 73].map .s ++ [4].map .b⟩ (.seq (.seq (.reg [⟨none, (.mv (some 47) (.t 3))⟩,
    ⟨none, (.fa 48 44 2 (.t 1))⟩,
    ⟨none, (.ld 49 none (.t 48))⟩,
    ⟨none, (.ln 50 (some 46) (.t 49))⟩,
    ⟨none, (.ar 51 .lss (.t 47) (.t 50))⟩])
  (.cond (.t 51)
    .skip
    (.exit 0)))
  (.seq (.block 1 (.seq (.reg [⟨none, (.fa 54 44 2 (.t 1))⟩,
    ⟨none, (.ld 55 none (.t 54))⟩,
    ⟨none, (.mv (some 56) (.t 3))⟩,
    ⟨none, (.ea 57 46 (.t 55) (.t 56))⟩,
    ⟨none, (.ld 58 (some 46) (.t 57))⟩,
    ⟨none, (.al 4 (.agg 46 [(.int .u8 0), (.str [])]))⟩,
    ⟨none, (.st (some 46) (.t 4) (.t 58))⟩])
  (.seq (.seq (.reg [⟨none, (.fa 59 46 0 (.t 4))⟩,
    ⟨none, (.ld 60 none (.t 59))⟩,
    ⟨none, (.ca (some 61) 68 [(.t 60)])⟩,
    ⟨none, (.un 62 .not (.t 61))⟩])
  (.cond (.t 62)
    (.seq (.reg [⟨none, (.mv (some 2) (.v (.int .i64 1)))⟩])
  .ret)
    .skip))
  (.seq (.seq (.reg [⟨none, (.fa 63 46 1 (.t 4))⟩,
    ⟨none, (.ld 64 none (.t 63))⟩,
    ⟨none, (.ar 65 .eql (.t 64) (.v (.str [])))⟩])
  (.cond (.t 65)
    (.seq (.reg [⟨none, (.mv (some 2) (.v (.int .i64 8)))⟩])
  .ret)
    .skip))
  (.seq (.seq (.reg [⟨none, (.fa 66 46 1 (.t 4))⟩,
    ⟨none, (.ld 67 none (.t 66))⟩,
    ⟨none, (.ca (some 68) 69 [(.t 67)])⟩,
    ⟨none, (.un 69 .not (.t 68))⟩])
  (.cond (.t 69)
    (.seq (.reg [⟨none, (.mv (some 2) (.v (.int .i64 3)))⟩])
  .ret)
    .skip))
  (.seq (.reg [⟨none, (.fa 70 46 1 (.t 4))⟩,
    ⟨none, (.ld 71 none (.t 70))⟩,
    ⟨none, (.ln 72 none (.t 71))⟩,
    ⟨none, (.ar 73 .gtr (.t 72) (.v (.int .i64 200)))⟩])
  (.cond (.t 73)
    (.seq (.reg [⟨none, (.mv (some 2) (.v (.int .i64 4)))⟩])
  .ret)
    .skip)))))))
  (.reg [⟨none, (.mv (some 52) (.t 3))⟩,
    ⟨none, (.ar 53 .add (.t 52) (.v (.int .i64 1)))⟩,
    ⟨none, (.mv (some 3) (.t 53))⟩]))))))
  (.seq (.seq (.reg [⟨none, (.fa 74 44 3 (.t 1))⟩,
    ⟨none, (.ld 75 none (.t 74))⟩,
    ⟨none, (.ar 76 .lss (.t 75) (.v (.int .i64 0)))⟩,
    ⟨none, (.mv (some 77) (.t 76))⟩,
    ⟨(some (77, false)), (.fa 78 44 3 (.t 1))⟩,
    ⟨(some (77, false)), (.ld 79 none (.t 78))⟩,
    ⟨(some (77, false)), (.ar 80 .gtr (.t 79) (.v (.int .i64 9999)))⟩,
    ⟨none, (.pick 81 (.t 77) (.v (.bool true)) (.t 80))⟩])
  (.cond (.t 81)
    (.seq (.reg [⟨none, (.mv (some 2) (.v (.int .i64 2)))⟩])
  .ret)
    .skip))
  (.seq (.reg [⟨none, (.mv (some 2) (.v (.int .i64 0)))⟩])
  .ret))))))))
noncomputable def ent42 : TEnt := ⟨42, [(.agg 44 (.pair .str (.pair .str (.pair (.sl 46 (.agg 46 (.pair .byte .str))) (.int .i64)))))], (.int .i64), fun x => F42 x, .plain⟩
theorem eq42 (x : dens ent42.as) : ent42.F x = evF [ent66, ent67, ent68, ent69] SHF dc42 [(.tmp 2)] ent42.as ent42.rs x := by kernel_rfl
/-- library/libraryref07.mark -/
noncomputable def F46 (a0 : UInt8) : Option (List UInt8) :=
  cond (decide ((UInt8.toNat a0 : Int) = (32 : Int)))
    (some ([35] : List UInt8))
    (some [a0])
def dc46 : DC :=
  (.seq (.reg [⟨none, (.mv (some 2) (.v (.str [])))⟩])
  (.seq (.seq (.reg [⟨none, (.mv (some 3) (.t 0))⟩,
    ⟨none, (.ar 4 .eql (.t 3) (.v (.int .u8 32)))⟩])
  (.cond (.t 4)
    (.seq (.reg [⟨none, (.mv (some 2) (.v (.str [35])))⟩])
  .ret)
    .skip))
  (.seq (.reg [⟨none, (.mv (some 5) (.t 0))⟩,
    ⟨none, (.bs 6 5 none [(.t 5)])⟩,
    ⟨none, (.cvb 7 (.t 6))⟩,
    ⟨none, (.mv (some 2) (.t 7))⟩])
  .ret)))
noncomputable def ent46 : TEnt := ⟨46, [.byte], .str, fun x => F46 x, .plain⟩
theorem eq46 (x : dens ent46.as) : ent46.F x = evF [] SHF dc46 [(.tmp 2)] ent46.as ent46.rs x := by kernel_rfl
/-- library/libraryref01.Digits -/
noncomputable def F45 (a0 : Int) (a1 : Int) : Option (List UInt8) :=
  loopK (σ := Int × List UInt8) (fun p1 againp1 =>
    jn (σ := Unit) (fun nextj2 =>
      cond (decide ((0 : Int) < p1.1))
        (nextj2 ())
        (cond (decide (p1.2 = ([] : List UInt8)))
          (nextj2 ())
          (loopK (σ := List UInt8) (fun p3 againp3 =>
            cond (decide ((List.length p3 : Int) < a1))
              (gd (List.length ([48] : List UInt8) + List.length p3 ≤ big) <|
              bnd (([48] : List UInt8) ++ p3) fun x4 =>
              againp3 x4)
              (some p3)) p1.2))) fun j2 =>
    gd ((10 : Int) ≠ 0) <|
    bnd (Int.tmod p1.1 (10 : Int)) fun x5 =>
    gd ((10 : Int) ≠ 0) <|
    bnd (Int.tmod p1.1 (10 : Int)) fun x6 =>
    bnd (IntKind.wrap .i64 (x6 + (1 : Int))) fun x7 =>
    gd (0 ≤ x5 ∧ x5 ≤ x7 ∧ x7 ≤ (List.length ([48, 49, 50, 51, 52, 53, 54, 55, 56, 57] : List UInt8) : Int)) <|
    bnd (List.drop (Int.toNat x5) (List.take (Int.toNat x7) ([48, 49, 50, 51, 52, 53, 54, 55, 56, 57] : List UInt8))) fun x8 =>
    gd (List.length x8 + List.length p1.2 ≤ big) <|
    bnd (x8 ++ p1.2) fun x9 =>
    gd ((10 : Int) ≠ 0) <|
    bnd (IntKind.wrap .i64 (Int.tdiv p1.1 (10 : Int))) fun x10 =>
    againp1 (x10, x9)) (a0, ([] : List UInt8))
def dc45 : DC :=
  (.seq (.reg [⟨none, (.mv (some 4) (.v (.str [])))⟩])
  (.seq (.reg [⟨none, (.mv (some 5) (.v (.str [48, 49, 50, 51, 52, 53, 54, 55, 56, 57])))⟩])
  (.seq (.reg [⟨none, (.mv (some 6) (.v (.str [])))⟩])
  (.seq (.block 0 (.loop ⟨[(0, (.lf (.int .i64))), (6, (.lf .str))], [], [7, 8, 9, 10, 11, 12, 13, 14, 15, 16, 17, 18, 19, 20, 21, 22, 23].map .s⟩ (.jn ⟨[], [], [7, 8, 9, 10, 11, 12].map .s⟩ (.seq (.reg [⟨none, (.mv (some 7) (.t 0))⟩,
    ⟨none, (.ar 8 .gtr (.t 7) (.v (.int .i64 0)))⟩,
    ⟨none, (.mv (some 9) (.t 8))⟩,
    ⟨(some (9, false)), (.mv (some 10) (.t 6))⟩,
    ⟨(some (9, false)), (.ar 11 .eql (.t 10) (.v (.str [])))⟩,
    ⟨none, (.pick 12 (.t 9) (.v (.bool true)) (.t 11))⟩])
  (.cond (.t 12)
    .skip
    (.exit 0)))
  (.block 1 (.seq (.reg [⟨none, (.mv (some 13) (.t 5))⟩,
    ⟨none, (.mv (some 14) (.t 0))⟩,
    ⟨none, (.ar 15 .rem (.t 14) (.v (.int .i64 10)))⟩,
    ⟨none, (.mv (some 16) (.t 0))⟩,
    ⟨none, (.ar 17 .rem (.t 16) (.v (.int .i64 10)))⟩,
    ⟨none, (.ar 18 .add (.t 17) (.v (.int .i64 1)))⟩,
    ⟨none, (.sc 19 none (.t 13) (some (.t 15)) (some (.t 18)))⟩,
    ⟨none, (.mv (some 20) (.t 6))⟩,
    ⟨none, (.ar 21 .add (.t 19) (.t 20))⟩,
    ⟨none, (.mv (some 6) (.t 21))⟩])
  (.reg [⟨none, (.mv (some 22) (.t 0))⟩,
    ⟨none, (.ar 23 .quo (.t 22) (.v (.int .i64 10)))⟩,
    ⟨none, (.mv (some 0) (.t 23))⟩]))))))
  (.seq (.block 2 (.loop ⟨[(6, (.lf .str))], [], [24, 25, 26, 27, 28, 29].map .s⟩ (.seq (.seq (.reg [⟨none, (.mv (some 24) (.t 6))⟩,
    ⟨none, (.ln 25 none (.t 24))⟩,
    ⟨none, (.mv (some 26) (.t 1))⟩,
    ⟨none, (.ar 27 .lss (.t 25) (.t 26))⟩])
  (.cond (.t 27)
    .skip
    (.exit 2)))
  (.block 3 (.reg [⟨none, (.mv (some 28) (.t 6))⟩,
    ⟨none, (.ar 29 .add (.v (.str [48])) (.t 28))⟩,
    ⟨none, (.mv (some 6) (.t 29))⟩])))))
  (.seq (.reg [⟨none, (.mv (some 30) (.t 6))⟩,
    ⟨none, (.mv (some 4) (.t 30))⟩])
  .ret))))))
noncomputable def ent45 : TEnt := ⟨45, [(.int .i64), (.int .i64)], .str, fun x => F45 x.1 x.2, .plain⟩
theorem eq45 (x : dens ent45.as) : ent45.F x = evF [] SHF dc45 [(.tmp 4)] ent45.as ent45.rs x := by kernel_rfl
/-- library/libraryref07.Print -/
noncomputable def F30 (a0 : List UInt8 × List UInt8 × (List (UInt8 × List UInt8)) × Int) : Option (List UInt8 × Int) :=
  bindO (F42 a0) fun y1 =>
  cond (!decide (y1 = (0 : Int)))
    (some (([] : List UInt8), y1))
    (jn (σ := List UInt8) (fun nextj2 =>
      cond (!decide (a0.2.2.2 = (0 : Int)))
        (gd (List.length a0.1 + List.length ([64] : List UInt8) ≤ big) <|
        bnd (a0.1 ++ ([64] : List UInt8)) fun x3 =>
        bindO (F45 a0.2.2.2 (1 : Int)) fun y4 =>
        gd (List.length x3 + List.length y4 ≤ big) <|
        bnd (x3 ++ y4) fun x5 =>
        nextj2 x5)
        (nextj2 a0.1)) fun j2 =>
    gd (List.length j2 + List.length ([32] : List UInt8) ≤ big) <|
    bnd (j2 ++ ([32] : List UInt8)) fun x6 =>
    gd (0 ≤ (0 : Int) ∧ (0 : Int) < (List.length a0.2.1 : Int)) <|
    bindO (F46 (List.getD a0.2.1 (Int.toNat (0 : Int)) 0)) fun y7 =>
    gd (List.length x6 + List.length y7 ≤ big) <|
    bnd (x6 ++ y7) fun x8 =>
    gd (0 ≤ (1 : Int) ∧ (1 : Int) < (List.length a0.2.1 : Int)) <|
    bindO (F46 (List.getD a0.2.1 (Int.toNat (1 : Int)) 0)) fun y9 =>
    gd (List.length x8 + List.length y9 ≤ big) <|
    bnd (x8 ++ y9) fun x10 =>
    gd (List.length x10 + List.length ([32] : List UInt8) ≤ big) <|
    bnd (x10 ++ ([32] : List UInt8)) fun x11 =>
    loopK (σ := List UInt8 × Int) (fun p12 againp12 =>
      cond (decide (p12.2 < (List.length a0.2.2.1 : Int)))
        (gd (List.length p12.1 + List.length ([36] : List UInt8) ≤ big) <|
        bnd (p12.1 ++ ([36] : List UInt8)) fun x13 =>
        gd (0 ≤ p12.2 ∧ p12.2 < (List.length a0.2.2.1 : Int)) <|
        gd (List.length x13 + List.length [(List.getD a0.2.2.1 (Int.toNat p12.2) (0, [])).1] ≤ big) <|
        bnd (x13 ++ [(List.getD a0.2.2.1 (Int.toNat p12.2) (0, [])).1]) fun x14 =>
        gd (0 ≤ p12.2 ∧ p12.2 < (List.length a0.2.2.1 : Int)) <|
        loopK (σ := List UInt8 × Int) (fun p15 againp15 =>
          cond (decide (p15.2 < (List.length ((List.getD a0.2.2.1 (Int.toNat p12.2) (0, [])).2) : Int)))
            (jn (σ := List UInt8) (fun nextj16 =>
              gd (0 ≤ p15.2 ∧ p15.2 < (List.length ((List.getD a0.2.2.1 (Int.toNat p12.2) (0, [])).2) : Int)) <|
              cond (decide ((UInt8.toNat (List.getD ((List.getD a0.2.2.1 (Int.toNat p12.2) (0, [])).2) (Int.toNat p15.2) 0) : Int) = (36 : Int)))
                (gd (List.length p15.1 + List.length ([36] : List UInt8) ≤ big) <|
                bnd (p15.1 ++ ([36] : List UInt8)) fun x17 =>
                nextj16 x17)
                (nextj16 p15.1)) fun j16 =>
            bnd (IntKind.wrap .i64 (p15.2 + (1 : Int))) fun x18 =>
            gd (0 ≤ p15.2 ∧ p15.2 ≤ x18 ∧ x18 ≤ (List.length ((List.getD a0.2.2.1 (Int.toNat p12.2) (0, [])).2) : Int)) <|
            bnd (List.drop (Int.toNat p15.2) (List.take (Int.toNat x18) ((List.getD a0.2.2.1 (Int.toNat p12.2) (0, [])).2))) fun x19 =>
            gd (List.length j16 + List.length x19 ≤ big) <|
            bnd (j16 ++ x19) fun x20 =>
            bnd (IntKind.wrap .i64 (p15.2 + (1 : Int))) fun x21 =>
            againp15 (x20, x21))
            (bnd (IntKind.wrap .i64 (p12.2 + (1 : Int))) fun x22 =>
            againp12 (p15.1, x22))) (x14, (0 : Int)))
        (some (p12.1, (0 : Int)))) (x11, (0 : Int)))
def dc30 : DC :=
  (.seq (.reg [⟨none, (.bx 1 (some 44) (.t 0))⟩,
    ⟨none, (.mv (some 2) (.v (.str [])))⟩,
    ⟨none, (.mv (some 3) (.v (.int .i64 0)))⟩])
  (.seq (.reg [⟨none, (.ld 9 (some 44) (.t 1))⟩,
    ⟨none, (.ca (some 10) 42 [(.t 9)])⟩,
    ⟨none, (.mv (some 4) (.t 10))⟩])
  (.seq (.seq (.reg [⟨none, (.mv (some 11) (.t 4))⟩,
    ⟨none, (.ar 12 .neq (.t 11) (.v (.int .i64 0)))⟩])
  (.cond (.t 12)
    (.seq (.reg [⟨none, (.mv (some 13) (.t 4))⟩,
    ⟨none, (.mv (some 2) (.v (.str [])))⟩,
    ⟨none, (.mv (some 3) (.t 13))⟩])
  .ret)
    .skip))
  (.seq (.reg [⟨none, (.fa 14 44 0 (.t 1))⟩,
    ⟨none, (.ld 15 none (.t 14))⟩,
    ⟨none, (.mv (some 5) (.t 15))⟩])
  (.jn ⟨[(5, (.lf .str))], [], [16, 17, 18, 19, 20, 21, 22, 23, 24].map .s⟩ (.seq (.reg [⟨none, (.fa 16 44 3 (.t 1))⟩,
    ⟨none, (.ld 17 none (.t 16))⟩,
    ⟨none, (.ar 18 .neq (.t 17) (.v (.int .i64 0)))⟩])
  (.cond (.t 18)
    (.reg [⟨none, (.mv (some 19) (.t 5))⟩,
    ⟨none, (.ar 20 .add (.t 19) (.v (.str [64])))⟩,
    ⟨none, (.fa 21 44 3 (.t 1))⟩,
    ⟨none, (.ld 22 none (.t 21))⟩,
    ⟨none, (.ca (some 23) 45 [(.t 22), (.v (.int .i64 1))])⟩,
    ⟨none, (.ar 24 .add (.t 20) (.t 23))⟩,
    ⟨none, (.mv (some 5) (.t 24))⟩])
    .skip))
  (.seq (.reg [⟨none, (.mv (some 25) (.t 5))⟩,
    ⟨none, (.ar 26 .add (.t 25) (.v (.str [32])))⟩,
    ⟨none, (.fa 27 44 1 (.t 1))⟩,
    ⟨none, (.ld 28 none (.t 27))⟩,
    ⟨none, (.ix 29 (.t 28) (.v (.int .i64 0)))⟩,
    ⟨none, (.ca (some 30) 46 [(.t 29)])⟩,
    ⟨none, (.ar 31 .add (.t 26) (.t 30))⟩,
    ⟨none, (.fa 32 44 1 (.t 1))⟩,
    ⟨none, (.ld 33 none (.t 32))⟩,
    ⟨none, (.ix 34 (.t 33) (.v (.int .i64 1)))⟩,
    ⟨none, (.ca (some 35) 46 [(.t 34)])⟩,
    ⟨none, (.ar 36 .add (.t 31) (.t 35))⟩,
    ⟨none, (.ar 37 .add (.t 36) (.v (.str [32])))⟩,
    ⟨none, (.mv (some 5) (.t 37))⟩])
  (.seq (.seq (.reg [⟨none, (.mv (some 6) (.v (.int .i64 0)))⟩])
  (.block 0 (.loop ⟨[(5, (.lf .str)), (6, (.lf (.int .i64)))], [], [7, 8, 38, 39, 40, 41, 42, 43, 44, 45, 46, 47, 48, 49, 50, 51, 52, 53, 54, 55, 56, 57, 58, 59, 60, 61, 62, 63, 64, 65, 66, 67, 68, 69, 70, 71, 72, 73, 74, 75, 76, 77, 78, 79, 80].map .s ++ [53].map .f⟩ (.seq (.seq (.reg [⟨none, (.mv (some 38) (.t 6))⟩,
    ⟨none, (.fa 39 44 2 (.t 1))⟩,
    ⟨none, (.ld 40 none (.t 39))⟩,
    ⟨none, (.ln 41 (some 46) (.t 40))⟩,
    ⟨none, (.ar 42 .lss (.t 38) (.t 41))⟩])
  (.cond (.t 42)
    .skip
    (.exit 0)))
  (.seq (.block 1 (.seq (.reg [⟨none, (.mv (some 45) (.t 5))⟩,
    ⟨none, (.ar 46 .add (.t 45) (.v (.str [36])))⟩,
    ⟨none, (.fa 47 44 2 (.t 1))⟩,
    ⟨none, (.ld 48 none (.t 47))⟩,
    ⟨none, (.mv (some 49) (.t 6))⟩,
    ⟨none, (.ea 50 46 (.t 48) (.t 49))⟩,
    ⟨none, (.fa 51 46 0 (.t 50))⟩,
    ⟨none, (.ld 52 none (.t 51))⟩,
    ⟨none, (.bs 53 5 none [(.t 52)])⟩,
    ⟨none, (.cvb 54 (.t 53))⟩,
    ⟨none, (.ar 55 .add (.t 46) (.t 54))⟩,
    ⟨none, (.mv (some 5) (.t 55))⟩])
  (.seq (.reg [⟨none, (.fa 56 44 2 (.t 1))⟩,
    ⟨none, (.ld 57 none (.t 56))⟩,
    ⟨none, (.mv (some 58) (.t 6))⟩,
    ⟨none, (.ea 59 46 (.t 57) (.t 58))⟩,
    ⟨none, (.fa 60 46 1 (.t 59))⟩,
    ⟨none, (.ld 61 none (.t 60))⟩,
    ⟨none, (.mv (some 7) (.t 61))⟩])
  (.seq (.reg [⟨none, (.mv (some 8) (.v (.int .i64 0)))⟩])
  (.block 2 (.loop ⟨[(5, (.lf .str)), (8, (.lf (.int .i64)))], [], [62, 63, 64, 65, 66, 67, 68, 69, 70, 71, 72, 73, 74, 75, 76, 77, 78, 79, 80].map .s⟩ (.seq (.seq (.reg [⟨none, (.mv (some 62) (.t 8))⟩,
    ⟨none, (.mv (some 63) (.t 7))⟩,
    ⟨none, (.ln 64 none (.t 63))⟩,
    ⟨none, (.ar 65 .lss (.t 62) (.t 64))⟩])
  (.cond (.t 65)
    .skip
    (.exit 2)))
  (.seq (.block 3 (.jn ⟨[(5, (.lf .str))], [], [68, 69, 70, 71, 72, 73].map .s⟩ (.seq (.reg [⟨none, (.mv (some 68) (.t 7))⟩,
    ⟨none, (.mv (some 69) (.t 8))⟩,
    ⟨none, (.ix 70 (.t 68) (.t 69))⟩,
    ⟨none, (.ar 71 .eql (.t 70) (.v (.int .u8 36)))⟩])
  (.cond (.t 71)
    (.reg [⟨none, (.mv (some 72) (.t 5))⟩,
    ⟨none, (.ar 73 .add (.t 72) (.v (.str [36])))⟩,
    ⟨none, (.mv (some 5) (.t 73))⟩])
    .skip))
  (.reg [⟨none, (.mv (some 74) (.t 5))⟩,
    ⟨none, (.mv (some 75) (.t 7))⟩,
    ⟨none, (.mv (some 76) (.t 8))⟩,
    ⟨none, (.mv (some 77) (.t 8))⟩,
    ⟨none, (.ar 78 .add (.t 77) (.v (.int .i64 1)))⟩,
    ⟨none, (.sc 79 none (.t 75) (some (.t 76)) (some (.t 78)))⟩,
    ⟨none, (.ar 80 .add (.t 74) (.t 79))⟩,
    ⟨none, (.mv (some 5) (.t 80))⟩])))
  (.reg [⟨none, (.mv (some 66) (.t 8))⟩,
    ⟨none, (.ar 67 .add (.t 66) (.v (.int .i64 1)))⟩,
    ⟨none, (.mv (some 8) (.t 67))⟩])))))))))
  (.reg [⟨none, (.mv (some 43) (.t 6))⟩,
    ⟨none, (.ar 44 .add (.t 43) (.v (.int .i64 1)))⟩,
    ⟨none, (.mv (some 6) (.t 44))⟩]))))))
  (.seq (.reg [⟨none, (.mv (some 81) (.t 5))⟩,
    ⟨none, (.mv (some 2) (.t 81))⟩,
    ⟨none, (.mv (some 3) (.v (.int .i64 0)))⟩])
  .ret))))))))
noncomputable def ent30 : TEnt := ⟨30, [(.agg 44 (.pair .str (.pair .str (.pair (.sl 46 (.agg 46 (.pair .byte .str))) (.int .i64)))))], (.tup (.pair .str (.int .i64))), fun x => F30 x, .plain⟩
theorem eq30 (x : dens ent30.as) : ent30.F x = evF [ent42, ent45, ent46] SHF dc30 [(.tmp 2), (.tmp 3)] ent30.as ent30.rs x := by kernel_rfl
/-- library/libraryref08.Right -/
noncomputable def F28 (a0 : Int × Int × Int × List UInt8 × List (List UInt8 × List UInt8 × (List (UInt8 × List UInt8)) × Int)) : Option (Int) :=
  cond (decide (a0.1 < (0 : Int)))
    (some (2 : Int))
    (cond (decide ((9999 : Int) < a0.1))
      (some (2 : Int))
      (cond (decide (a0.2.1 < (1 : Int)))
        (some (20 : Int))
        (cond (decide ((3 : Int) < a0.2.1))
          (some (20 : Int))
          (cond (decide (a0.2.2.1 < (1 : Int)))
            (some (1 : Int))
            (cond (decide ((4 : Int) < a0.2.2.1))
              (some (1 : Int))
              (cond (!decide ((List.length a0.2.2.2.1 : Int) = (3 : Int)))
                (some (3 : Int))
                (loopK (σ := Int) (fun p1 againp1 =>
                  cond (decide (p1 < (3 : Int)))
                    (gd (0 ≤ p1 ∧ p1 < (List.length a0.2.2.2.1 : Int)) <|
                    cond (decide ((UInt8.toNat (List.getD a0.2.2.2.1 (Int.toNat p1) 0) : Int) < (97 : Int)))
                      (some (3 : Int))
                      (gd (0 ≤ p1 ∧ p1 < (List.length a0.2.2.2.1 : Int)) <|
                      cond (decide ((122 : Int) < (UInt8.toNat (List.getD a0.2.2.2.1 (Int.toNat p1) 0) : Int)))
                        (some (3 : Int))
                        (bnd (IntKind.wrap .i64 (p1 + (1 : Int))) fun x2 =>
                        againp1 x2)))
                    (cond (decide ((64 : Int) < (List.length a0.2.2.2.2 : Int)))
                      (some (4 : Int))
                      (loopK (σ := Int) (fun p3 againp3 =>
                        cond (decide (p3 < (List.length a0.2.2.2.2 : Int)))
                          (gd (0 ≤ p3 ∧ p3 < (List.length a0.2.2.2.2 : Int)) <|
                          bindO (F42 (List.getD a0.2.2.2.2 (Int.toNat p3) ([], ([], ([], 0))))) fun y4 =>
                          cond (!decide (y4 = (0 : Int)))
                            (some y4)
                            (bnd (IntKind.wrap .i64 (p3 + (1 : Int))) fun x5 =>
                            againp3 x5))
                          (some (0 : Int))) (0 : Int)))) (0 : Int))))))))
def dc28 : DC :=
  (.seq (.reg [⟨none, (.bx 1 (some 24) (.t 0))⟩,
    ⟨none, (.mv (some 2) (.v (.int .i64 0)))⟩])
  (.seq (.seq (.reg [⟨none, (.fa 6 24 0 (.t 1))⟩,
    ⟨none, (.ld 7 none (.t 6))⟩,
    ⟨none, (.ar 8 .lss (.t 7) (.v (.int .i64 0)))⟩,
    ⟨none, (.mv (some 9) (.t 8))⟩,
    ⟨(some (9, false)), (.fa 10 24 0 (.t 1))⟩,
    ⟨(some (9, false)), (.ld 11 none (.t 10))⟩,
    ⟨(some (9, false)), (.ar 12 .gtr (.t 11) (.v (.int .i64 9999)))⟩,
    ⟨none, (.pick 13 (.t 9) (.v (.bool true)) (.t 12))⟩])
  (.cond (.t 13)
    (.seq (.reg [⟨none, (.mv (some 2) (.v (.int .i64 2)))⟩])
  .ret)
    .skip))
  (.seq (.seq (.reg [⟨none, (.fa 14 24 1 (.t 1))⟩,
    ⟨none, (.ld 15 none (.t 14))⟩,
    ⟨none, (.ar 16 .lss (.t 15) (.v (.int .i64 1)))⟩,
    ⟨none, (.mv (some 17) (.t 16))⟩,
    ⟨(some (17, false)), (.fa 18 24 1 (.t 1))⟩,
    ⟨(some (17, false)), (.ld 19 none (.t 18))⟩,
    ⟨(some (17, false)), (.ar 20 .gtr (.t 19) (.v (.int .i64 3)))⟩,
    ⟨none, (.pick 21 (.t 17) (.v (.bool true)) (.t 20))⟩])
  (.cond (.t 21)
    (.seq (.reg [⟨none, (.mv (some 2) (.v (.int .i64 20)))⟩])
  .ret)
    .skip))
  (.seq (.seq (.reg [⟨none, (.fa 22 24 2 (.t 1))⟩,
    ⟨none, (.ld 23 none (.t 22))⟩,
    ⟨none, (.ar 24 .lss (.t 23) (.v (.int .i64 1)))⟩,
    ⟨none, (.mv (some 25) (.t 24))⟩,
    ⟨(some (25, false)), (.fa 26 24 2 (.t 1))⟩,
    ⟨(some (25, false)), (.ld 27 none (.t 26))⟩,
    ⟨(some (25, false)), (.ar 28 .gtr (.t 27) (.v (.int .i64 4)))⟩,
    ⟨none, (.pick 29 (.t 25) (.v (.bool true)) (.t 28))⟩])
  (.cond (.t 29)
    (.seq (.reg [⟨none, (.mv (some 2) (.v (.int .i64 1)))⟩])
  .ret)
    .skip))
  (.seq (.seq (.reg [⟨none, (.fa 30 24 3 (.t 1))⟩,
    ⟨none, (.ld 31 none (.t 30))⟩,
    ⟨none, (.ln 32 none (.t 31))⟩,
    ⟨none, (.ar 33 .neq (.t 32) (.v (.int .i64 3)))⟩])
  (.cond (.t 33)
    (.seq (.reg [⟨none, (.mv (some 2) (.v (.int .i64 3)))⟩])
  .ret)
    .skip))
  (.seq (.seq (.reg [⟨none, (.mv (some 3) (.v (.int .i64 0)))⟩])
  (.block 0 (.loop ⟨[(3, (.lf (.int .i64)))], [], [2, 34, 35, 36, 37, 38, 39, 40, 41, 42, 43, 44, 45, 46, 47, 48, 49].map .s⟩ (.seq (.seq (.reg [⟨none, (.mv (some 34) (.t 3))⟩,
    ⟨none, (.ar 35 .lss (.t 34) (.v (.int .i64 3)))⟩])
  (.cond (.t 35)
    .skip
    (.exit 0)))
  (.seq (.block 1 (.seq (.reg [⟨none, (.fa 38 24 3 (.t 1))⟩,
    ⟨none, (.ld 39 none (.t 38))⟩,
    ⟨none, (.mv (some 40) (.t 3))⟩,
    ⟨none, (.ix 41 (.t 39) (.t 40))⟩,
    ⟨none, (.ar 42 .lss (.t 41) (.v (.int .u8 97)))⟩,
    ⟨none, (.mv (some 43) (.t 42))⟩,
    ⟨(some (43, false)), (.fa 44 24 3 (.t 1))⟩,
    ⟨(some (43, false)), (.ld 45 none (.t 44))⟩,
    ⟨(some (43, false)), (.mv (some 46) (.t 3))⟩,
    ⟨(some (43, false)), (.ix 47 (.t 45) (.t 46))⟩,
    ⟨(some (43, false)), (.ar 48 .gtr (.t 47) (.v (.int .u8 122)))⟩,
    ⟨none, (.pick 49 (.t 43) (.v (.bool true)) (.t 48))⟩])
  (.cond (.t 49)
    (.seq (.reg [⟨none, (.mv (some 2) (.v (.int .i64 3)))⟩])
  .ret)
    .skip)))
  (.reg [⟨none, (.mv (some 36) (.t 3))⟩,
    ⟨none, (.ar 37 .add (.t 36) (.v (.int .i64 1)))⟩,
    ⟨none, (.mv (some 3) (.t 37))⟩]))))))
  (.seq (.seq (.reg [⟨none, (.fa 50 24 4 (.t 1))⟩,
    ⟨none, (.ld 51 none (.t 50))⟩,
    ⟨none, (.ln 52 (some 44) (.t 51))⟩,
    ⟨none, (.ar 53 .gtr (.t 52) (.v (.int .i64 64)))⟩])
  (.cond (.t 53)
    (.seq (.reg [⟨none, (.mv (some 2) (.v (.int .i64 4)))⟩])
  .ret)
    .skip))
  (.seq (.seq (.reg [⟨none, (.mv (some 4) (.v (.int .i64 0)))⟩])
  (.block 2 (.loop ⟨[(4, (.lf (.int .i64)))], [], [2, 5, 54, 55, 56, 57, 58, 59, 60, 61, 62, 63, 64, 65, 66, 67, 68, 69].map .s⟩ (.seq (.seq (.reg [⟨none, (.mv (some 54) (.t 4))⟩,
    ⟨none, (.fa 55 24 4 (.t 1))⟩,
    ⟨none, (.ld 56 none (.t 55))⟩,
    ⟨none, (.ln 57 (some 44) (.t 56))⟩,
    ⟨none, (.ar 58 .lss (.t 54) (.t 57))⟩])
  (.cond (.t 58)
    .skip
    (.exit 2)))
  (.seq (.block 3 (.seq (.reg [⟨none, (.fa 61 24 4 (.t 1))⟩,
    ⟨none, (.ld 62 none (.t 61))⟩,
    ⟨none, (.mv (some 63) (.t 4))⟩,
    ⟨none, (.ea 64 44 (.t 62) (.t 63))⟩,
    ⟨none, (.ld 65 (some 44) (.t 64))⟩,
    ⟨none, (.ca (some 66) 42 [(.t 65)])⟩,
    ⟨none, (.mv (some 5) (.t 66))⟩])
  (.seq (.reg [⟨none, (.mv (some 67) (.t 5))⟩,
    ⟨none, (.ar 68 .neq (.t 67) (.v (.int .i64 0)))⟩])
  (.cond (.t 68)
    (.seq (.reg [⟨none, (.mv (some 69) (.t 5))⟩,
    ⟨none, (.mv (some 2) (.t 69))⟩])
  .ret)
    .skip))))
  (.reg [⟨none, (.mv (some 59) (.t 4))⟩,
    ⟨none, (.ar 60 .add (.t 59) (.v (.int .i64 1)))⟩,
    ⟨none, (.mv (some 4) (.t 60))⟩]))))))
  (.seq (.reg [⟨none, (.mv (some 2) (.v (.int .i64 0)))⟩])
  .ret)))))))))
noncomputable def ent28 : TEnt := ⟨28, [(.agg 24 (.pair (.int .i64) (.pair (.int .i64) (.pair (.int .i64) (.pair .str (.sl 44 (.agg 44 (.pair .str (.pair .str (.pair (.sl 46 (.agg 46 (.pair .byte .str))) (.int .i64)))))))))))], (.int .i64), fun x => F28 x, .plain⟩
theorem eq28 (x : dens ent28.as) : ent28.F x = evF [ent42] SHF dc28 [(.tmp 2)] ent28.as ent28.rs x := by kernel_rfl
/-- library/libraryref11.Decimal -/
noncomputable def F43 (a0 : Int) : Option (List UInt8) :=
  loopK (σ := Int × List UInt8) (fun p1 againp1 =>
    cond (decide ((10 : Int) ≤ p1.1))
      (gd ((10 : Int) ≠ 0) <|
      bnd (Int.tmod p1.1 (10 : Int)) fun x2 =>
      bnd (IntKind.wrap .i64 ((48 : Int) + x2)) fun x3 =>
      gd ((0 : Int) ≤ (IntKind.wrap .u8 x3) ∧ (IntKind.wrap .u8 x3) < (256 : Int)) <|
      gd (List.length [(UInt8.ofNat (Int.toNat (IntKind.wrap .u8 x3)))] + List.length p1.2 ≤ big) <|
      bnd ([(UInt8.ofNat (Int.toNat (IntKind.wrap .u8 x3)))] ++ p1.2) fun x4 =>
      gd ((10 : Int) ≠ 0) <|
      bnd (IntKind.wrap .i64 (Int.tdiv p1.1 (10 : Int))) fun x5 =>
      againp1 (x5, x4))
      (bnd (IntKind.wrap .i64 ((48 : Int) + p1.1)) fun x6 =>
      gd ((0 : Int) ≤ (IntKind.wrap .u8 x6) ∧ (IntKind.wrap .u8 x6) < (256 : Int)) <|
      gd (List.length [(UInt8.ofNat (Int.toNat (IntKind.wrap .u8 x6)))] + List.length p1.2 ≤ big) <|
      bnd ([(UInt8.ofNat (Int.toNat (IntKind.wrap .u8 x6)))] ++ p1.2) fun x7 =>
      some x7)) (a0, ([] : List UInt8))
def dc43 : DC :=
  (.seq (.reg [⟨none, (.mv (some 2) (.v (.str [])))⟩])
  (.seq (.reg [⟨none, (.mv (some 3) (.v (.str [])))⟩])
  (.seq (.block 0 (.loop ⟨[(0, (.lf (.int .i64))), (3, (.lf .str))], [], [4, 5, 6, 7, 8, 9, 10, 11, 12, 13, 14, 15].map .s ++ [10].map .f⟩ (.seq (.seq (.reg [⟨none, (.mv (some 4) (.t 0))⟩,
    ⟨none, (.ar 5 .geq (.t 4) (.v (.int .i64 10)))⟩])
  (.cond (.t 5)
    .skip
    (.exit 0)))
  (.block 1 (.seq (.reg [⟨none, (.mv (some 6) (.t 0))⟩,
    ⟨none, (.ar 7 .rem (.t 6) (.v (.int .i64 10)))⟩,
    ⟨none, (.ar 8 .add (.v (.int .i64 48)) (.t 7))⟩,
    ⟨none, (.cvi 9 .u8 (.t 8))⟩,
    ⟨none, (.bs 10 5 none [(.t 9)])⟩,
    ⟨none, (.cvb 11 (.t 10))⟩,
    ⟨none, (.mv (some 12) (.t 3))⟩,
    ⟨none, (.ar 13 .add (.t 11) (.t 12))⟩,
    ⟨none, (.mv (some 3) (.t 13))⟩])
  (.reg [⟨none, (.mv (some 14) (.t 0))⟩,
    ⟨none, (.ar 15 .quo (.t 14) (.v (.int .i64 10)))⟩,
    ⟨none, (.mv (some 0) (.t 15))⟩]))))))
  (.seq (.reg [⟨none, (.mv (some 16) (.t 0))⟩,
    ⟨none, (.ar 17 .add (.v (.int .i64 48)) (.t 16))⟩,
    ⟨none, (.cvi 18 .u8 (.t 17))⟩,
    ⟨none, (.bs 19 5 none [(.t 18)])⟩,
    ⟨none, (.cvb 20 (.t 19))⟩,
    ⟨none, (.mv (some 21) (.t 3))⟩,
    ⟨none, (.ar 22 .add (.t 20) (.t 21))⟩,
    ⟨none, (.mv (some 2) (.t 22))⟩])
  .ret))))
noncomputable def ent43 : TEnt := ⟨43, [(.int .i64)], .str, fun x => F43 x, .plain⟩
theorem eq43 (x : dens ent43.as) : ent43.F x = evF [] SHF dc43 [(.tmp 2)] ent43.as ent43.rs x := by kernel_rfl
/-- library/libraryref11.Kind -/
noncomputable def F44 (a0 : Int) : Option (List UInt8) :=
  cond (decide (a0 = (1 : Int)))
    (some ([98, 111, 111, 107] : List UInt8))
    (cond (decide (a0 = (2 : Int)))
      (some ([115, 101, 114, 105, 97, 108] : List UInt8))
      (cond (decide (a0 = (3 : Int)))
        (some ([109, 97, 112] : List UInt8))
        (some ([100, 105, 103, 105, 116, 97, 108] : List UInt8))))
def dc44 : DC :=
  (.seq (.reg [⟨none, (.mv (some 2) (.v (.str [])))⟩])
  (.seq (.seq (.reg [⟨none, (.mv (some 3) (.t 0))⟩])
  (.block 0 (.seq (.reg [⟨none, (.ar 5 .eql (.t 3) (.v (.int .i64 1)))⟩,
    ⟨none, (.mv (some 4) (.t 5))⟩])
  (.cond (.t 4)
    (.seq (.reg [⟨none, (.mv (some 2) (.v (.str [98, 111, 111, 107])))⟩])
  .ret)
    (.seq (.reg [⟨none, (.ar 7 .eql (.t 3) (.v (.int .i64 2)))⟩,
    ⟨none, (.mv (some 6) (.t 7))⟩])
  (.cond (.t 6)
    (.seq (.reg [⟨none, (.mv (some 2) (.v (.str [115, 101, 114, 105, 97, 108])))⟩])
  .ret)
    (.seq (.reg [⟨none, (.ar 9 .eql (.t 3) (.v (.int .i64 3)))⟩,
    ⟨none, (.mv (some 8) (.t 9))⟩])
  (.cond (.t 8)
    (.seq (.reg [⟨none, (.mv (some 2) (.v (.str [109, 97, 112])))⟩])
  .ret)
    .skip))))))))
  (.seq (.reg [⟨none, (.mv (some 2) (.v (.str [100, 105, 103, 105, 116, 97, 108])))⟩])
  .ret)))
noncomputable def ent44 : TEnt := ⟨44, [(.int .i64)], .str, fun x => F44 x, .plain⟩
theorem eq44 (x : dens ent44.as) : ent44.F x = evF [] SHF dc44 [(.tmp 2)] ent44.as ent44.rs x := by kernel_rfl
/-- library/libraryref11.header -/
noncomputable def F29 (a0 : Int) (a1 : Int) (a2 : Int) (a3 : List UInt8) : Option (List UInt8) :=
  bindO (F43 a0) fun y1 =>
  gd (List.length ([61] : List UInt8) + List.length y1 ≤ big) <|
  bnd (([61] : List UInt8) ++ y1) fun x2 =>
  gd (List.length x2 + List.length ([32] : List UInt8) ≤ big) <|
  bnd (x2 ++ ([32] : List UInt8)) fun x3 =>
  bindO (F43 a1) fun y4 =>
  gd (List.length x3 + List.length y4 ≤ big) <|
  bnd (x3 ++ y4) fun x5 =>
  gd (List.length x5 + List.length ([32] : List UInt8) ≤ big) <|
  bnd (x5 ++ ([32] : List UInt8)) fun x6 =>
  bindO (F44 a2) fun y7 =>
  gd (List.length x6 + List.length y7 ≤ big) <|
  bnd (x6 ++ y7) fun x8 =>
  gd (List.length x8 + List.length ([32] : List UInt8) ≤ big) <|
  bnd (x8 ++ ([32] : List UInt8)) fun x9 =>
  gd (List.length x9 + List.length a3 ≤ big) <|
  bnd (x9 ++ a3) fun x10 =>
  some x10
def dc29 : DC :=
  (.seq (.reg [⟨none, (.mv (some 8) (.v (.str [])))⟩])
  (.seq (.reg [⟨none, (.mv (some 9) (.t 0))⟩,
    ⟨none, (.ca (some 10) 43 [(.t 9)])⟩,
    ⟨none, (.ar 11 .add (.v (.str [61])) (.t 10))⟩,
    ⟨none, (.ar 12 .add (.t 11) (.v (.str [32])))⟩,
    ⟨none, (.mv (some 13) (.t 1))⟩,
    ⟨none, (.ca (some 14) 43 [(.t 13)])⟩,
    ⟨none, (.ar 15 .add (.t 12) (.t 14))⟩,
    ⟨none, (.ar 16 .add (.t 15) (.v (.str [32])))⟩,
    ⟨none, (.mv (some 17) (.t 2))⟩,
    ⟨none, (.ca (some 18) 44 [(.t 17)])⟩,
    ⟨none, (.ar 19 .add (.t 16) (.t 18))⟩,
    ⟨none, (.ar 20 .add (.t 19) (.v (.str [32])))⟩,
    ⟨none, (.mv (some 21) (.t 3))⟩,
    ⟨none, (.ar 22 .add (.t 20) (.t 21))⟩,
    ⟨none, (.mv (some 8) (.t 22))⟩])
  .ret))
noncomputable def ent29 : TEnt := ⟨29, [(.int .i64), (.int .i64), (.int .i64), .str], .str, fun x => F29 x.1 x.2.1 x.2.2.1 x.2.2.2, .plain⟩
theorem eq29 (x : dens ent29.as) : ent29.F x = evF [ent43, ent44] SHF dc29 [(.tmp 8)] ent29.as ent29.rs x := by kernel_rfl
/-- library/libraryref11.Print -/
noncomputable def F12 (a0 : Int × Int × Int × List UInt8 × List (List UInt8 × List UInt8 × (List (UInt8 × List UInt8)) × Int)) : Option (List UInt8 × Int) :=
  bindO (F28 a0) fun y1 =>
  cond (!decide (y1 = (0 : Int)))
    (some (([] : List UInt8), y1))
    (bindO (F29 a0.1 a0.2.1 a0.2.2.1 a0.2.2.2.1) fun y2 =>
    gd (List.length y2 + List.length ([10] : List UInt8) ≤ big) <|
    bnd (y2 ++ ([10] : List UInt8)) fun x3 =>
    loopK (σ := List UInt8 × Int) (fun p4 againp4 =>
      cond (decide (p4.2 < (List.length a0.2.2.2.2 : Int)))
        (gd (0 ≤ p4.2 ∧ p4.2 < (List.length a0.2.2.2.2 : Int)) <|
        bindO (F30 (List.getD a0.2.2.2.2 (Int.toNat p4.2) ([], ([], ([], 0))))) fun y5 =>
        gd (List.length p4.1 + List.length y5.1 ≤ big) <|
        bnd (p4.1 ++ y5.1) fun x6 =>
        gd (List.length x6 + List.length ([10] : List UInt8) ≤ big) <|
        bnd (x6 ++ ([10] : List UInt8)) fun x7 =>
        bnd (IntKind.wrap .i64 (p4.2 + (1 : Int))) fun x8 =>
        againp4 (x7, x8))
        (gd (List.length p4.1 + List.length ([10] : List UInt8) ≤ big) <|
        bnd (p4.1 ++ ([10] : List UInt8)) fun x9 =>
        some (x9, (0 : Int)))) (x3, (0 : Int)))
def dc12 : DC :=
  (.seq (.reg [⟨none, (.bx 1 (some 24) (.t 0))⟩,
    ⟨none, (.mv (some 2) (.v (.str [])))⟩,
    ⟨none, (.mv (some 3) (.v (.int .i64 0)))⟩])
  (.seq (.reg [⟨none, (.ld 9 (some 24) (.t 1))⟩,
    ⟨none, (.ca (some 10) 28 [(.t 9)])⟩,
    ⟨none, (.mv (some 4) (.t 10))⟩])
  (.seq (.seq (.reg [⟨none, (.mv (some 11) (.t 4))⟩,
    ⟨none, (.ar 12 .neq (.t 11) (.v (.int .i64 0)))⟩])
  (.cond (.t 12)
    (.seq (.reg [⟨none, (.mv (some 13) (.t 4))⟩,
    ⟨none, (.mv (some 2) (.v (.str [])))⟩,
    ⟨none, (.mv (some 3) (.t 13))⟩])
  .ret)
    .skip))
  (.seq (.reg [⟨none, (.fa 14 24 0 (.t 1))⟩,
    ⟨none, (.ld 15 none (.t 14))⟩,
    ⟨none, (.fa 16 24 1 (.t 1))⟩,
    ⟨none, (.ld 17 none (.t 16))⟩,
    ⟨none, (.fa 18 24 2 (.t 1))⟩,
    ⟨none, (.ld 19 none (.t 18))⟩,
    ⟨none, (.fa 20 24 3 (.t 1))⟩,
    ⟨none, (.ld 21 none (.t 20))⟩,
    ⟨none, (.ca (some 22) 29 [(.t 15), (.t 17), (.t 19), (.t 21)])⟩,
    ⟨none, (.ar 23 .add (.t 22) (.v (.str [10])))⟩,
    ⟨none, (.mv (some 5) (.t 23))⟩])
  (.seq (.seq (.reg [⟨none, (.mv (some 6) (.v (.int .i64 0)))⟩])
  (.block 0 (.loop ⟨[(5, (.lf .str)), (6, (.lf (.int .i64)))], [], [7, 8, 24, 25, 26, 27, 28, 29, 30, 31, 32, 33, 34, 35, 36, 37, 38, 39, 40, 41, 42, 43].map .s⟩ (.seq (.seq (.reg [⟨none, (.mv (some 24) (.t 6))⟩,
    ⟨none, (.fa 25 24 4 (.t 1))⟩,
    ⟨none, (.ld 26 none (.t 25))⟩,
    ⟨none, (.ln 27 (some 44) (.t 26))⟩,
    ⟨none, (.ar 28 .lss (.t 24) (.t 27))⟩])
  (.cond (.t 28)
    .skip
    (.exit 0)))
  (.seq (.block 1 (.seq (.reg [⟨none, (.fa 32 24 4 (.t 1))⟩,
    ⟨none, (.ld 33 none (.t 32))⟩,
    ⟨none, (.mv (some 34) (.t 6))⟩,
    ⟨none, (.ea 35 44 (.t 33) (.t 34))⟩,
    ⟨none, (.ld 36 (some 44) (.t 35))⟩,
    ⟨none, (.ca (some 37) 30 [(.t 36)])⟩,
    ⟨none, (.mv (some 31) (.t 37))⟩,
    ⟨none, (.ex 38 0 (.t 31))⟩,
    ⟨none, (.ex 39 1 (.t 31))⟩,
    ⟨none, (.mv (some 7) (.t 38))⟩,
    ⟨none, (.mv (some 8) (.t 39))⟩])
  (.reg [⟨none, (.mv (some 40) (.t 5))⟩,
    ⟨none, (.mv (some 41) (.t 7))⟩,
    ⟨none, (.ar 42 .add (.t 40) (.t 41))⟩,
    ⟨none, (.ar 43 .add (.t 42) (.v (.str [10])))⟩,
    ⟨none, (.mv (some 5) (.t 43))⟩])))
  (.reg [⟨none, (.mv (some 29) (.t 6))⟩,
    ⟨none, (.ar 30 .add (.t 29) (.v (.int .i64 1)))⟩,
    ⟨none, (.mv (some 6) (.t 30))⟩]))))))
  (.seq (.reg [⟨none, (.mv (some 44) (.t 5))⟩,
    ⟨none, (.ar 45 .add (.t 44) (.v (.str [10])))⟩,
    ⟨none, (.mv (some 2) (.t 45))⟩,
    ⟨none, (.mv (some 3) (.v (.int .i64 0)))⟩])
  .ret))))))
noncomputable def ent12 : TEnt := ⟨12, [(.agg 24 (.pair (.int .i64) (.pair (.int .i64) (.pair (.int .i64) (.pair .str (.sl 44 (.agg 44 (.pair .str (.pair .str (.pair (.sl 46 (.agg 46 (.pair .byte .str))) (.int .i64)))))))))))], (.tup (.pair .str (.int .i64))), fun x => F12 x, .plain⟩
theorem eq12 (x : dens ent12.as) : ent12.F x = evF [ent28, ent29, ent30] SHF dc12 [(.tmp 2), (.tmp 3)] ent12.as ent12.rs x := by kernel_rfl
/-- library/libraryref07.read -/
noncomputable def F77 (a0 : List UInt8) : Option ((List UInt8 × List UInt8 × (List (UInt8 × List UInt8)) × Int) × Bool) :=
  cond (decide ((List.length a0 : Int) < (8 : Int)))
    (some ((([] : List UInt8), ([] : List UInt8), ([] : List (UInt8 × List UInt8)), (0 : Int)), false))
    (gd (0 ≤ (3 : Int) ∧ (3 : Int) ≤ (List.length a0 : Int)) <|
    bnd (List.take (Int.toNat (3 : Int)) a0) fun x1 =>
    jn (σ := Int × (List UInt8 × List UInt8 × Unit × Int)) (fun nextj2 =>
      gd (0 ≤ (3 : Int) ∧ (3 : Int) < (List.length a0 : Int)) <|
      cond (decide ((UInt8.toNat (List.getD a0 (Int.toNat (3 : Int)) 0) : Int) = (64 : Int)))
        (bnd (IntKind.wrap .i64 ((3 : Int) + (1 : Int))) fun x3 =>
        loopK (σ := Int × (List UInt8 × List UInt8 × Unit × Int)) (fun p4 againp4 =>
          cond (decide (p4.1 < (List.length a0 : Int)))
            (gd (0 ≤ p4.1 ∧ p4.1 < (List.length a0 : Int)) <|
            bindO (F67 (List.getD a0 (Int.toNat p4.1) 0)) fun y5 =>
            cond (y5)
              (cond (decide (p4.2.2.2.2 ≤ (9999 : Int)))
                (bnd (IntKind.wrap .i64 (p4.2.2.2.2 * (10 : Int))) fun x6 =>
                gd (0 ≤ p4.1 ∧ p4.1 < (List.length a0 : Int)) <|
                bnd (IntKind.wrap .i64 (x6 + (IntKind.wrap .i64 (UInt8.toNat (List.getD a0 (Int.toNat p4.1) 0) : Int)))) fun x7 =>
                bnd (IntKind.wrap .i64 (x7 - (48 : Int))) fun x8 =>
                bnd (IntKind.wrap .i64 (p4.1 + (1 : Int))) fun x9 =>
                againp4 (x9, (p4.2.1, p4.2.2.1, (), x8)))
                (nextj2 (p4.1, (p4.2.1, p4.2.2.1, (), p4.2.2.2.2))))
              (nextj2 (p4.1, (p4.2.1, p4.2.2.1, (), p4.2.2.2.2))))
            (nextj2 (p4.1, (p4.2.1, p4.2.2.1, (), p4.2.2.2.2)))) (x3, (x1, ([] : List UInt8), (), (0 : Int))))
        (nextj2 ((3 : Int), (x1, ([] : List UInt8), (), (0 : Int))))) fun j2 =>
    bnd (IntKind.wrap .i64 (j2.1 + (4 : Int))) fun x10 =>
    cond (decide ((List.length a0 : Int) < x10))
      (some ((j2.2.1, j2.2.2.1, ([] : List (UInt8 × List UInt8)), j2.2.2.2.2), false))
      (gd (0 ≤ j2.1 ∧ j2.1 < (List.length a0 : Int)) <|
      cond (!decide ((UInt8.toNat (List.getD a0 (Int.toNat j2.1) 0) : Int) = (32 : Int)))
        (some ((j2.2.1, j2.2.2.1, ([] : List (UInt8 × List UInt8)), j2.2.2.2.2), false))
        (bnd (IntKind.wrap .i64 (j2.1 + (3 : Int))) fun x11 =>
        gd (0 ≤ x11 ∧ x11 < (List.length a0 : Int)) <|
        cond (!decide ((UInt8.toNat (List.getD a0 (Int.toNat x11) 0) : Int) = (32 : Int)))
          (some ((j2.2.1, j2.2.2.1, ([] : List (UInt8 × List UInt8)), j2.2.2.2.2), false))
          (bnd (IntKind.wrap .i64 (j2.1 + (1 : Int))) fun x12 =>
          gd (0 ≤ x12 ∧ x12 < (List.length a0 : Int)) <|
          bnd (IntKind.wrap .i64 (j2.1 + (2 : Int))) fun x13 =>
          gd (0 ≤ x13 ∧ x13 < (List.length a0 : Int)) <|
          gdN (List.length [(List.getD a0 (Int.toNat x12) 0), (List.getD a0 (Int.toNat x13) 0)]) (List.length [(List.getD a0 (Int.toNat x12) 0), (List.getD a0 (Int.toNat x13) 0)]) <|
          gd (0 < List.length [(List.getD a0 (Int.toNat x12) 0), (List.getD a0 (Int.toNat x13) 0)]) <|
          gdN (List.length [(List.getD a0 (Int.toNat x12) 0), (List.getD a0 (Int.toNat x13) 0)]) (List.length [(List.getD a0 (Int.toNat x12) 0), (List.getD a0 (Int.toNat x13) 0)]) <|
          loopK (σ := Int × (List UInt8 × List UInt8 × Unit × Int) × List (UInt8)) (fun p14 againp14 =>
            cond (decide (p14.1 < (2 : Int)))
              (gd (0 ≤ p14.1 ∧ p14.1 < (List.length p14.2.2 : Int)) <|
              gd ((Int.toNat p14.1) < List.length p14.2.2) <|
              cond (decide ((UInt8.toNat (List.getD p14.2.2 (Int.toNat p14.1) 0) : Int) = (35 : Int)))
                (gd (0 ≤ p14.1 ∧ p14.1 < (List.length p14.2.2 : Int)) <|
                gd ((Int.toNat p14.1) < List.length p14.2.2) <|
                gd ((0 : Int) ≤ (32 : Int) ∧ (32 : Int) < (256 : Int)) <|
                bnd (IntKind.wrap .i64 (p14.1 + (1 : Int))) fun x15 =>
                againp14 (x15, (p14.2.1.1, p14.2.1.2.1, (), p14.2.1.2.2.2), (List.set p14.2.2 (Int.toNat p14.1) (UInt8.ofNat (Int.toNat (32 : Int))))))
                (gd (0 ≤ p14.1 ∧ p14.1 < (List.length p14.2.2 : Int)) <|
                gd ((Int.toNat p14.1) < List.length p14.2.2) <|
                cond (decide ((UInt8.toNat (List.getD p14.2.2 (Int.toNat p14.1) 0) : Int) = (32 : Int)))
                  (some ((j2.2.1, j2.2.2.1, ([] : List (UInt8 × List UInt8)), j2.2.2.2.2), false))
                  (bnd (IntKind.wrap .i64 (p14.1 + (1 : Int))) fun x16 =>
                  againp14 (x16, (p14.2.1.1, p14.2.1.2.1, (), p14.2.1.2.2.2), p14.2.2))))
              (bnd (IntKind.wrap .i64 (j2.1 + (4 : Int))) fun x17 =>
              gdN (0) (List.length ([] : List (UInt8 × List UInt8))) <|
              loopK (σ := Int × (List UInt8 × List UInt8 × Unit × Int) × (List UInt8 × List UInt8 × (List (UInt8 × List UInt8)) × Int)) (fun p18 againp18 =>
                cond (decide (p18.1 < (List.length a0 : Int)))
                  (gd (0 ≤ p18.1 ∧ p18.1 < (List.length a0 : Int)) <|
                  cond (!decide ((UInt8.toNat (List.getD a0 (Int.toNat p18.1) 0) : Int) = (36 : Int)))
                    (some ((p18.2.2.1, p18.2.2.2.1, p18.2.2.2.2.1, p18.2.2.2.2.2), false))
                    (bnd (IntKind.wrap .i64 (p18.1 + (1 : Int))) fun x19 =>
                    cond (decide ((List.length a0 : Int) ≤ x19))
                      (some ((p18.2.2.1, p18.2.2.2.1, p18.2.2.2.2.1, p18.2.2.2.2.2), false))
                      (bnd (IntKind.wrap .i64 (p18.1 + (1 : Int))) fun x20 =>
                      gd (0 ≤ x20 ∧ x20 < (List.length a0 : Int)) <|
                      bnd (IntKind.wrap .i64 (p18.1 + (2 : Int))) fun x21 =>
                      jn (σ := Int × UInt8 × List UInt8) (fun nextj22 =>
                        loopK (σ := Int × Bool × UInt8 × List UInt8) (fun p23 againp23 =>
                          cond (p23.2.1)
                            (cond (decide (p23.1 < (List.length a0 : Int)))
                              (gd (0 ≤ p23.1 ∧ p23.1 < (List.length a0 : Int)) <|
                              cond (!decide ((UInt8.toNat (List.getD a0 (Int.toNat p23.1) 0) : Int) = (36 : Int)))
                                (bnd (IntKind.wrap .i64 (p23.1 + (1 : Int))) fun x24 =>
                                gd (0 ≤ p23.1 ∧ p23.1 ≤ x24 ∧ x24 ≤ (List.length a0 : Int)) <|
                                bnd (List.drop (Int.toNat p23.1) (List.take (Int.toNat x24) a0)) fun x25 =>
                                gd (List.length p23.2.2.2 + List.length x25 ≤ big) <|
                                bnd (p23.2.2.2 ++ x25) fun x26 =>
                                bnd (IntKind.wrap .i64 (p23.1 + (1 : Int))) fun x27 =>
                                againp23 (x27, p23.2.1, (p23.2.2.1, x26)))
                                (jn (σ := Bool) (fun nextj28 =>
                                  bnd (IntKind.wrap .i64 (p23.1 + (1 : Int))) fun x29 =>
                                  cond (decide (x29 < (List.length a0 : Int)))
                                    (bnd (IntKind.wrap .i64 (p23.1 + (1 : Int))) fun x30 =>
                                    gd (0 ≤ x30 ∧ x30 < (List.length a0 : Int)) <|
                                    nextj28 (decide ((UInt8.toNat (List.getD a0 (Int.toNat x30) 0) : Int) = (36 : Int))))
                                    (nextj28 false)) fun j28 =>
                                cond (j28)
                                  (gd (List.length p23.2.2.2 + List.length ([36] : List UInt8) ≤ big) <|
                                  bnd (p23.2.2.2 ++ ([36] : List UInt8)) fun x31 =>
                                  bnd (IntKind.wrap .i64 (p23.1 + (2 : Int))) fun x32 =>
                                  againp23 (x32, p23.2.1, (p23.2.2.1, x31)))
                                  (againp23 (p23.1, false, p23.2.2))))
                              (nextj22 (p23.1, p23.2.2)))
                            (nextj22 (p23.1, p23.2.2))) (x21, true, ((List.getD a0 (Int.toNat x20) 0), ([] : List UInt8)))) fun j22 =>
                      gdN (List.length p18.2.2.2.2.1) (List.length p18.2.2.2.2.1) <|
                      gd (List.length p18.2.2.2.2.1 + List.length [j22.2] ≤ big) <|
                      bnd (p18.2.2.2.2.1 ++ [j22.2]) fun l33 =>
                      gdN (List.length l33) (List.length l33) <|
                      againp18 (j22.1, (p18.2.1.1, p18.2.1.2.1, (), p18.2.1.2.2.2), (p18.2.2.1, p18.2.2.2.1, l33, p18.2.2.2.2.2)))))
                  (some ((p18.2.2.1, p18.2.2.2.1, p18.2.2.2.2.1, p18.2.2.2.2.2), true))) (x17, (p14.2.1.1, p14.2.1.2.1, (), p14.2.1.2.2.2), (j2.2.1, p14.2.2, ([] : List (UInt8 × List UInt8)), j2.2.2.2.2)))) ((0 : Int), (([] : List UInt8), ([] : List UInt8), (), (0 : Int)), [(List.getD a0 (Int.toNat x12) 0), (List.getD a0 (Int.toNat x13) 0)])))))
def dc77 : DC :=
  (.seq (.reg [⟨none, (.al 2 (.agg 44 [(.str []), (.str []), (.sl (some 5900000) 46 []), (.int .i64 0)]))⟩,
    ⟨none, (.mv (some 3) (.v (.bool false)))⟩])
  (.seq (.reg [⟨none, (.bd 10 44 [(.str []), (.str []), (.sl (some 5900000) 46 []), (.int .i64 0)] [] [])⟩,
    ⟨none, (.al 4 (.agg 44 [(.str []), (.str []), (.sl (some 5900000) 46 []), (.int .i64 0)]))⟩,
    ⟨none, (.st (some 44) (.t 4) (.t 10))⟩])
  (.seq (.seq (.reg [⟨none, (.mv (some 11) (.t 0))⟩,
    ⟨none, (.ln 12 none (.t 11))⟩,
    ⟨none, (.ar 13 .lss (.t 12) (.v (.int .i64 8)))⟩])
  (.cond (.t 13)
    (.seq (.reg [⟨none, (.ld 14 (some 44) (.t 4))⟩,
    ⟨none, (.st (some 44) (.t 2) (.t 14))⟩,
    ⟨none, (.mv (some 3) (.v (.bool false)))⟩])
  .ret)
    .skip))
  (.seq (.reg [⟨none, (.mv (some 15) (.t 0))⟩,
    ⟨none, (.sc 16 none (.t 15) none (some (.v (.int .i64 3))))⟩,
    ⟨none, (.fa 17 44 0 (.t 4))⟩,
    ⟨none, (.st none (.t 17) (.t 16))⟩])
  (.seq (.reg [⟨none, (.mv (some 5) (.v (.int .i64 3)))⟩])
  (.jn ⟨[(5, (.lf (.int .i64)))], [(4, (.agg 44 (.pair (.lf .str) (.pair (.lf .str) (.pair (.con (.sl (some 5900000) 46 [])) (.lf (.int .i64)))))))], [18, 19, 20, 21, 22, 23, 24, 25, 26, 27, 28, 29, 30, 31, 32, 33, 34, 35, 36, 37, 38, 39, 40, 41, 42, 43, 44, 45, 46, 47, 48, 49, 50].map .s⟩ (.seq (.reg [⟨none, (.mv (some 18) (.t 0))⟩,
    ⟨none, (.mv (some 19) (.t 5))⟩,
    ⟨none, (.ix 20 (.t 18) (.t 19))⟩,
    ⟨none, (.ar 21 .eql (.t 20) (.v (.int .u8 64)))⟩])
  (.cond (.t 21)
    (.seq (.reg [⟨none, (.mv (some 22) (.t 5))⟩,
    ⟨none, (.ar 23 .add (.t 22) (.v (.int .i64 1)))⟩,
    ⟨none, (.mv (some 5) (.t 23))⟩])
  (.block 0 (.loop ⟨[(5, (.lf (.int .i64)))], [(4, (.agg 44 (.pair (.lf .str) (.pair (.lf .str) (.pair (.con (.sl (some 5900000) 46 [])) (.lf (.int .i64)))))))], [24, 25, 26, 27, 28, 29, 30, 31, 32, 33, 34, 35, 36, 37, 38, 39, 40, 41, 42, 43, 44, 45, 46, 47, 48, 49, 50].map .s⟩ (.seq (.seq (.reg [⟨none, (.mv (some 24) (.t 5))⟩,
    ⟨none, (.mv (some 25) (.t 0))⟩,
    ⟨none, (.ln 26 none (.t 25))⟩,
    ⟨none, (.ar 27 .lss (.t 24) (.t 26))⟩,
    ⟨none, (.mv (some 28) (.t 27))⟩,
    ⟨(some (28, true)), (.mv (some 29) (.t 0))⟩,
    ⟨(some (28, true)), (.mv (some 30) (.t 5))⟩,
    ⟨(some (28, true)), (.ix 31 (.t 29) (.t 30))⟩,
    ⟨(some (28, true)), (.ca (some 32) 67 [(.t 31)])⟩,
    ⟨none, (.pick 33 (.t 28) (.t 32) (.v (.bool false)))⟩,
    ⟨none, (.mv (some 34) (.t 33))⟩,
    ⟨(some (34, true)), (.fa 35 44 3 (.t 4))⟩,
    ⟨(some (34, true)), (.ld 36 none (.t 35))⟩,
    ⟨(some (34, true)), (.ar 37 .leq (.t 36) (.v (.int .i64 9999)))⟩,
    ⟨none, (.pick 38 (.t 34) (.t 37) (.v (.bool false)))⟩])
  (.cond (.t 38)
    .skip
    (.exit 0)))
  (.block 1 (.seq (.reg [⟨none, (.fa 39 44 3 (.t 4))⟩,
    ⟨none, (.ld 40 none (.t 39))⟩,
    ⟨none, (.ar 41 .mul (.t 40) (.v (.int .i64 10)))⟩,
    ⟨none, (.mv (some 42) (.t 0))⟩,
    ⟨none, (.mv (some 43) (.t 5))⟩,
    ⟨none, (.ix 44 (.t 42) (.t 43))⟩,
    ⟨none, (.cvi 45 .i64 (.t 44))⟩,
    ⟨none, (.ar 46 .add (.t 41) (.t 45))⟩,
    ⟨none, (.ar 47 .sub (.t 46) (.v (.int .i64 48)))⟩,
    ⟨none, (.fa 48 44 3 (.t 4))⟩,
    ⟨none, (.st none (.t 48) (.t 47))⟩])
  (.reg [⟨none, (.mv (some 49) (.t 5))⟩,
    ⟨none, (.ar 50 .add (.t 49) (.v (.int .i64 1)))⟩,
    ⟨none, (.mv (some 5) (.t 50))⟩])))))))
    .skip))
  (.seq (.seq (.reg [⟨none, (.mv (some 51) (.t 5))⟩,
    ⟨none, (.ar 52 .add (.t 51) (.v (.int .i64 4)))⟩,
    ⟨none, (.mv (some 53) (.t 0))⟩,
    ⟨none, (.ln 54 none (.t 53))⟩,
    ⟨none, (.ar 55 .gtr (.t 52) (.t 54))⟩,
    ⟨none, (.mv (some 56) (.t 55))⟩,
    ⟨(some (56, false)), (.mv (some 57) (.t 0))⟩,
    ⟨(some (56, false)), (.mv (some 58) (.t 5))⟩,
    ⟨(some (56, false)), (.ix 59 (.t 57) (.t 58))⟩,
    ⟨(some (56, false)), (.ar 60 .neq (.t 59) (.v (.int .u8 32)))⟩,
    ⟨none, (.pick 61 (.t 56) (.v (.bool true)) (.t 60))⟩,
    ⟨none, (.mv (some 62) (.t 61))⟩,
    ⟨(some (62, false)), (.mv (some 63) (.t 0))⟩,
    ⟨(some (62, false)), (.mv (some 64) (.t 5))⟩,
    ⟨(some (62, false)), (.ar 65 .add (.t 64) (.v (.int .i64 3)))⟩,
    ⟨(some (62, false)), (.ix 66 (.t 63) (.t 65))⟩,
    ⟨(some (62, false)), (.ar 67 .neq (.t 66) (.v (.int .u8 32)))⟩,
    ⟨none, (.pick 68 (.t 62) (.v (.bool true)) (.t 67))⟩])
  (.cond (.t 68)
    (.seq (.reg [⟨none, (.ld 69 (some 44) (.t 4))⟩,
    ⟨none, (.st (some 44) (.t 2) (.t 69))⟩,
    ⟨none, (.mv (some 3) (.v (.bool false)))⟩])
  .ret)
    .skip))
  (.seq (.reg [⟨none, (.mv (some 70) (.t 0))⟩,
    ⟨none, (.mv (some 71) (.t 5))⟩,
    ⟨none, (.ar 72 .add (.t 71) (.v (.int .i64 1)))⟩,
    ⟨none, (.ix 73 (.t 70) (.t 72))⟩,
    ⟨none, (.mv (some 74) (.t 0))⟩,
    ⟨none, (.mv (some 75) (.t 5))⟩,
    ⟨none, (.ar 76 .add (.t 75) (.v (.int .i64 2)))⟩,
    ⟨none, (.ix 77 (.t 74) (.t 76))⟩,
    ⟨none, (.bs 78 5 none [(.t 73), (.t 77)])⟩,
    ⟨none, (.mv (some 6) (.t 78))⟩])
  (.seq (.seq (.reg [⟨none, (.mv (some 7) (.v (.int .i64 0)))⟩])
  (.seq (.gh 5000006 [6])
  (.block 2 (.loop ⟨[(7, (.lf (.int .i64)))], [(2, (.agg 44 (.pair (.lf .str) (.pair (.lf .str) (.pair (.con (.sl (some 5900000) 46 [])) (.lf (.int .i64))))))), (78, (.lf (.arr 1000005 .byte)))], [3, 79, 80, 81, 82, 83, 84, 85, 86, 87, 88, 89, 90, 91, 92, 93, 94, 95, 96].map .s⟩ (.seq (.seq (.reg [⟨none, (.mv (some 79) (.t 7))⟩,
    ⟨none, (.ar 80 .lss (.t 79) (.v (.int .i64 2)))⟩])
  (.cond (.t 80)
    .skip
    (.exit 2)))
  (.seq (.block 3 (.seq (.reg [⟨none, (.mv (some 83) (.t 6))⟩,
    ⟨none, (.mv (some 84) (.t 7))⟩,
    ⟨none, (.ea 85 5 (.t 83) (.t 84))⟩,
    ⟨none, (.ld 86 none (.t 85))⟩,
    ⟨none, (.ar 87 .eql (.t 86) (.v (.int .u8 35)))⟩])
  (.cond (.t 87)
    (.reg [⟨none, (.mv (some 88) (.t 6))⟩,
    ⟨none, (.mv (some 89) (.t 7))⟩,
    ⟨none, (.ea 90 5 (.t 88) (.t 89))⟩,
    ⟨none, (.st none (.t 90) (.v (.int .u8 32)))⟩])
    (.seq (.reg [⟨none, (.mv (some 91) (.t 6))⟩,
    ⟨none, (.mv (some 92) (.t 7))⟩,
    ⟨none, (.ea 93 5 (.t 91) (.t 92))⟩,
    ⟨none, (.ld 94 none (.t 93))⟩,
    ⟨none, (.ar 95 .eql (.t 94) (.v (.int .u8 32)))⟩])
  (.cond (.t 95)
    (.seq (.reg [⟨none, (.ld 96 (some 44) (.t 4))⟩,
    ⟨none, (.st (some 44) (.t 2) (.t 96))⟩,
    ⟨none, (.mv (some 3) (.v (.bool false)))⟩])
  .ret)
    .skip)))))
  (.reg [⟨none, (.mv (some 81) (.t 7))⟩,
    ⟨none, (.ar 82 .add (.t 81) (.v (.int .i64 1)))⟩,
    ⟨none, (.mv (some 7) (.t 82))⟩])))))))
  (.seq (.seq (.gh 78 [])
  (.reg [⟨none, (.mv (some 97) (.t 6))⟩,
    ⟨none, (.cvb 98 (.t 97))⟩,
    ⟨none, (.fa 99 44 1 (.t 4))⟩,
    ⟨none, (.st none (.t 99) (.t 98))⟩]))
  (.seq (.reg [⟨none, (.mv (some 100) (.t 5))⟩,
    ⟨none, (.ar 101 .add (.t 100) (.v (.int .i64 4)))⟩,
    ⟨none, (.mv (some 5) (.t 101))⟩])
  (.seq (.seq (.gh 6000402 [])
  (.block 4 (.loop ⟨[(5, (.lf (.int .i64)))], [(2, (.agg 44 (.pair (.lf .str) (.pair (.lf .str) (.pair (.con (.sl (some 5900000) 46 [])) (.lf (.int .i64))))))), (4, (.agg 44 (.pair (.lf .str) (.pair (.lf .str) (.pair (.row 6000402 46 (.agg 46 (.pair .byte .str))) (.lf (.int .i64)))))))], [3, 8, 9, 102, 103, 104, 105, 106, 107, 108, 109, 110, 111, 112, 113, 114, 115, 116, 117, 118, 119, 120, 121, 122, 123, 124, 125, 126, 127, 128, 129, 130, 131, 132, 133, 134, 135, 136, 137, 138, 139, 140, 141, 142, 143, 144, 145, 146, 147, 148, 149, 150, 151, 152, 153, 154, 155, 156, 157, 158, 159, 160, 161, 162, 163, 164, 165, 166, 167, 168, 169, 170].map .s ++ [8].map .b ++ [168].map .f⟩ (.seq (.seq (.reg [⟨none, (.mv (some 102) (.t 5))⟩,
    ⟨none, (.mv (some 103) (.t 0))⟩,
    ⟨none, (.ln 104 none (.t 103))⟩,
    ⟨none, (.ar 105 .lss (.t 102) (.t 104))⟩])
  (.cond (.t 105)
    .skip
    (.exit 4)))
  (.block 5 (.seq (.seq (.reg [⟨none, (.mv (some 106) (.t 0))⟩,
    ⟨none, (.mv (some 107) (.t 5))⟩,
    ⟨none, (.ix 108 (.t 106) (.t 107))⟩,
    ⟨none, (.ar 109 .neq (.t 108) (.v (.int .u8 36)))⟩,
    ⟨none, (.mv (some 110) (.t 109))⟩,
    ⟨(some (110, false)), (.mv (some 111) (.t 5))⟩,
    ⟨(some (110, false)), (.ar 112 .add (.t 111) (.v (.int .i64 1)))⟩,
    ⟨(some (110, false)), (.mv (some 113) (.t 0))⟩,
    ⟨(some (110, false)), (.ln 114 none (.t 113))⟩,
    ⟨(some (110, false)), (.ar 115 .geq (.t 112) (.t 114))⟩,
    ⟨none, (.pick 116 (.t 110) (.v (.bool true)) (.t 115))⟩])
  (.cond (.t 116)
    (.seq (.reg [⟨none, (.ld 117 (some 44) (.t 4))⟩,
    ⟨none, (.st (some 44) (.t 2) (.t 117))⟩,
    ⟨none, (.mv (some 3) (.v (.bool false)))⟩])
  .ret)
    .skip))
  (.seq (.reg [⟨none, (.mv (some 118) (.t 0))⟩,
    ⟨none, (.mv (some 119) (.t 5))⟩,
    ⟨none, (.ar 120 .add (.t 119) (.v (.int .i64 1)))⟩,
    ⟨none, (.ix 121 (.t 118) (.t 120))⟩,
    ⟨none, (.bd 122 46 [(.int .u8 0), (.str [])] [0] [(.t 121)])⟩,
    ⟨none, (.al 8 (.agg 46 [(.int .u8 0), (.str [])]))⟩,
    ⟨none, (.st (some 46) (.t 8) (.t 122))⟩])
  (.seq (.reg [⟨none, (.mv (some 123) (.t 5))⟩,
    ⟨none, (.ar 124 .add (.t 123) (.v (.int .i64 2)))⟩,
    ⟨none, (.mv (some 5) (.t 124))⟩])
  (.seq (.reg [⟨none, (.mv (some 9) (.v (.bool true)))⟩])
  (.jn ⟨[(5, (.lf (.int .i64)))], [(8, (.lf (.agg 46 (.pair .byte .str))))], [9, 125, 126, 127, 128, 129, 130, 131, 132, 133, 134, 135, 136, 137, 138, 139, 140, 141, 142, 143, 144, 145, 146, 147, 148, 149, 150, 151, 152, 153, 154, 155, 156, 157, 158, 159, 160, 161, 162, 163, 164].map .s⟩ (.block 6 (.loop ⟨[(5, (.lf (.int .i64))), (9, (.lf .bool))], [(8, (.lf (.agg 46 (.pair .byte .str))))], [125, 126, 127, 128, 129, 130, 131, 132, 133, 134, 135, 136, 137, 138, 139, 140, 141, 142, 143, 144, 145, 146, 147, 148, 149, 150, 151, 152, 153, 154, 155, 156, 157, 158, 159, 160, 161, 162, 163, 164].map .s⟩ (.seq (.seq (.reg [⟨none, (.mv (some 125) (.t 9))⟩,
    ⟨none, (.mv (some 126) (.t 125))⟩,
    ⟨(some (126, true)), (.mv (some 127) (.t 5))⟩,
    ⟨(some (126, true)), (.mv (some 128) (.t 0))⟩,
    ⟨(some (126, true)), (.ln 129 none (.t 128))⟩,
    ⟨(some (126, true)), (.ar 130 .lss (.t 127) (.t 129))⟩,
    ⟨none, (.pick 131 (.t 126) (.t 130) (.v (.bool false)))⟩])
  (.cond (.t 131)
    .skip
    (.exit 6)))
  (.block 7 (.seq (.reg [⟨none, (.mv (some 132) (.t 0))⟩,
    ⟨none, (.mv (some 133) (.t 5))⟩,
    ⟨none, (.ix 134 (.t 132) (.t 133))⟩,
    ⟨none, (.ar 135 .neq (.t 134) (.v (.int .u8 36)))⟩])
  (.cond (.t 135)
    (.seq (.reg [⟨none, (.fa 136 46 1 (.t 8))⟩,
    ⟨none, (.ld 137 none (.t 136))⟩,
    ⟨none, (.mv (some 138) (.t 0))⟩,
    ⟨none, (.mv (some 139) (.t 5))⟩,
    ⟨none, (.mv (some 140) (.t 5))⟩,
    ⟨none, (.ar 141 .add (.t 140) (.v (.int .i64 1)))⟩,
    ⟨none, (.sc 142 none (.t 138) (some (.t 139)) (some (.t 141)))⟩,
    ⟨none, (.ar 143 .add (.t 137) (.t 142))⟩,
    ⟨none, (.fa 144 46 1 (.t 8))⟩,
    ⟨none, (.st none (.t 144) (.t 143))⟩])
  (.reg [⟨none, (.mv (some 145) (.t 5))⟩,
    ⟨none, (.ar 146 .add (.t 145) (.v (.int .i64 1)))⟩,
    ⟨none, (.mv (some 5) (.t 146))⟩]))
    (.jn ⟨[(158, (.lf .bool))], [], [147, 148, 149, 150, 151, 152, 153, 154, 155, 156, 157].map .s⟩ (.reg [⟨none, (.mv (some 147) (.t 5))⟩,
    ⟨none, (.ar 148 .add (.t 147) (.v (.int .i64 1)))⟩,
    ⟨none, (.mv (some 149) (.t 0))⟩,
    ⟨none, (.ln 150 none (.t 149))⟩,
    ⟨none, (.ar 151 .lss (.t 148) (.t 150))⟩,
    ⟨none, (.mv (some 152) (.t 151))⟩,
    ⟨(some (152, true)), (.mv (some 153) (.t 0))⟩,
    ⟨(some (152, true)), (.mv (some 154) (.t 5))⟩,
    ⟨(some (152, true)), (.ar 155 .add (.t 154) (.v (.int .i64 1)))⟩,
    ⟨(some (152, true)), (.ix 156 (.t 153) (.t 155))⟩,
    ⟨(some (152, true)), (.ar 157 .eql (.t 156) (.v (.int .u8 36)))⟩,
    ⟨none, (.pick 158 (.t 152) (.t 157) (.v (.bool false)))⟩])
  (.cond (.t 158)
    (.seq (.reg [⟨none, (.fa 159 46 1 (.t 8))⟩,
    ⟨none, (.ld 160 none (.t 159))⟩,
    ⟨none, (.ar 161 .add (.t 160) (.v (.str [36])))⟩,
    ⟨none, (.fa 162 46 1 (.t 8))⟩,
    ⟨none, (.st none (.t 162) (.t 161))⟩])
  (.reg [⟨none, (.mv (some 163) (.t 5))⟩,
    ⟨none, (.ar 164 .add (.t 163) (.v (.int .i64 2)))⟩,
    ⟨none, (.mv (some 5) (.t 164))⟩]))
    (.reg [⟨none, (.mv (some 9) (.v (.bool false)))⟩])))))))))
  (.reg [⟨none, (.fa 165 44 2 (.t 4))⟩,
    ⟨none, (.ld 166 none (.t 165))⟩,
    ⟨none, (.ld 167 (some 46) (.t 8))⟩,
    ⟨none, (.bs 168 46 (some 46) [(.t 167)])⟩,
    ⟨none, (.ap 169 46 (.t 166) (.t 168))⟩,
    ⟨none, (.fa 170 44 2 (.t 4))⟩,
    ⟨none, (.st none (.t 170) (.t 169))⟩])))))))))))
  (.seq (.reg [⟨none, (.ld 171 (some 44) (.t 4))⟩,
    ⟨none, (.st (some 44) (.t 2) (.t 171))⟩,
    ⟨none, (.mv (some 3) (.v (.bool true)))⟩])
  .ret)))))))))))))
noncomputable def ent77 : TEnt := ⟨77, [.str], (.tup (.pair (.agg 44 (.pair .str (.pair .str (.pair (.sl 46 (.agg 46 (.pair .byte .str))) (.int .i64))))) .bool)), fun x => F77 x, .plain⟩
theorem eq77 (x : dens ent77.as) : ent77.F x = evF [ent67] SHF dc77 [(.cell 2 (some 44)), (.tmp 3)] ent77.as ent77.rs x := by kernel_rfl
/-- library/libraryref07.Parse -/
noncomputable def F52 (a0 : List UInt8) : Option ((List UInt8 × List UInt8 × (List (UInt8 × List UInt8)) × Int) × Int) :=
  bindO (F77 a0) fun y1 =>
  cond (!y1.2)
    (some ((([] : List UInt8), ([] : List UInt8), ([] : List (UInt8 × List UInt8)), (0 : Int)), (3 : Int)))
    (bindO (F30 y1.1) fun y2 =>
    cond (!decide (y2.2 = (0 : Int)))
      (some ((([] : List UInt8), ([] : List UInt8), ([] : List (UInt8 × List UInt8)), (0 : Int)), (3 : Int)))
      (cond (!decide (y2.1 = a0))
        (some ((([] : List UInt8), ([] : List UInt8), ([] : List (UInt8 × List UInt8)), (0 : Int)), (3 : Int)))
        (some (y1.1, (0 : Int)))))
def dc52 : DC :=
  (.seq (.reg [⟨none, (.al 2 (.agg 44 [(.str []), (.str []), (.sl none 46 []), (.int .i64 0)]))⟩,
    ⟨none, (.mv (some 3) (.v (.int .i64 0)))⟩])
  (.seq (.reg [⟨none, (.mv (some 9) (.t 0))⟩,
    ⟨none, (.ca (some 10) 77 [(.t 9)])⟩,
    ⟨none, (.mv (some 8) (.t 10))⟩,
    ⟨none, (.ex 11 0 (.t 8))⟩,
    ⟨none, (.ex 12 1 (.t 8))⟩,
    ⟨none, (.al 4 (.agg 44 [(.str []), (.str []), (.sl none 46 []), (.int .i64 0)]))⟩,
    ⟨none, (.st (some 44) (.t 4) (.t 11))⟩,
    ⟨none, (.mv (some 5) (.t 12))⟩])
  (.seq (.seq (.reg [⟨none, (.mv (some 13) (.t 5))⟩,
    ⟨none, (.un 14 .not (.t 13))⟩])
  (.cond (.t 14)
    (.seq (.reg [⟨none, (.bd 15 44 [(.str []), (.str []), (.sl none 46 []), (.int .i64 0)] [] [])⟩,
    ⟨none, (.st (some 44) (.t 2) (.t 15))⟩,
    ⟨none, (.mv (some 3) (.v (.int .i64 3)))⟩])
  .ret)
    .skip))
  (.seq (.reg [⟨none, (.ld 17 (some 44) (.t 4))⟩,
    ⟨none, (.ca (some 18) 30 [(.t 17)])⟩,
    ⟨none, (.mv (some 16) (.t 18))⟩,
    ⟨none, (.ex 19 0 (.t 16))⟩,
    ⟨none, (.ex 20 1 (.t 16))⟩,
    ⟨none, (.mv (some 6) (.t 19))⟩,
    ⟨none, (.mv (some 7) (.t 20))⟩])
  (.seq (.seq (.reg [⟨none, (.mv (some 21) (.t 7))⟩,
    ⟨none, (.ar 22 .neq (.t 21) (.v (.int .i64 0)))⟩,
    ⟨none, (.mv (some 23) (.t 22))⟩,
    ⟨(some (23, false)), (.mv (some 24) (.t 6))⟩,
    ⟨(some (23, false)), (.mv (some 25) (.t 0))⟩,
    ⟨(some (23, false)), (.ar 26 .neq (.t 24) (.t 25))⟩,
    ⟨none, (.pick 27 (.t 23) (.v (.bool true)) (.t 26))⟩])
  (.cond (.t 27)
    (.seq (.reg [⟨none, (.bd 28 44 [(.str []), (.str []), (.sl none 46 []), (.int .i64 0)] [] [])⟩,
    ⟨none, (.st (some 44) (.t 2) (.t 28))⟩,
    ⟨none, (.mv (some 3) (.v (.int .i64 3)))⟩])
  .ret)
    .skip))
  (.seq (.reg [⟨none, (.ld 29 (some 44) (.t 4))⟩,
    ⟨none, (.st (some 44) (.t 2) (.t 29))⟩,
    ⟨none, (.mv (some 3) (.v (.int .i64 0)))⟩])
  .ret))))))
noncomputable def ent52 : TEnt := ⟨52, [.str], (.tup (.pair (.agg 44 (.pair .str (.pair .str (.pair (.sl 46 (.agg 46 (.pair .byte .str))) (.int .i64))))) (.int .i64))), fun x => F52 x, .plain⟩
theorem eq52 (x : dens ent52.as) : ent52.F x = evF [ent30, ent77] SHF dc52 [(.cell 2 (some 44)), (.tmp 3)] ent52.as ent52.rs x := by kernel_rfl
/-- library/libraryref11.Line -/
noncomputable def F50 (a0 : List UInt8) (a1 : Int) : Option (List UInt8 × Int × Bool) :=
  loopK (σ := Int) (fun p1 againp1 =>
    cond (decide (p1 < (List.length a0 : Int)))
      (gd (0 ≤ p1 ∧ p1 < (List.length a0 : Int)) <|
      cond (decide ((UInt8.toNat (List.getD a0 (Int.toNat p1) 0) : Int) = (10 : Int)))
        (gd (0 ≤ a1 ∧ a1 ≤ p1 ∧ p1 ≤ (List.length a0 : Int)) <|
        bnd (List.drop (Int.toNat a1) (List.take (Int.toNat p1) a0)) fun x2 =>
        bnd (IntKind.wrap .i64 (p1 + (1 : Int))) fun x3 =>
        some (x2, x3, true))
        (bnd (IntKind.wrap .i64 (p1 + (1 : Int))) fun x4 =>
        againp1 x4))
      (gd (0 ≤ a1 ∧ a1 ≤ (List.length a0 : Int)) <|
      bnd (List.drop (Int.toNat a1) a0) fun x5 =>
      some (x5, (List.length a0 : Int), false))) a1
def dc50 : DC :=
  (.seq (.reg [⟨none, (.mv (some 4) (.v (.str [])))⟩,
    ⟨none, (.mv (some 5) (.v (.int .i64 0)))⟩,
    ⟨none, (.mv (some 6) (.v (.bool false)))⟩])
  (.seq (.seq (.reg [⟨none, (.mv (some 8) (.t 1))⟩,
    ⟨none, (.mv (some 7) (.t 8))⟩])
  (.block 0 (.loop ⟨[(7, (.lf (.int .i64)))], [], [4, 5, 6, 9, 10, 11, 12, 13, 14, 15, 16, 17, 18, 19, 20, 21, 22, 23, 24].map .s⟩ (.seq (.seq (.reg [⟨none, (.mv (some 9) (.t 7))⟩,
    ⟨none, (.mv (some 10) (.t 0))⟩,
    ⟨none, (.ln 11 none (.t 10))⟩,
    ⟨none, (.ar 12 .lss (.t 9) (.t 11))⟩])
  (.cond (.t 12)
    .skip
    (.exit 0)))
  (.seq (.block 1 (.seq (.reg [⟨none, (.mv (some 15) (.t 0))⟩,
    ⟨none, (.mv (some 16) (.t 7))⟩,
    ⟨none, (.ix 17 (.t 15) (.t 16))⟩,
    ⟨none, (.ar 18 .eql (.t 17) (.v (.int .u8 10)))⟩])
  (.cond (.t 18)
    (.seq (.reg [⟨none, (.mv (some 19) (.t 0))⟩,
    ⟨none, (.mv (some 20) (.t 1))⟩,
    ⟨none, (.mv (some 21) (.t 7))⟩,
    ⟨none, (.sc 22 none (.t 19) (some (.t 20)) (some (.t 21)))⟩,
    ⟨none, (.mv (some 23) (.t 7))⟩,
    ⟨none, (.ar 24 .add (.t 23) (.v (.int .i64 1)))⟩,
    ⟨none, (.mv (some 4) (.t 22))⟩,
    ⟨none, (.mv (some 5) (.t 24))⟩,
    ⟨none, (.mv (some 6) (.v (.bool true)))⟩])
  .ret)
    .skip)))
  (.reg [⟨none, (.mv (some 13) (.t 7))⟩,
    ⟨none, (.ar 14 .add (.t 13) (.v (.int .i64 1)))⟩,
    ⟨none, (.mv (some 7) (.t 14))⟩]))))))
  (.seq (.reg [⟨none, (.mv (some 25) (.t 0))⟩,
    ⟨none, (.mv (some 26) (.t 1))⟩,
    ⟨none, (.sc 27 none (.t 25) (some (.t 26)) none)⟩,
    ⟨none, (.mv (some 28) (.t 0))⟩,
    ⟨none, (.ln 29 none (.t 28))⟩,
    ⟨none, (.mv (some 4) (.t 27))⟩,
    ⟨none, (.mv (some 5) (.t 29))⟩,
    ⟨none, (.mv (some 6) (.v (.bool false)))⟩])
  .ret)))
noncomputable def ent50 : TEnt := ⟨50, [.str, (.int .i64)], (.tup (.pair .str (.pair (.int .i64) .bool))), fun x => F50 x.1 x.2, .plain⟩
theorem eq50 (x : dens ent50.as) : ent50.F x = evF [] SHF dc50 [(.tmp 4), (.tmp 5), (.tmp 6)] ent50.as ent50.rs x := by kernel_rfl
/-- library/libraryref11.Number -/
noncomputable def F76 (a0 : List UInt8) : Option (Int × Bool) :=
  jn (σ := Unit) (fun nextj1 =>
    cond (decide ((List.length a0 : Int) < (1 : Int)))
      (some ((0 : Int), false))
      (cond (decide ((9 : Int) < (List.length a0 : Int)))
        (some ((0 : Int), false))
        (gd (0 ≤ (0 : Int) ∧ (0 : Int) < (List.length a0 : Int)) <|
        cond (decide ((UInt8.toNat (List.getD a0 (Int.toNat (0 : Int)) 0) : Int) = (48 : Int)))
          (cond (decide ((1 : Int) < (List.length a0 : Int)))
            (some ((0 : Int), false))
            (nextj1 ()))
          (nextj1 ())))) fun j1 =>
  loopK (σ := Int × Int) (fun p2 againp2 =>
    cond (decide (p2.2 < (List.length a0 : Int)))
      (gd (0 ≤ p2.2 ∧ p2.2 < (List.length a0 : Int)) <|
      cond (decide ((UInt8.toNat (List.getD a0 (Int.toNat p2.2) 0) : Int) < (48 : Int)))
        (some ((0 : Int), false))
        (gd (0 ≤ p2.2 ∧ p2.2 < (List.length a0 : Int)) <|
        cond (decide ((57 : Int) < (UInt8.toNat (List.getD a0 (Int.toNat p2.2) 0) : Int)))
          (some ((0 : Int), false))
          (bnd (IntKind.wrap .i64 (p2.1 * (10 : Int))) fun x3 =>
          gd (0 ≤ p2.2 ∧ p2.2 < (List.length a0 : Int)) <|
          bnd (IntKind.wrap .u8 ((UInt8.toNat (List.getD a0 (Int.toNat p2.2) 0) : Int) - (48 : Int))) fun x4 =>
          bnd (IntKind.wrap .i64 (x3 + (IntKind.wrap .i64 x4))) fun x5 =>
          bnd (IntKind.wrap .i64 (p2.2 + (1 : Int))) fun x6 =>
          againp2 (x5, x6))))
      (some (p2.1, true))) ((0 : Int), (0 : Int))
def dc76 : DC :=
  (.seq (.reg [⟨none, (.mv (some 2) (.v (.int .i64 0)))⟩,
    ⟨none, (.mv (some 3) (.v (.bool false)))⟩])
  (.jn ⟨[], [], [6, 7, 8, 9, 10, 11, 12, 13, 14, 15, 16, 17, 18, 19, 20, 21, 22, 23].map .s⟩ (.seq (.reg [⟨none, (.mv (some 6) (.t 0))⟩,
    ⟨none, (.ln 7 none (.t 6))⟩,
    ⟨none, (.ar 8 .lss (.t 7) (.v (.int .i64 1)))⟩,
    ⟨none, (.mv (some 9) (.t 8))⟩,
    ⟨(some (9, false)), (.mv (some 10) (.t 0))⟩,
    ⟨(some (9, false)), (.ln 11 none (.t 10))⟩,
    ⟨(some (9, false)), (.ar 12 .gtr (.t 11) (.v (.int .i64 9)))⟩,
    ⟨none, (.pick 13 (.t 9) (.v (.bool true)) (.t 12))⟩,
    ⟨none, (.mv (some 14) (.t 13))⟩,
    ⟨(some (14, false)), (.mv (some 15) (.t 0))⟩,
    ⟨(some (14, false)), (.ix 16 (.t 15) (.v (.int .i64 0)))⟩,
    ⟨(some (14, false)), (.ar 17 .eql (.t 16) (.v (.int .u8 48)))⟩,
    ⟨(some (14, false)), (.mv (some 18) (.t 17))⟩,
    ⟨(some (18, true)), (.mv (some 19) (.t 0))⟩,
    ⟨(some (18, true)), (.ln 20 none (.t 19))⟩,
    ⟨(some (18, true)), (.ar 21 .gtr (.t 20) (.v (.int .i64 1)))⟩,
    ⟨(some (14, false)), (.pick 22 (.t 18) (.t 21) (.v (.bool false)))⟩,
    ⟨none, (.pick 23 (.t 14) (.v (.bool true)) (.t 22))⟩])
  (.cond (.t 23)
    (.seq (.reg [⟨none, (.mv (some 2) (.v (.int .i64 0)))⟩,
    ⟨none, (.mv (some 3) (.v (.bool false)))⟩])
  .ret)
    .skip))
  (.seq (.reg [⟨none, (.mv (some 4) (.v (.int .i64 0)))⟩])
  (.seq (.seq (.reg [⟨none, (.mv (some 5) (.v (.int .i64 0)))⟩])
  (.block 0 (.loop ⟨[(4, (.lf (.int .i64))), (5, (.lf (.int .i64)))], [], [2, 3, 24, 25, 26, 27, 28, 29, 30, 31, 32, 33, 34, 35, 36, 37, 38, 39, 40, 41, 42, 43, 44, 45, 46, 47].map .s⟩ (.seq (.seq (.reg [⟨none, (.mv (some 24) (.t 5))⟩,
    ⟨none, (.mv (some 25) (.t 0))⟩,
    ⟨none, (.ln 26 none (.t 25))⟩,
    ⟨none, (.ar 27 .lss (.t 24) (.t 26))⟩])
  (.cond (.t 27)
    .skip
    (.exit 0)))
  (.seq (.block 1 (.seq (.seq (.reg [⟨none, (.mv (some 30) (.t 0))⟩,
    ⟨none, (.mv (some 31) (.t 5))⟩,
    ⟨none, (.ix 32 (.t 30) (.t 31))⟩,
    ⟨none, (.ar 33 .lss (.t 32) (.v (.int .u8 48)))⟩,
    ⟨none, (.mv (some 34) (.t 33))⟩,
    ⟨(some (34, false)), (.mv (some 35) (.t 0))⟩,
    ⟨(some (34, false)), (.mv (some 36) (.t 5))⟩,
    ⟨(some (34, false)), (.ix 37 (.t 35) (.t 36))⟩,
    ⟨(some (34, false)), (.ar 38 .gtr (.t 37) (.v (.int .u8 57)))⟩,
    ⟨none, (.pick 39 (.t 34) (.v (.bool true)) (.t 38))⟩])
  (.cond (.t 39)
    (.seq (.reg [⟨none, (.mv (some 2) (.v (.int .i64 0)))⟩,
    ⟨none, (.mv (some 3) (.v (.bool false)))⟩])
  .ret)
    .skip))
  (.reg [⟨none, (.mv (some 40) (.t 4))⟩,
    ⟨none, (.ar 41 .mul (.t 40) (.v (.int .i64 10)))⟩,
    ⟨none, (.mv (some 42) (.t 0))⟩,
    ⟨none, (.mv (some 43) (.t 5))⟩,
    ⟨none, (.ix 44 (.t 42) (.t 43))⟩,
    ⟨none, (.ar 45 .sub (.t 44) (.v (.int .u8 48)))⟩,
    ⟨none, (.cvi 46 .i64 (.t 45))⟩,
    ⟨none, (.ar 47 .add (.t 41) (.t 46))⟩,
    ⟨none, (.mv (some 4) (.t 47))⟩])))
  (.reg [⟨none, (.mv (some 28) (.t 5))⟩,
    ⟨none, (.ar 29 .add (.t 28) (.v (.int .i64 1)))⟩,
    ⟨none, (.mv (some 5) (.t 29))⟩]))))))
  (.seq (.reg [⟨none, (.mv (some 48) (.t 4))⟩,
    ⟨none, (.mv (some 2) (.t 48))⟩,
    ⟨none, (.mv (some 3) (.v (.bool true)))⟩])
  .ret)))))
noncomputable def ent76 : TEnt := ⟨76, [.str], (.tup (.pair (.int .i64) .bool)), fun x => F76 x, .plain⟩
theorem eq76 (x : dens ent76.as) : ent76.F x = evF [] SHF dc76 [(.tmp 2), (.tmp 3)] ent76.as ent76.rs x := by kernel_rfl
/-- library/libraryref11.parseHeader -/
noncomputable def F51 (a0 : List UInt8) : Option ((Int × Int × Int × List UInt8 × List (List UInt8 × List UInt8 × (List (UInt8 × List UInt8)) × Int)) × Bool) :=
  jn (σ := Int) (fun nextj1 =>
    loopK (σ := Int) (fun p2 againp2 =>
      cond (decide (p2 < (List.length a0 : Int)))
        (gd (0 ≤ p2 ∧ p2 < (List.length a0 : Int)) <|
        cond (!decide ((UInt8.toNat (List.getD a0 (Int.toNat p2) 0) : Int) = (32 : Int)))
          (bnd (IntKind.wrap .i64 (p2 + (1 : Int))) fun x3 =>
          againp2 x3)
          (nextj1 p2))
        (nextj1 p2)) (0 : Int)) fun j1 =>
  cond (decide (j1 < (2 : Int)))
    (some (((0 : Int), (0 : Int), (0 : Int), ([] : List UInt8), ([] : List (List UInt8 × List UInt8 × (List (UInt8 × List UInt8)) × Int))), false))
    (bnd (IntKind.wrap .i64 (j1 + (4 : Int))) fun x4 =>
    cond (decide ((List.length a0 : Int) < x4))
      (some (((0 : Int), (0 : Int), (0 : Int), ([] : List UInt8), ([] : List (List UInt8 × List UInt8 × (List (UInt8 × List UInt8)) × Int))), false))
      (gd (0 ≤ (0 : Int) ∧ (0 : Int) < (List.length a0 : Int)) <|
      cond (!decide ((UInt8.toNat (List.getD a0 (Int.toNat (0 : Int)) 0) : Int) = (61 : Int)))
        (some (((0 : Int), (0 : Int), (0 : Int), ([] : List UInt8), ([] : List (List UInt8 × List UInt8 × (List (UInt8 × List UInt8)) × Int))), false))
        (gd (0 ≤ (1 : Int) ∧ (1 : Int) ≤ j1 ∧ j1 ≤ (List.length a0 : Int)) <|
        bnd (List.drop (Int.toNat (1 : Int)) (List.take (Int.toNat j1) a0)) fun x5 =>
        bindO (F76 x5) fun y6 =>
        cond (!y6.2)
          (some (((0 : Int), (0 : Int), (0 : Int), ([] : List UInt8), ([] : List (List UInt8 × List UInt8 × (List (UInt8 × List UInt8)) × Int))), false))
          (bnd (IntKind.wrap .i64 ((List.length a0 : Int) - (3 : Int))) fun x7 =>
          gd (0 ≤ x7 ∧ x7 ≤ (List.length a0 : Int)) <|
          bnd (List.drop (Int.toNat x7) a0) fun x8 =>
          loopK (σ := Int × (Int × Int × Int × List UInt8 × Unit)) (fun p9 againp9 =>
            cond (decide (p9.1 ≤ (3 : Int)))
              (loopK (σ := Int × (Int × Int × Int × List UInt8 × Unit)) (fun p10 againp10 =>
                cond (decide (p10.1 ≤ (4 : Int)))
                  (bindO (F28 (y6.1, p9.1, p10.1, x8, ([] : List (List UInt8 × List UInt8 × (List (UInt8 × List UInt8)) × Int)))) fun y11 =>
                  cond (decide (y11 = (0 : Int)))
                    (bindO (F29 y6.1 p9.1 p10.1 x8) fun y12 =>
                    cond (decide (y12 = a0))
                      (some ((y6.1, p9.1, p10.1, x8, ([] : List (List UInt8 × List UInt8 × (List (UInt8 × List UInt8)) × Int))), true))
                      (bnd (IntKind.wrap .i64 (p10.1 + (1 : Int))) fun x13 =>
                      againp10 (x13, (p10.2.1, p10.2.2.1, p10.2.2.2.1, p10.2.2.2.2.1, ()))))
                    (bnd (IntKind.wrap .i64 (p10.1 + (1 : Int))) fun x14 =>
                    againp10 (x14, (p10.2.1, p10.2.2.1, p10.2.2.2.1, p10.2.2.2.2.1, ()))))
                  (bnd (IntKind.wrap .i64 (p9.1 + (1 : Int))) fun x15 =>
                  againp9 (x15, (p10.2.1, p10.2.2.1, p10.2.2.2.1, p10.2.2.2.2.1, ())))) ((1 : Int), (p9.2.1, p9.2.2.1, p9.2.2.2.1, p9.2.2.2.2.1, ())))
              (some (((0 : Int), (0 : Int), (0 : Int), ([] : List UInt8), ([] : List (List UInt8 × List UInt8 × (List (UInt8 × List UInt8)) × Int))), false))) ((1 : Int), ((0 : Int), (0 : Int), (0 : Int), ([] : List UInt8), ()))))))
def dc51 : DC :=
  (.seq (.reg [⟨none, (.al 2 (.agg 24 [(.int .i64 0), (.int .i64 0), (.int .i64 0), (.str []), (.sl (some 5900000) 44 [])]))⟩,
    ⟨none, (.mv (some 3) (.v (.bool false)))⟩])
  (.seq (.reg [⟨none, (.mv (some 4) (.v (.int .i64 0)))⟩])
  (.jn ⟨[(4, (.lf (.int .i64)))], [], [11, 12, 13, 14, 15, 16, 17, 18, 19, 20, 21, 22].map .s⟩ (.block 0 (.loop ⟨[(4, (.lf (.int .i64)))], [], [11, 12, 13, 14, 15, 16, 17, 18, 19, 20, 21, 22].map .s⟩ (.seq (.seq (.reg [⟨none, (.mv (some 11) (.t 4))⟩,
    ⟨none, (.mv (some 12) (.t 0))⟩,
    ⟨none, (.ln 13 none (.t 12))⟩,
    ⟨none, (.ar 14 .lss (.t 11) (.t 13))⟩,
    ⟨none, (.mv (some 15) (.t 14))⟩,
    ⟨(some (15, true)), (.mv (some 16) (.t 0))⟩,
    ⟨(some (15, true)), (.mv (some 17) (.t 4))⟩,
    ⟨(some (15, true)), (.ix 18 (.t 16) (.t 17))⟩,
    ⟨(some (15, true)), (.ar 19 .neq (.t 18) (.v (.int .u8 32)))⟩,
    ⟨none, (.pick 20 (.t 15) (.t 19) (.v (.bool false)))⟩])
  (.cond (.t 20)
    .skip
    (.exit 0)))
  (.block 1 (.reg [⟨none, (.mv (some 21) (.t 4))⟩,
    ⟨none, (.ar 22 .add (.t 21) (.v (.int .i64 1)))⟩,
    ⟨none, (.mv (some 4) (.t 22))⟩])))))
  (.seq (.seq (.reg [⟨none, (.mv (some 23) (.t 4))⟩,
    ⟨none, (.ar 24 .lss (.t 23) (.v (.int .i64 2)))⟩,
    ⟨none, (.mv (some 25) (.t 24))⟩,
    ⟨(some (25, false)), (.mv (some 26) (.t 0))⟩,
    ⟨(some (25, false)), (.ln 27 none (.t 26))⟩,
    ⟨(some (25, false)), (.mv (some 28) (.t 4))⟩,
    ⟨(some (25, false)), (.ar 29 .add (.t 28) (.v (.int .i64 4)))⟩,
    ⟨(some (25, false)), (.ar 30 .lss (.t 27) (.t 29))⟩,
    ⟨none, (.pick 31 (.t 25) (.v (.bool true)) (.t 30))⟩,
    ⟨none, (.mv (some 32) (.t 31))⟩,
    ⟨(some (32, false)), (.mv (some 33) (.t 0))⟩,
    ⟨(some (32, false)), (.ix 34 (.t 33) (.v (.int .i64 0)))⟩,
    ⟨(some (32, false)), (.ar 35 .neq (.t 34) (.v (.int .u8 61)))⟩,
    ⟨none, (.pick 36 (.t 32) (.v (.bool true)) (.t 35))⟩])
  (.cond (.t 36)
    (.seq (.reg [⟨none, (.bd 37 24 [(.int .i64 0), (.int .i64 0), (.int .i64 0), (.str []), (.sl (some 5900000) 44 [])] [] [])⟩,
    ⟨none, (.st (some 24) (.t 2) (.t 37))⟩,
    ⟨none, (.mv (some 3) (.v (.bool false)))⟩])
  .ret)
    .skip))
  (.seq (.reg [⟨none, (.mv (some 39) (.t 0))⟩,
    ⟨none, (.mv (some 40) (.t 4))⟩,
    ⟨none, (.sc 41 none (.t 39) (some (.v (.int .i64 1))) (some (.t 40)))⟩,
    ⟨none, (.ca (some 42) 76 [(.t 41)])⟩,
    ⟨none, (.mv (some 38) (.t 42))⟩,
    ⟨none, (.ex 43 0 (.t 38))⟩,
    ⟨none, (.ex 44 1 (.t 38))⟩,
    ⟨none, (.mv (some 5) (.t 43))⟩,
    ⟨none, (.mv (some 6) (.t 44))⟩])
  (.seq (.seq (.reg [⟨none, (.mv (some 45) (.t 6))⟩,
    ⟨none, (.un 46 .not (.t 45))⟩])
  (.cond (.t 46)
    (.seq (.reg [⟨none, (.bd 47 24 [(.int .i64 0), (.int .i64 0), (.int .i64 0), (.str []), (.sl (some 5900000) 44 [])] [] [])⟩,
    ⟨none, (.st (some 24) (.t 2) (.t 47))⟩,
    ⟨none, (.mv (some 3) (.v (.bool false)))⟩])
  .ret)
    .skip))
  (.seq (.reg [⟨none, (.mv (some 48) (.t 0))⟩,
    ⟨none, (.mv (some 49) (.t 0))⟩,
    ⟨none, (.ln 50 none (.t 49))⟩,
    ⟨none, (.ar 51 .sub (.t 50) (.v (.int .i64 3)))⟩,
    ⟨none, (.sc 52 none (.t 48) (some (.t 51)) none)⟩,
    ⟨none, (.mv (some 7) (.t 52))⟩])
  (.seq (.seq (.reg [⟨none, (.mv (some 8) (.v (.int .i64 1)))⟩])
  (.block 2 (.loop ⟨[(8, (.lf (.int .i64)))], [(2, (.agg 24 (.pair (.lf (.int .i64)) (.pair (.lf (.int .i64)) (.pair (.lf (.int .i64)) (.pair (.lf .str) (.con (.sl (some 5900000) 44 []))))))))], [3, 9, 10, 53, 54, 55, 56, 57, 58, 59, 60, 61, 62, 63, 64, 65, 66, 67, 68, 69, 70, 71, 72, 73, 74, 75, 76, 77, 78].map .s ++ [10].map .b⟩ (.seq (.seq (.reg [⟨none, (.mv (some 53) (.t 8))⟩,
    ⟨none, (.ar 54 .leq (.t 53) (.v (.int .i64 3)))⟩])
  (.cond (.t 54)
    .skip
    (.exit 2)))
  (.seq (.block 3 (.seq (.reg [⟨none, (.mv (some 9) (.v (.int .i64 1)))⟩])
  (.block 4 (.loop ⟨[(9, (.lf (.int .i64)))], [(2, (.agg 24 (.pair (.lf (.int .i64)) (.pair (.lf (.int .i64)) (.pair (.lf (.int .i64)) (.pair (.lf .str) (.con (.sl (some 5900000) 44 []))))))))], [3, 10, 57, 58, 59, 60, 61, 62, 63, 64, 65, 66, 67, 68, 69, 70, 71, 72, 73, 74, 75, 76, 77, 78].map .s ++ [10].map .b⟩ (.seq (.seq (.reg [⟨none, (.mv (some 57) (.t 9))⟩,
    ⟨none, (.ar 58 .leq (.t 57) (.v (.int .i64 4)))⟩])
  (.cond (.t 58)
    .skip
    (.exit 4)))
  (.seq (.block 5 (.seq (.reg [⟨none, (.mv (some 61) (.t 5))⟩,
    ⟨none, (.mv (some 62) (.t 8))⟩,
    ⟨none, (.mv (some 63) (.t 9))⟩,
    ⟨none, (.mv (some 64) (.t 7))⟩,
    ⟨none, (.bd 65 24 [(.int .i64 0), (.int .i64 0), (.int .i64 0), (.str []), (.sl (some 5900000) 44 [])] [0, 1, 2, 3] [(.t 61), (.t 62), (.t 63), (.t 64)])⟩,
    ⟨none, (.al 10 (.agg 24 [(.int .i64 0), (.int .i64 0), (.int .i64 0), (.str []), (.sl (some 5900000) 44 [])]))⟩,
    ⟨none, (.st (some 24) (.t 10) (.t 65))⟩])
  (.seq (.reg [⟨none, (.ld 66 (some 24) (.t 10))⟩,
    ⟨none, (.ca (some 67) 28 [(.t 66)])⟩,
    ⟨none, (.ar 68 .eql (.t 67) (.v (.int .i64 0)))⟩,
    ⟨none, (.mv (some 69) (.t 68))⟩,
    ⟨(some (69, true)), (.mv (some 70) (.t 5))⟩,
    ⟨(some (69, true)), (.mv (some 71) (.t 8))⟩,
    ⟨(some (69, true)), (.mv (some 72) (.t 9))⟩,
    ⟨(some (69, true)), (.mv (some 73) (.t 7))⟩,
    ⟨(some (69, true)), (.ca (some 74) 29 [(.t 70), (.t 71), (.t 72), (.t 73)])⟩,
    ⟨(some (69, true)), (.mv (some 75) (.t 0))⟩,
    ⟨(some (69, true)), (.ar 76 .eql (.t 74) (.t 75))⟩,
    ⟨none, (.pick 77 (.t 69) (.t 76) (.v (.bool false)))⟩])
  (.cond (.t 77)
    (.seq (.reg [⟨none, (.ld 78 (some 24) (.t 10))⟩,
    ⟨none, (.st (some 24) (.t 2) (.t 78))⟩,
    ⟨none, (.mv (some 3) (.v (.bool true)))⟩])
  .ret)
    .skip))))
  (.reg [⟨none, (.mv (some 59) (.t 9))⟩,
    ⟨none, (.ar 60 .add (.t 59) (.v (.int .i64 1)))⟩,
    ⟨none, (.mv (some 9) (.t 60))⟩])))))))
  (.reg [⟨none, (.mv (some 55) (.t 8))⟩,
    ⟨none, (.ar 56 .add (.t 55) (.v (.int .i64 1)))⟩,
    ⟨none, (.mv (some 8) (.t 56))⟩]))))))
  (.seq (.reg [⟨none, (.bd 79 24 [(.int .i64 0), (.int .i64 0), (.int .i64 0), (.str []), (.sl (some 5900000) 44 [])] [] [])⟩,
    ⟨none, (.st (some 24) (.t 2) (.t 79))⟩,
    ⟨none, (.mv (some 3) (.v (.bool false)))⟩])
  .ret)))))))))
noncomputable def ent51 : TEnt := ⟨51, [.str], (.tup (.pair (.agg 24 (.pair (.int .i64) (.pair (.int .i64) (.pair (.int .i64) (.pair .str (.sl 44 (.agg 44 (.pair .str (.pair .str (.pair (.sl 46 (.agg 46 (.pair .byte .str))) (.int .i64))))))))))) .bool)), fun x => F51 x, .plainN 0 [4]⟩
theorem eq51 (x : dens ent51.as) : ent51.F x = evFP [ent28, ent29, ent76] SHF dc51 [(.cell 2 (some 24)), (.tmp 3)] ent51.as ent51.rs 0 [4] x := by kernel_rfl
/-- library/libraryref11.ParseOne -/
noncomputable def F32 (a0 : List UInt8) (a1 : Int × Int) : Option ((Int × Int × Int × List UInt8 × List (List UInt8 × List UInt8 × (List (UInt8 × List UInt8)) × Int)) × (Int × Int) × Int) :=
  bindO (F50 a0 a1.1) fun y1 =>
  bindO (F51 y1.1) fun y2 =>
  gdN (List.length y2.1.2.2.2.2) (0) <|
  jn (σ := Bool) (fun nextj3 =>
    cond (!y2.2)
      (nextj3 true)
      (nextj3 (!y1.2.2))) fun j3 =>
  cond (j3)
    (some (((0 : Int), (0 : Int), (0 : Int), ([] : List UInt8), ([] : List (List UInt8 × List UInt8 × (List (UInt8 × List UInt8)) × Int))), a1, (3 : Int)))
    (gdN (0) (List.length ([] : List (List UInt8 × List UInt8 × (List (UInt8 × List UInt8)) × Int))) <|
    loopK (σ := Int × (Int × Int) × (Int × Int × Int × List UInt8 × List (List UInt8 × List UInt8 × (List (UInt8 × List UInt8)) × Int)) × (Int × Int) × (Int × Int × Int × List UInt8 × List (List UInt8 × List UInt8 × (List (UInt8 × List UInt8)) × Int))) (fun p4 againp4 =>
      bnd (IntKind.wrap .i64 (p4.2.1.2 + (1 : Int))) fun x5 =>
      bindO (F50 a0 p4.1) fun y6 =>
      jn (σ := Bool) (fun nextj7 =>
        cond (!decide (y6.1 = ([] : List UInt8)))
          (nextj7 (decide ((64 : Int) ≤ (List.length p4.2.2.2.2.2.2.2.2 : Int))))
          (nextj7 false)) fun j7 =>
      cond (j7)
        (some (((0 : Int), (0 : Int), (0 : Int), ([] : List UInt8), ([] : List (List UInt8 × List UInt8 × (List (UInt8 × List UInt8)) × Int))), (p4.1, x5), (4 : Int)))
        (cond (!y6.2.2)
          (some (((0 : Int), (0 : Int), (0 : Int), ([] : List UInt8), ([] : List (List UInt8 × List UInt8 × (List (UInt8 × List UInt8)) × Int))), (p4.1, x5), (3 : Int)))
          (cond (decide (y6.1 = ([] : List UInt8)))
            (bnd (IntKind.wrap .i64 (x5 + (1 : Int))) fun x8 =>
            some ((p4.2.2.2.2.1, p4.2.2.2.2.2.1, p4.2.2.2.2.2.2.1, p4.2.2.2.2.2.2.2.1, p4.2.2.2.2.2.2.2.2), (y6.2.1, x8), (0 : Int)))
            (bindO (F52 y6.1) fun y9 =>
            cond (!decide (y9.2 = (0 : Int)))
              (some (((0 : Int), (0 : Int), (0 : Int), ([] : List UInt8), ([] : List (List UInt8 × List UInt8 × (List (UInt8 × List UInt8)) × Int))), (p4.1, x5), (3 : Int)))
              (gdN (List.length p4.2.2.2.2.2.2.2.2) (List.length p4.2.2.2.2.2.2.2.2) <|
              gd (List.length p4.2.2.2.2.2.2.2.2 + List.length [y9.1] ≤ big) <|
              bnd (p4.2.2.2.2.2.2.2.2 ++ [y9.1]) fun l10 =>
              gdN (List.length l10) (List.length l10) <|
              againp4 (y6.2.1, (p4.1, x5), p4.2.2.1, p4.2.2.2.1, (p4.2.2.2.2.1, p4.2.2.2.2.2.1, p4.2.2.2.2.2.2.1, p4.2.2.2.2.2.2.2.1, l10))))))) (y1.2.1, a1, ((0 : Int), (0 : Int), (0 : Int), ([] : List UInt8), ([] : List (List UInt8 × List UInt8 × (List (UInt8 × List UInt8)) × Int))), ((0 : Int), (0 : Int)), (y2.1.1, y2.1.2.1, y2.1.2.2.1, y2.1.2.2.2.1, ([] : List (List UInt8 × List UInt8 × (List (UInt8 × List UInt8)) × Int)))))
def dc32 : DC :=
  (.seq (.reg [⟨none, (.bx 3 (some 63) (.t 1))⟩,
    ⟨none, (.al 4 (.agg 24 [(.int .i64 0), (.int .i64 0), (.int .i64 0), (.str []), (.sl none 44 [])]))⟩,
    ⟨none, (.al 5 (.agg 63 [(.int .i64 0), (.int .i64 0)]))⟩,
    ⟨none, (.mv (some 6) (.v (.int .i64 0)))⟩])
  (.seq (.reg [⟨none, (.mv (some 15) (.t 0))⟩,
    ⟨none, (.fa 16 63 0 (.t 3))⟩,
    ⟨none, (.ld 17 none (.t 16))⟩,
    ⟨none, (.ca (some 18) 50 [(.t 15), (.t 17)])⟩,
    ⟨none, (.mv (some 14) (.t 18))⟩,
    ⟨none, (.ex 19 0 (.t 14))⟩,
    ⟨none, (.ex 20 1 (.t 14))⟩,
    ⟨none, (.ex 21 2 (.t 14))⟩,
    ⟨none, (.mv (some 7) (.t 19))⟩,
    ⟨none, (.mv (some 8) (.t 20))⟩,
    ⟨none, (.mv (some 9) (.t 21))⟩])
  (.seq (.reg [⟨none, (.mv (some 23) (.t 7))⟩,
    ⟨none, (.ca (some 24) 51 [(.t 23)])⟩,
    ⟨none, (.mv (some 22) (.t 24))⟩,
    ⟨none, (.ex 25 0 (.t 22))⟩,
    ⟨none, (.ex 26 1 (.t 22))⟩,
    ⟨none, (.al 10 (.agg 24 [(.int .i64 0), (.int .i64 0), (.int .i64 0), (.str []), (.sl none 44 [])]))⟩,
    ⟨none, (.st (some 24) (.t 10) (.t 25))⟩,
    ⟨none, (.mv (some 11) (.t 26))⟩])
  (.seq (.jn ⟨[(32, (.lf .bool))], [], [27, 28, 29, 30, 31].map .s⟩ (.reg [⟨none, (.mv (some 27) (.t 11))⟩,
    ⟨none, (.un 28 .not (.t 27))⟩,
    ⟨none, (.mv (some 29) (.t 28))⟩,
    ⟨(some (29, false)), (.mv (some 30) (.t 9))⟩,
    ⟨(some (29, false)), (.un 31 .not (.t 30))⟩,
    ⟨none, (.pick 32 (.t 29) (.v (.bool true)) (.t 31))⟩])
  (.cond (.t 32)
    (.seq (.reg [⟨none, (.bd 33 24 [(.int .i64 0), (.int .i64 0), (.int .i64 0), (.str []), (.sl none 44 [])] [] [])⟩,
    ⟨none, (.lx [4, 5] 34 (some 63) (.t 3))⟩,
    ⟨none, (.sx 4 (some 24) (.t 4) (.t 33))⟩,
    ⟨none, (.sx 5 (some 63) (.t 5) (.t 34))⟩,
    ⟨none, (.mv (some 6) (.v (.int .i64 3)))⟩])
  .ret)
    .skip))
  (.seq (.gh 6001004 [])
  (.block 0 (.loop ⟨[(8, (.lf (.int .i64)))], [(3, (.lf (.agg 63 (.pair (.int .i64) (.int .i64))))), (4, (.lf (.agg 24 (.pair (.int .i64) (.pair (.int .i64) (.pair (.int .i64) (.pair .str (.sl 44 (.agg 44 (.pair .str (.pair .str (.pair (.sl 46 (.agg 46 (.pair .byte .str))) (.int .i64))))))))))))), (5, (.lf (.agg 63 (.pair (.int .i64) (.int .i64))))), (10, (.agg 24 (.pair (.lf (.int .i64)) (.pair (.lf (.int .i64)) (.pair (.lf (.int .i64)) (.pair (.lf .str) (.row 6001004 44 (.agg 44 (.pair .str (.pair .str (.pair (.sl 46 (.agg 46 (.pair .byte .str))) (.int .i64))))))))))))], [6, 7, 9, 12, 13, 35, 36, 37, 38, 39, 40, 41, 42, 43, 44, 45, 46, 47, 48, 49, 50, 51, 52, 53, 54, 55, 56, 57, 58, 59, 60, 61, 62, 63, 64, 65, 66, 67, 68, 69, 70, 71, 72, 73, 74, 75, 76, 77, 78, 79, 80, 81, 82, 83, 84].map .s ++ [12].map .b ++ [82].map .f⟩ (.block 1 (.seq (.reg [⟨none, (.mv (some 35) (.t 8))⟩,
    ⟨none, (.fa 36 63 1 (.t 3))⟩,
    ⟨none, (.ld 37 none (.t 36))⟩,
    ⟨none, (.ar 38 .add (.t 37) (.v (.int .i64 1)))⟩,
    ⟨none, (.bd 39 63 [(.int .i64 0), (.int .i64 0)] [0, 1] [(.t 35), (.t 38)])⟩,
    ⟨none, (.st (some 63) (.t 3) (.t 39))⟩])
  (.seq (.reg [⟨none, (.mv (some 41) (.t 0))⟩,
    ⟨none, (.fa 42 63 0 (.t 3))⟩,
    ⟨none, (.ld 43 none (.t 42))⟩,
    ⟨none, (.ca (some 44) 50 [(.t 41), (.t 43)])⟩,
    ⟨none, (.mv (some 40) (.t 44))⟩,
    ⟨none, (.ex 45 0 (.t 40))⟩,
    ⟨none, (.ex 46 1 (.t 40))⟩,
    ⟨none, (.ex 47 2 (.t 40))⟩,
    ⟨none, (.mv (some 7) (.t 45))⟩,
    ⟨none, (.mv (some 8) (.t 46))⟩,
    ⟨none, (.mv (some 9) (.t 47))⟩])
  (.seq (.jn ⟨[(55, (.lf .bool))], [], [48, 49, 50, 51, 52, 53, 54].map .s⟩ (.reg [⟨none, (.mv (some 48) (.t 7))⟩,
    ⟨none, (.ar 49 .neq (.t 48) (.v (.str [])))⟩,
    ⟨none, (.mv (some 50) (.t 49))⟩,
    ⟨(some (50, true)), (.fa 51 24 4 (.t 10))⟩,
    ⟨(some (50, true)), (.ld 52 none (.t 51))⟩,
    ⟨(some (50, true)), (.ln 53 (some 44) (.t 52))⟩,
    ⟨(some (50, true)), (.ar 54 .geq (.t 53) (.v (.int .i64 64)))⟩,
    ⟨none, (.pick 55 (.t 50) (.t 54) (.v (.bool false)))⟩])
  (.cond (.t 55)
    (.seq (.reg [⟨none, (.bd 56 24 [(.int .i64 0), (.int .i64 0), (.int .i64 0), (.str []), (.sl none 44 [])] [] [])⟩,
    ⟨none, (.lx [4, 5] 57 (some 63) (.t 3))⟩,
    ⟨none, (.sx 4 (some 24) (.t 4) (.t 56))⟩,
    ⟨none, (.sx 5 (some 63) (.t 5) (.t 57))⟩,
    ⟨none, (.mv (some 6) (.v (.int .i64 4)))⟩])
  .ret)
    .skip))
  (.seq (.seq (.reg [⟨none, (.mv (some 58) (.t 9))⟩,
    ⟨none, (.un 59 .not (.t 58))⟩])
  (.cond (.t 59)
    (.seq (.reg [⟨none, (.bd 60 24 [(.int .i64 0), (.int .i64 0), (.int .i64 0), (.str []), (.sl none 44 [])] [] [])⟩,
    ⟨none, (.lx [4, 5] 61 (some 63) (.t 3))⟩,
    ⟨none, (.sx 4 (some 24) (.t 4) (.t 60))⟩,
    ⟨none, (.sx 5 (some 63) (.t 5) (.t 61))⟩,
    ⟨none, (.mv (some 6) (.v (.int .i64 3)))⟩])
  .ret)
    .skip))
  (.seq (.seq (.reg [⟨none, (.mv (some 62) (.t 7))⟩,
    ⟨none, (.ar 63 .eql (.t 62) (.v (.str [])))⟩])
  (.cond (.t 63)
    (.seq (.reg [⟨none, (.lx [4, 5] 64 (some 24) (.t 10))⟩,
    ⟨none, (.mv (some 65) (.t 8))⟩,
    ⟨none, (.fx [4, 5] 66 63 1 (.t 3))⟩,
    ⟨none, (.lx [4, 5] 67 none (.t 66))⟩,
    ⟨none, (.ar 68 .add (.t 67) (.v (.int .i64 1)))⟩,
    ⟨none, (.bd 69 63 [(.int .i64 0), (.int .i64 0)] [0, 1] [(.t 65), (.t 68)])⟩,
    ⟨none, (.sx 4 (some 24) (.t 4) (.t 64))⟩,
    ⟨none, (.sx 5 (some 63) (.t 5) (.t 69))⟩,
    ⟨none, (.mv (some 6) (.v (.int .i64 0)))⟩])
  .ret)
    .skip))
  (.seq (.reg [⟨none, (.mv (some 71) (.t 7))⟩,
    ⟨none, (.ca (some 72) 52 [(.t 71)])⟩,
    ⟨none, (.mv (some 70) (.t 72))⟩,
    ⟨none, (.ex 73 0 (.t 70))⟩,
    ⟨none, (.ex 74 1 (.t 70))⟩,
    ⟨none, (.al 12 (.agg 44 [(.str []), (.str []), (.sl none 46 []), (.int .i64 0)]))⟩,
    ⟨none, (.st (some 44) (.t 12) (.t 73))⟩,
    ⟨none, (.mv (some 13) (.t 74))⟩])
  (.seq (.seq (.reg [⟨none, (.mv (some 75) (.t 13))⟩,
    ⟨none, (.ar 76 .neq (.t 75) (.v (.int .i64 0)))⟩])
  (.cond (.t 76)
    (.seq (.reg [⟨none, (.bd 77 24 [(.int .i64 0), (.int .i64 0), (.int .i64 0), (.str []), (.sl none 44 [])] [] [])⟩,
    ⟨none, (.lx [4, 5] 78 (some 63) (.t 3))⟩,
    ⟨none, (.sx 4 (some 24) (.t 4) (.t 77))⟩,
    ⟨none, (.sx 5 (some 63) (.t 5) (.t 78))⟩,
    ⟨none, (.mv (some 6) (.v (.int .i64 3)))⟩])
  .ret)
    .skip))
  (.reg [⟨none, (.fa 79 24 4 (.t 10))⟩,
    ⟨none, (.ld 80 none (.t 79))⟩,
    ⟨none, (.ld 81 (some 44) (.t 12))⟩,
    ⟨none, (.bs 82 44 (some 44) [(.t 81)])⟩,
    ⟨none, (.ap 83 44 (.t 80) (.t 82))⟩,
    ⟨none, (.fa 84 24 4 (.t 10))⟩,
    ⟨none, (.st none (.t 84) (.t 83))⟩]))))))))))))))))
noncomputable def ent32 : TEnt := ⟨32, [.str, (.agg 63 (.pair (.int .i64) (.int .i64)))], (.tup (.pair (.agg 24 (.pair (.int .i64) (.pair (.int .i64) (.pair (.int .i64) (.pair .str (.sl 44 (.agg 44 (.pair .str (.pair .str (.pair (.sl 46 (.agg 46 (.pair .byte .str))) (.int .i64))))))))))) (.pair (.agg 63 (.pair (.int .i64) (.int .i64))) (.int .i64)))), fun x => F32 x.1 x.2, .plain⟩
theorem eq32 (x : dens ent32.as) : ent32.F x = evF [ent50, ent51, ent52] SHF dc32 [(.cell 4 (some 24)), (.cell 5 (some 63)), (.tmp 6)] ent32.as ent32.rs x := by kernel_rfl
/-- library/libraryref11.Parse -/
noncomputable def F14 (a0 : List UInt8) : Option ((Int × Int × Int × List UInt8 × List (List UInt8 × List UInt8 × (List (UInt8 × List UInt8)) × Int)) × Int × Int) :=
  bindO (F32 a0 ((0 : Int), (1 : Int))) fun y1 =>
  cond (!decide (y1.2.2 = (0 : Int)))
    (some (((0 : Int), (0 : Int), (0 : Int), ([] : List UInt8), ([] : List (List UInt8 × List UInt8 × (List (UInt8 × List UInt8)) × Int))), y1.2.1.2, y1.2.2))
    (cond (!decide (y1.2.1.1 = (List.length a0 : Int)))
      (some (((0 : Int), (0 : Int), (0 : Int), ([] : List UInt8), ([] : List (List UInt8 × List UInt8 × (List (UInt8 × List UInt8)) × Int))), y1.2.1.2, (3 : Int)))
      (some (y1.1, (0 : Int), (0 : Int))))
def dc14 : DC :=
  (.seq (.reg [⟨none, (.al 2 (.agg 24 [(.int .i64 0), (.int .i64 0), (.int .i64 0), (.str []), (.sl none 44 [])]))⟩,
    ⟨none, (.mv (some 3) (.v (.int .i64 0)))⟩,
    ⟨none, (.mv (some 4) (.v (.int .i64 0)))⟩])
  (.seq (.reg [⟨none, (.mv (some 9) (.t 0))⟩,
    ⟨none, (.bd 10 63 [(.int .i64 0), (.int .i64 0)] [0, 1] [(.v (.int .i64 0)), (.v (.int .i64 1))])⟩,
    ⟨none, (.ca (some 11) 32 [(.t 9), (.t 10)])⟩,
    ⟨none, (.mv (some 8) (.t 11))⟩,
    ⟨none, (.ex 12 0 (.t 8))⟩,
    ⟨none, (.ex 13 1 (.t 8))⟩,
    ⟨none, (.ex 14 2 (.t 8))⟩,
    ⟨none, (.al 5 (.agg 24 [(.int .i64 0), (.int .i64 0), (.int .i64 0), (.str []), (.sl none 44 [])]))⟩,
    ⟨none, (.al 6 (.agg 63 [(.int .i64 0), (.int .i64 0)]))⟩,
    ⟨none, (.st (some 24) (.t 5) (.t 12))⟩,
    ⟨none, (.st (some 63) (.t 6) (.t 13))⟩,
    ⟨none, (.mv (some 7) (.t 14))⟩])
  (.seq (.seq (.reg [⟨none, (.mv (some 15) (.t 7))⟩,
    ⟨none, (.ar 16 .neq (.t 15) (.v (.int .i64 0)))⟩])
  (.cond (.t 16)
    (.seq (.reg [⟨none, (.bd 17 24 [(.int .i64 0), (.int .i64 0), (.int .i64 0), (.str []), (.sl none 44 [])] [] [])⟩,
    ⟨none, (.fx [2] 18 63 1 (.t 6))⟩,
    ⟨none, (.lx [2] 19 none (.t 18))⟩,
    ⟨none, (.mv (some 20) (.t 7))⟩,
    ⟨none, (.sx 2 (some 24) (.t 2) (.t 17))⟩,
    ⟨none, (.mv (some 3) (.t 19))⟩,
    ⟨none, (.mv (some 4) (.t 20))⟩])
  .ret)
    .skip))
  (.seq (.seq (.reg [⟨none, (.fa 21 63 0 (.t 6))⟩,
    ⟨none, (.ld 22 none (.t 21))⟩,
    ⟨none, (.mv (some 23) (.t 0))⟩,
    ⟨none, (.ln 24 none (.t 23))⟩,
    ⟨none, (.ar 25 .neq (.t 22) (.t 24))⟩])
  (.cond (.t 25)
    (.seq (.reg [⟨none, (.bd 26 24 [(.int .i64 0), (.int .i64 0), (.int .i64 0), (.str []), (.sl none 44 [])] [] [])⟩,
    ⟨none, (.fx [2] 27 63 1 (.t 6))⟩,
    ⟨none, (.lx [2] 28 none (.t 27))⟩,
    ⟨none, (.sx 2 (some 24) (.t 2) (.t 26))⟩,
    ⟨none, (.mv (some 3) (.t 28))⟩,
    ⟨none, (.mv (some 4) (.v (.int .i64 3)))⟩])
  .ret)
    .skip))
  (.seq (.reg [⟨none, (.ld 29 (some 24) (.t 5))⟩,
    ⟨none, (.st (some 24) (.t 2) (.t 29))⟩,
    ⟨none, (.mv (some 3) (.v (.int .i64 0)))⟩,
    ⟨none, (.mv (some 4) (.v (.int .i64 0)))⟩])
  .ret)))))
noncomputable def ent14 : TEnt := ⟨14, [.str], (.tup (.pair (.agg 24 (.pair (.int .i64) (.pair (.int .i64) (.pair (.int .i64) (.pair .str (.sl 44 (.agg 44 (.pair .str (.pair .str (.pair (.sl 46 (.agg 46 (.pair .byte .str))) (.int .i64))))))))))) (.pair (.int .i64) (.int .i64)))), fun x => F14 x, .plain⟩
theorem eq14 (x : dens ent14.as) : ent14.F x = evF [ent32] SHF dc14 [(.cell 2 (some 24)), (.tmp 3), (.tmp 4)] ent14.as ent14.rs x := by kernel_rfl
/-- library/libraryref11.PrintAll -/
noncomputable def F21 (a0 : List (Int × Int × Int × List UInt8 × List (List UInt8 × List UInt8 × (List (UInt8 × List UInt8)) × Int))) : Option (List UInt8 × Int) :=
  cond (decide ((64 : Int) < (List.length a0 : Int)))
    (some (([] : List UInt8), (13 : Int)))
    (loopK (σ := List UInt8 × Int) (fun p1 againp1 =>
      cond (decide (p1.2 < (List.length a0 : Int)))
        (gd (0 ≤ p1.2 ∧ p1.2 < (List.length a0 : Int)) <|
        bindO (F12 (List.getD a0 (Int.toNat p1.2) (0, (0, (0, ([], [])))))) fun y2 =>
        cond (!decide (y2.2 = (0 : Int)))
          (some (([] : List UInt8), y2.2))
          (gd (List.length p1.1 + List.length y2.1 ≤ big) <|
          bnd (p1.1 ++ y2.1) fun x3 =>
          bnd (IntKind.wrap .i64 (p1.2 + (1 : Int))) fun x4 =>
          againp1 (x3, x4)))
        (cond (decide ((65536 : Int) < (List.length p1.1 : Int)))
          (some (([] : List UInt8), (4 : Int)))
          (some (p1.1, (0 : Int))))) (([] : List UInt8), (0 : Int)))
def dc21 : DC :=
  (.seq (.reg [⟨none, (.mv (some 2) (.v (.str [])))⟩,
    ⟨none, (.mv (some 3) (.v (.int .i64 0)))⟩])
  (.seq (.seq (.reg [⟨none, (.mv (some 8) (.t 0))⟩,
    ⟨none, (.ln 9 (some 24) (.t 8))⟩,
    ⟨none, (.ar 10 .gtr (.t 9) (.v (.int .i64 64)))⟩])
  (.cond (.t 10)
    (.seq (.reg [⟨none, (.mv (some 2) (.v (.str [])))⟩,
    ⟨none, (.mv (some 3) (.v (.int .i64 13)))⟩])
  .ret)
    .skip))
  (.seq (.reg [⟨none, (.mv (some 4) (.v (.str [])))⟩])
  (.seq (.seq (.reg [⟨none, (.mv (some 5) (.v (.int .i64 0)))⟩])
  (.block 0 (.loop ⟨[(4, (.lf .str)), (5, (.lf (.int .i64)))], [], [2, 3, 6, 7, 11, 12, 13, 14, 15, 16, 17, 18, 19, 20, 21, 22, 23, 24, 25, 26, 27, 28, 29, 30].map .s⟩ (.seq (.seq (.reg [⟨none, (.mv (some 11) (.t 5))⟩,
    ⟨none, (.mv (some 12) (.t 0))⟩,
    ⟨none, (.ln 13 (some 24) (.t 12))⟩,
    ⟨none, (.ar 14 .lss (.t 11) (.t 13))⟩])
  (.cond (.t 14)
    .skip
    (.exit 0)))
  (.seq (.block 1 (.seq (.reg [⟨none, (.mv (some 18) (.t 0))⟩,
    ⟨none, (.mv (some 19) (.t 5))⟩,
    ⟨none, (.ea 20 24 (.t 18) (.t 19))⟩,
    ⟨none, (.ld 21 (some 24) (.t 20))⟩,
    ⟨none, (.ca (some 22) 12 [(.t 21)])⟩,
    ⟨none, (.mv (some 17) (.t 22))⟩,
    ⟨none, (.ex 23 0 (.t 17))⟩,
    ⟨none, (.ex 24 1 (.t 17))⟩,
    ⟨none, (.mv (some 6) (.t 23))⟩,
    ⟨none, (.mv (some 7) (.t 24))⟩])
  (.seq (.seq (.reg [⟨none, (.mv (some 25) (.t 7))⟩,
    ⟨none, (.ar 26 .neq (.t 25) (.v (.int .i64 0)))⟩])
  (.cond (.t 26)
    (.seq (.reg [⟨none, (.mv (some 27) (.t 7))⟩,
    ⟨none, (.mv (some 2) (.v (.str [])))⟩,
    ⟨none, (.mv (some 3) (.t 27))⟩])
  .ret)
    .skip))
  (.reg [⟨none, (.mv (some 28) (.t 4))⟩,
    ⟨none, (.mv (some 29) (.t 6))⟩,
    ⟨none, (.ar 30 .add (.t 28) (.t 29))⟩,
    ⟨none, (.mv (some 4) (.t 30))⟩]))))
  (.reg [⟨none, (.mv (some 15) (.t 5))⟩,
    ⟨none, (.ar 16 .add (.t 15) (.v (.int .i64 1)))⟩,
    ⟨none, (.mv (some 5) (.t 16))⟩]))))))
  (.seq (.seq (.reg [⟨none, (.mv (some 31) (.t 4))⟩,
    ⟨none, (.ln 32 none (.t 31))⟩,
    ⟨none, (.ar 33 .gtr (.t 32) (.v (.int .i64 65536)))⟩])
  (.cond (.t 33)
    (.seq (.reg [⟨none, (.mv (some 2) (.v (.str [])))⟩,
    ⟨none, (.mv (some 3) (.v (.int .i64 4)))⟩])
  .ret)
    .skip))
  (.seq (.reg [⟨none, (.mv (some 34) (.t 4))⟩,
    ⟨none, (.mv (some 2) (.t 34))⟩,
    ⟨none, (.mv (some 3) (.v (.int .i64 0)))⟩])
  .ret))))))
noncomputable def ent21 : TEnt := ⟨21, [(.sl 24 (.agg 24 (.pair (.int .i64) (.pair (.int .i64) (.pair (.int .i64) (.pair .str (.sl 44 (.agg 44 (.pair .str (.pair .str (.pair (.sl 46 (.agg 46 (.pair .byte .str))) (.int .i64))))))))))))], (.tup (.pair .str (.int .i64))), fun x => F21 x, .plain⟩
theorem eq21 (x : dens ent21.as) : ent21.F x = evF [ent12] SHF dc21 [(.tmp 2), (.tmp 3)] ent21.as ent21.rs x := by kernel_rfl
/-- library/libraryref11.ParseAll -/
noncomputable def F17 (a0 : List UInt8) : Option ((List (Int × Int × Int × List UInt8 × List (List UInt8 × List UInt8 × (List (UInt8 × List UInt8)) × Int))) × Int × Int) :=
  jn (σ := Unit) (fun nextj1 =>
    nextj1 ()) fun j1 =>
  cond (decide ((65536 : Int) < (List.length a0 : Int)))
    (some (([] : List (Int × Int × Int × List UInt8 × List (List UInt8 × List UInt8 × (List (UInt8 × List UInt8)) × Int))), (0 : Int), (4 : Int)))
    (gdN (List.length ([] : List (Int × Int × Int × List UInt8 × List (List UInt8 × List UInt8 × (List (UInt8 × List UInt8)) × Int)))) (List.length ([] : List (Int × Int × Int × List UInt8 × List (List UInt8 × List UInt8 × (List (UInt8 × List UInt8)) × Int)))) <|
    loopK (σ := (List (Int × Int × Int × List UInt8 × List (List UInt8 × List UInt8 × (List (UInt8 × List UInt8)) × Int))) × Int × Int) (fun p2 againp2 =>
      cond (decide (p2.2.1 < (List.length a0 : Int)))
        (cond (decide ((64 : Int) ≤ (List.length p2.1 : Int)))
          (some (([] : List (Int × Int × Int × List UInt8 × List (List UInt8 × List UInt8 × (List (UInt8 × List UInt8)) × Int))), p2.2.2, (13 : Int)))
          (bindO (F32 a0 p2.2) fun y3 =>
          cond (!decide (y3.2.2 = (0 : Int)))
            (some (([] : List (Int × Int × Int × List UInt8 × List (List UInt8 × List UInt8 × (List (UInt8 × List UInt8)) × Int))), y3.2.1.2, y3.2.2))
            (gdN (List.length p2.1) (List.length p2.1) <|
            gd (List.length p2.1 + List.length [y3.1] ≤ big) <|
            bnd (p2.1 ++ [y3.1]) fun l4 =>
            gdN (List.length l4) (List.length l4) <|
            againp2 (l4, y3.2.1))))
        (some (p2.1, (0 : Int), (0 : Int)))) (([] : List (Int × Int × Int × List UInt8 × List (List UInt8 × List UInt8 × (List (UInt8 × List UInt8)) × Int))), ((0 : Int), (1 : Int))))
def dc17 : DC :=
  (.jn ⟨[], [], [2, 3, 4].map .s ++ [2].map .f⟩ (.reg [⟨none, (.nl 2 24)⟩,
    ⟨none, (.mv (some 3) (.v (.int .i64 0)))⟩,
    ⟨none, (.mv (some 4) (.v (.int .i64 0)))⟩])
  (.seq (.seq (.reg [⟨none, (.mv (some 10) (.t 0))⟩,
    ⟨none, (.ln 11 none (.t 10))⟩,
    ⟨none, (.ar 12 .gtr (.t 11) (.v (.int .i64 65536)))⟩])
  (.cond (.t 12)
    (.seq (.reg [⟨none, (.nl 2 24)⟩,
    ⟨none, (.mv (some 3) (.v (.int .i64 0)))⟩,
    ⟨none, (.mv (some 4) (.v (.int .i64 4)))⟩])
  .ret)
    .skip))
  (.seq (.reg [⟨none, (.bs 13 24 (some 24) [])⟩,
    ⟨none, (.mv (some 5) (.t 13))⟩])
  (.seq (.reg [⟨none, (.bd 14 63 [(.int .i64 0), (.int .i64 0)] [0, 1] [(.v (.int .i64 0)), (.v (.int .i64 1))])⟩,
    ⟨none, (.al 6 (.agg 63 [(.int .i64 0), (.int .i64 0)]))⟩,
    ⟨none, (.st (some 63) (.t 6) (.t 14))⟩])
  (.seq (.block 0 (.loop ⟨[(5, (.row 13 24 (.agg 24 (.pair (.int .i64) (.pair (.int .i64) (.pair (.int .i64) (.pair .str (.sl 44 (.agg 44 (.pair .str (.pair .str (.pair (.sl 46 (.agg 46 (.pair .byte .str))) (.int .i64)))))))))))))], [(6, (.lf (.agg 63 (.pair (.int .i64) (.int .i64)))))], [2, 3, 4, 7, 8, 9, 15, 16, 17, 18, 19, 20, 21, 22, 23, 24, 25, 26, 27, 28, 29, 30, 31, 32, 33, 34, 35, 36, 37, 38, 39, 40, 41].map .s ++ [7, 8].map .b ++ [2, 39].map .f⟩ (.seq (.seq (.reg [⟨none, (.fa 15 63 0 (.t 6))⟩,
    ⟨none, (.ld 16 none (.t 15))⟩,
    ⟨none, (.mv (some 17) (.t 0))⟩,
    ⟨none, (.ln 18 none (.t 17))⟩,
    ⟨none, (.ar 19 .lss (.t 16) (.t 18))⟩])
  (.cond (.t 19)
    .skip
    (.exit 0)))
  (.block 1 (.seq (.seq (.reg [⟨none, (.mv (some 20) (.t 5))⟩,
    ⟨none, (.ln 21 (some 24) (.t 20))⟩,
    ⟨none, (.ar 22 .geq (.t 21) (.v (.int .i64 64)))⟩])
  (.cond (.t 22)
    (.seq (.reg [⟨none, (.fa 23 63 1 (.t 6))⟩,
    ⟨none, (.ld 24 none (.t 23))⟩,
    ⟨none, (.nl 2 24)⟩,
    ⟨none, (.mv (some 3) (.t 24))⟩,
    ⟨none, (.mv (some 4) (.v (.int .i64 13)))⟩])
  .ret)
    .skip))
  (.seq (.reg [⟨none, (.mv (some 26) (.t 0))⟩,
    ⟨none, (.ld 27 (some 63) (.t 6))⟩,
    ⟨none, (.ca (some 28) 32 [(.t 26), (.t 27)])⟩,
    ⟨none, (.mv (some 25) (.t 28))⟩,
    ⟨none, (.ex 29 0 (.t 25))⟩,
    ⟨none, (.ex 30 1 (.t 25))⟩,
    ⟨none, (.ex 31 2 (.t 25))⟩,
    ⟨none, (.al 7 (.agg 24 [(.int .i64 0), (.int .i64 0), (.int .i64 0), (.str []), (.sl none 44 [])]))⟩,
    ⟨none, (.al 8 (.agg 63 [(.int .i64 0), (.int .i64 0)]))⟩,
    ⟨none, (.st (some 24) (.t 7) (.t 29))⟩,
    ⟨none, (.st (some 63) (.t 8) (.t 30))⟩,
    ⟨none, (.mv (some 9) (.t 31))⟩])
  (.seq (.seq (.reg [⟨none, (.mv (some 32) (.t 9))⟩,
    ⟨none, (.ar 33 .neq (.t 32) (.v (.int .i64 0)))⟩])
  (.cond (.t 33)
    (.seq (.reg [⟨none, (.fa 34 63 1 (.t 8))⟩,
    ⟨none, (.ld 35 none (.t 34))⟩,
    ⟨none, (.mv (some 36) (.t 9))⟩,
    ⟨none, (.nl 2 24)⟩,
    ⟨none, (.mv (some 3) (.t 35))⟩,
    ⟨none, (.mv (some 4) (.t 36))⟩])
  .ret)
    .skip))
  (.seq (.reg [⟨none, (.mv (some 37) (.t 5))⟩,
    ⟨none, (.ld 38 (some 24) (.t 7))⟩,
    ⟨none, (.bs 39 24 (some 24) [(.t 38)])⟩,
    ⟨none, (.ap 40 24 (.t 37) (.t 39))⟩,
    ⟨none, (.mv (some 5) (.t 40))⟩])
  (.reg [⟨none, (.ld 41 (some 63) (.t 8))⟩,
    ⟨none, (.st (some 63) (.t 6) (.t 41))⟩])))))))))
  (.seq (.reg [⟨none, (.mv (some 42) (.t 5))⟩,
    ⟨none, (.mv (some 2) (.t 42))⟩,
    ⟨none, (.mv (some 3) (.v (.int .i64 0)))⟩,
    ⟨none, (.mv (some 4) (.v (.int .i64 0)))⟩])
  .ret))))))
noncomputable def ent17 : TEnt := ⟨17, [.str], (.tup (.pair (.sl 24 (.agg 24 (.pair (.int .i64) (.pair (.int .i64) (.pair (.int .i64) (.pair .str (.sl 44 (.agg 44 (.pair .str (.pair .str (.pair (.sl 46 (.agg 46 (.pair .byte .str))) (.int .i64)))))))))))) (.pair (.int .i64) (.int .i64)))), fun x => F17 x, .plain⟩
theorem eq17 (x : dens ent17.as) : ent17.F x = evF [ent32] SHF dc17 [(.tmp 2), (.tmp 3), (.tmp 4)] ent17.as ent17.rs x := by kernel_rfl
/-- library/libraryref07.Same -/
noncomputable def F53 (a0 : List UInt8 × List UInt8 × (List (UInt8 × List UInt8)) × Int) (a1 : List UInt8 × List UInt8 × (List (UInt8 × List UInt8)) × Int) : Option (Bool) :=
  cond (!decide (a0.1 = a1.1))
    (some false)
    (cond (!decide (a0.2.1 = a1.2.1))
      (some false)
      (cond (!decide (a0.2.2.2 = a1.2.2.2))
        (some false)
        (cond (!decide ((List.length a0.2.2.1 : Int) = (List.length a1.2.2.1 : Int)))
          (some false)
          (loopK (σ := Int) (fun p1 againp1 =>
            cond (decide (p1 < (List.length a0.2.2.1 : Int)))
              (gd (0 ≤ p1 ∧ p1 < (List.length a0.2.2.1 : Int)) <|
              gd (0 ≤ p1 ∧ p1 < (List.length a1.2.2.1 : Int)) <|
              cond (!(decide ((UInt8.toNat ((List.getD a0.2.2.1 (Int.toNat p1) (0, [])).1) : Int) = (UInt8.toNat ((List.getD a1.2.2.1 (Int.toNat p1) (0, [])).1) : Int)) && (decide ((List.getD a0.2.2.1 (Int.toNat p1) (0, [])).2 = (List.getD a1.2.2.1 (Int.toNat p1) (0, [])).2) && true)))
                (some false)
                (bnd (IntKind.wrap .i64 (p1 + (1 : Int))) fun x2 =>
                againp1 x2))
              (some true)) (0 : Int)))))
def dc53 : DC :=
  (.seq (.reg [⟨none, (.bx 2 (some 44) (.t 0))⟩,
    ⟨none, (.bx 3 (some 44) (.t 1))⟩,
    ⟨none, (.mv (some 4) (.v (.bool false)))⟩])
  (.seq (.seq (.reg [⟨none, (.fa 6 44 0 (.t 2))⟩,
    ⟨none, (.ld 7 none (.t 6))⟩,
    ⟨none, (.fa 8 44 0 (.t 3))⟩,
    ⟨none, (.ld 9 none (.t 8))⟩,
    ⟨none, (.ar 10 .neq (.t 7) (.t 9))⟩,
    ⟨none, (.mv (some 11) (.t 10))⟩,
    ⟨(some (11, false)), (.fa 12 44 1 (.t 2))⟩,
    ⟨(some (11, false)), (.ld 13 none (.t 12))⟩,
    ⟨(some (11, false)), (.fa 14 44 1 (.t 3))⟩,
    ⟨(some (11, false)), (.ld 15 none (.t 14))⟩,
    ⟨(some (11, false)), (.ar 16 .neq (.t 13) (.t 15))⟩,
    ⟨none, (.pick 17 (.t 11) (.v (.bool true)) (.t 16))⟩,
    ⟨none, (.mv (some 18) (.t 17))⟩,
    ⟨(some (18, false)), (.fa 19 44 3 (.t 2))⟩,
    ⟨(some (18, false)), (.ld 20 none (.t 19))⟩,
    ⟨(some (18, false)), (.fa 21 44 3 (.t 3))⟩,
    ⟨(some (18, false)), (.ld 22 none (.t 21))⟩,
    ⟨(some (18, false)), (.ar 23 .neq (.t 20) (.t 22))⟩,
    ⟨none, (.pick 24 (.t 18) (.v (.bool true)) (.t 23))⟩,
    ⟨none, (.mv (some 25) (.t 24))⟩,
    ⟨(some (25, false)), (.fa 26 44 2 (.t 2))⟩,
    ⟨(some (25, false)), (.ld 27 none (.t 26))⟩,
    ⟨(some (25, false)), (.ln 28 (some 46) (.t 27))⟩,
    ⟨(some (25, false)), (.fa 29 44 2 (.t 3))⟩,
    ⟨(some (25, false)), (.ld 30 none (.t 29))⟩,
    ⟨(some (25, false)), (.ln 31 (some 46) (.t 30))⟩,
    ⟨(some (25, false)), (.ar 32 .neq (.t 28) (.t 31))⟩,
    ⟨none, (.pick 33 (.t 25) (.v (.bool true)) (.t 32))⟩])
  (.cond (.t 33)
    (.seq (.reg [⟨none, (.mv (some 4) (.v (.bool false)))⟩])
  .ret)
    .skip))
  (.seq (.seq (.reg [⟨none, (.mv (some 5) (.v (.int .i64 0)))⟩])
  (.block 0 (.loop ⟨[(5, (.lf (.int .i64)))], [], [4, 34, 35, 36, 37, 38, 39, 40, 41, 42, 43, 44, 45, 46, 47, 48, 49, 50, 51].map .s⟩ (.seq (.seq (.reg [⟨none, (.mv (some 34) (.t 5))⟩,
    ⟨none, (.fa 35 44 2 (.t 2))⟩,
    ⟨none, (.ld 36 none (.t 35))⟩,
    ⟨none, (.ln 37 (some 46) (.t 36))⟩,
    ⟨none, (.ar 38 .lss (.t 34) (.t 37))⟩])
  (.cond (.t 38)
    .skip
    (.exit 0)))
  (.seq (.block 1 (.seq (.reg [⟨none, (.fa 41 44 2 (.t 2))⟩,
    ⟨none, (.ld 42 none (.t 41))⟩,
    ⟨none, (.mv (some 43) (.t 5))⟩,
    ⟨none, (.ea 44 46 (.t 42) (.t 43))⟩,
    ⟨none, (.ld 45 (some 46) (.t 44))⟩,
    ⟨none, (.fa 46 44 2 (.t 3))⟩,
    ⟨none, (.ld 47 none (.t 46))⟩,
    ⟨none, (.mv (some 48) (.t 5))⟩,
    ⟨none, (.ea 49 46 (.t 47) (.t 48))⟩,
    ⟨none, (.ld 50 (some 46) (.t 49))⟩,
    ⟨none, (.se 51 (.st [1, 2]) true (.t 45) (.t 50))⟩])
  (.cond (.t 51)
    (.seq (.reg [⟨none, (.mv (some 4) (.v (.bool false)))⟩])
  .ret)
    .skip)))
  (.reg [⟨none, (.mv (some 39) (.t 5))⟩,
    ⟨none, (.ar 40 .add (.t 39) (.v (.int .i64 1)))⟩,
    ⟨none, (.mv (some 5) (.t 40))⟩]))))))
  (.seq (.reg [⟨none, (.mv (some 4) (.v (.bool true)))⟩])
  .ret))))
noncomputable def ent53 : TEnt := ⟨53, [(.agg 44 (.pair .str (.pair .str (.pair (.sl 46 (.agg 46 (.pair .byte .str))) (.int .i64))))), (.agg 44 (.pair .str (.pair .str (.pair (.sl 46 (.agg 46 (.pair .byte .str))) (.int .i64)))))], .bool, fun x => F53 x.1 x.2, .plain⟩
theorem eq53 (x : dens ent53.as) : ent53.F x = evF [] SHF dc53 [(.tmp 4)] ent53.as ent53.rs x := by kernel_rfl
/-- library/libraryref08.SameFields -/
noncomputable def F33 (a0 : List (List UInt8 × List UInt8 × (List (UInt8 × List UInt8)) × Int)) (a1 : List (List UInt8 × List UInt8 × (List (UInt8 × List UInt8)) × Int)) : Option (Bool) :=
  cond (!decide ((List.length a0 : Int) = (List.length a1 : Int)))
    (some false)
    (loopK (σ := Int) (fun p1 againp1 =>
      cond (decide (p1 < (List.length a0 : Int)))
        (gd (0 ≤ p1 ∧ p1 < (List.length a0 : Int)) <|
        gd (0 ≤ p1 ∧ p1 < (List.length a1 : Int)) <|
        bindO (F53 (List.getD a0 (Int.toNat p1) ([], ([], ([], 0)))) (List.getD a1 (Int.toNat p1) ([], ([], ([], 0))))) fun y2 =>
        cond (!y2)
          (some false)
          (bnd (IntKind.wrap .i64 (p1 + (1 : Int))) fun x3 =>
          againp1 x3))
        (some true)) (0 : Int))
def dc33 : DC :=
  (.seq (.reg [⟨none, (.mv (some 4) (.v (.bool false)))⟩])
  (.seq (.seq (.reg [⟨none, (.mv (some 6) (.t 0))⟩,
    ⟨none, (.ln 7 (some 44) (.t 6))⟩,
    ⟨none, (.mv (some 8) (.t 1))⟩,
    ⟨none, (.ln 9 (some 44) (.t 8))⟩,
    ⟨none, (.ar 10 .neq (.t 7) (.t 9))⟩])
  (.cond (.t 10)
    (.seq (.reg [⟨none, (.mv (some 4) (.v (.bool false)))⟩])
  .ret)
    .skip))
  (.seq (.seq (.reg [⟨none, (.mv (some 5) (.v (.int .i64 0)))⟩])
  (.block 0 (.loop ⟨[(5, (.lf (.int .i64)))], [], [4, 11, 12, 13, 14, 15, 16, 17, 18, 19, 20, 21, 22, 23, 24, 25, 26].map .s⟩ (.seq (.seq (.reg [⟨none, (.mv (some 11) (.t 5))⟩,
    ⟨none, (.mv (some 12) (.t 0))⟩,
    ⟨none, (.ln 13 (some 44) (.t 12))⟩,
    ⟨none, (.ar 14 .lss (.t 11) (.t 13))⟩])
  (.cond (.t 14)
    .skip
    (.exit 0)))
  (.seq (.block 1 (.seq (.reg [⟨none, (.mv (some 17) (.t 0))⟩,
    ⟨none, (.mv (some 18) (.t 5))⟩,
    ⟨none, (.ea 19 44 (.t 17) (.t 18))⟩,
    ⟨none, (.ld 20 (some 44) (.t 19))⟩,
    ⟨none, (.mv (some 21) (.t 1))⟩,
    ⟨none, (.mv (some 22) (.t 5))⟩,
    ⟨none, (.ea 23 44 (.t 21) (.t 22))⟩,
    ⟨none, (.ld 24 (some 44) (.t 23))⟩,
    ⟨none, (.ca (some 25) 53 [(.t 20), (.t 24)])⟩,
    ⟨none, (.un 26 .not (.t 25))⟩])
  (.cond (.t 26)
    (.seq (.reg [⟨none, (.mv (some 4) (.v (.bool false)))⟩])
  .ret)
    .skip)))
  (.reg [⟨none, (.mv (some 15) (.t 5))⟩,
    ⟨none, (.ar 16 .add (.t 15) (.v (.int .i64 1)))⟩,
    ⟨none, (.mv (some 5) (.t 16))⟩]))))))
  (.seq (.reg [⟨none, (.mv (some 4) (.v (.bool true)))⟩])
  .ret))))
noncomputable def ent33 : TEnt := ⟨33, [(.sl 44 (.agg 44 (.pair .str (.pair .str (.pair (.sl 46 (.agg 46 (.pair .byte .str))) (.int .i64)))))), (.sl 44 (.agg 44 (.pair .str (.pair .str (.pair (.sl 46 (.agg 46 (.pair .byte .str))) (.int .i64))))))], .bool, fun x => F33 x.1 x.2, .plain⟩
theorem eq33 (x : dens ent33.as) : ent33.F x = evF [ent53] SHF dc33 [(.tmp 4)] ent33.as ent33.rs x := by kernel_rfl
/-- library/libraryref08.Same -/
noncomputable def F15 (a0 : Int × Int × Int × List UInt8 × List (List UInt8 × List UInt8 × (List (UInt8 × List UInt8)) × Int)) (a1 : Int × Int × Int × List UInt8 × List (List UInt8 × List UInt8 × (List (UInt8 × List UInt8)) × Int)) : Option (Bool) :=
  cond (!decide (a0.1 = a1.1))
    (some false)
    (cond (!decide (a0.2.1 = a1.2.1))
      (some false)
      (cond (!decide (a0.2.2.1 = a1.2.2.1))
        (some false)
        (cond (!decide (a0.2.2.2.1 = a1.2.2.2.1))
          (some false)
          (bindO (F33 a0.2.2.2.2 a1.2.2.2.2) fun y1 =>
          some y1))))
def dc15 : DC :=
  (.seq (.reg [⟨none, (.bx 2 (some 24) (.t 0))⟩,
    ⟨none, (.bx 3 (some 24) (.t 1))⟩,
    ⟨none, (.mv (some 4) (.v (.bool false)))⟩])
  (.seq (.seq (.reg [⟨none, (.fa 5 24 0 (.t 2))⟩,
    ⟨none, (.ld 6 none (.t 5))⟩,
    ⟨none, (.fa 7 24 0 (.t 3))⟩,
    ⟨none, (.ld 8 none (.t 7))⟩,
    ⟨none, (.ar 9 .neq (.t 6) (.t 8))⟩,
    ⟨none, (.mv (some 10) (.t 9))⟩,
    ⟨(some (10, false)), (.fa 11 24 1 (.t 2))⟩,
    ⟨(some (10, false)), (.ld 12 none (.t 11))⟩,
    ⟨(some (10, false)), (.fa 13 24 1 (.t 3))⟩,
    ⟨(some (10, false)), (.ld 14 none (.t 13))⟩,
    ⟨(some (10, false)), (.ar 15 .neq (.t 12) (.t 14))⟩,
    ⟨none, (.pick 16 (.t 10) (.v (.bool true)) (.t 15))⟩,
    ⟨none, (.mv (some 17) (.t 16))⟩,
    ⟨(some (17, false)), (.fa 18 24 2 (.t 2))⟩,
    ⟨(some (17, false)), (.ld 19 none (.t 18))⟩,
    ⟨(some (17, false)), (.fa 20 24 2 (.t 3))⟩,
    ⟨(some (17, false)), (.ld 21 none (.t 20))⟩,
    ⟨(some (17, false)), (.ar 22 .neq (.t 19) (.t 21))⟩,
    ⟨none, (.pick 23 (.t 17) (.v (.bool true)) (.t 22))⟩,
    ⟨none, (.mv (some 24) (.t 23))⟩,
    ⟨(some (24, false)), (.fa 25 24 3 (.t 2))⟩,
    ⟨(some (24, false)), (.ld 26 none (.t 25))⟩,
    ⟨(some (24, false)), (.fa 27 24 3 (.t 3))⟩,
    ⟨(some (24, false)), (.ld 28 none (.t 27))⟩,
    ⟨(some (24, false)), (.ar 29 .neq (.t 26) (.t 28))⟩,
    ⟨none, (.pick 30 (.t 24) (.v (.bool true)) (.t 29))⟩])
  (.cond (.t 30)
    (.seq (.reg [⟨none, (.mv (some 4) (.v (.bool false)))⟩])
  .ret)
    .skip))
  (.seq (.reg [⟨none, (.fa 31 24 4 (.t 2))⟩,
    ⟨none, (.ld 32 none (.t 31))⟩,
    ⟨none, (.fa 33 24 4 (.t 3))⟩,
    ⟨none, (.ld 34 none (.t 33))⟩,
    ⟨none, (.ca (some 35) 33 [(.t 32), (.t 34)])⟩,
    ⟨none, (.mv (some 4) (.t 35))⟩])
  .ret)))
noncomputable def ent15 : TEnt := ⟨15, [(.agg 24 (.pair (.int .i64) (.pair (.int .i64) (.pair (.int .i64) (.pair .str (.sl 44 (.agg 44 (.pair .str (.pair .str (.pair (.sl 46 (.agg 46 (.pair .byte .str))) (.int .i64))))))))))), (.agg 24 (.pair (.int .i64) (.pair (.int .i64) (.pair (.int .i64) (.pair .str (.sl 44 (.agg 44 (.pair .str (.pair .str (.pair (.sl 46 (.agg 46 (.pair .byte .str))) (.int .i64)))))))))))], .bool, fun x => F15 x.1 x.2, .plain⟩
theorem eq15 (x : dens ent15.as) : ent15.F x = evF [ent33] SHF dc15 [(.tmp 4)] ent15.as ent15.rs x := by kernel_rfl
/-- library/libraryref08.SameRecords -/
noncomputable def F18 (a0 : List (Int × Int × Int × List UInt8 × List (List UInt8 × List UInt8 × (List (UInt8 × List UInt8)) × Int))) (a1 : List (Int × Int × Int × List UInt8 × List (List UInt8 × List UInt8 × (List (UInt8 × List UInt8)) × Int))) : Option (Bool) :=
  cond (!decide ((List.length a0 : Int) = (List.length a1 : Int)))
    (some false)
    (loopK (σ := Int) (fun p1 againp1 =>
      cond (decide (p1 < (List.length a0 : Int)))
        (gd (0 ≤ p1 ∧ p1 < (List.length a0 : Int)) <|
        gd (0 ≤ p1 ∧ p1 < (List.length a1 : Int)) <|
        bindO (F15 (List.getD a0 (Int.toNat p1) (0, (0, (0, ([], []))))) (List.getD a1 (Int.toNat p1) (0, (0, (0, ([], [])))))) fun y2 =>
        cond (!y2)
          (some false)
          (bnd (IntKind.wrap .i64 (p1 + (1 : Int))) fun x3 =>
          againp1 x3))
        (some true)) (0 : Int))
def dc18 : DC :=
  (.seq (.reg [⟨none, (.mv (some 4) (.v (.bool false)))⟩])
  (.seq (.seq (.reg [⟨none, (.mv (some 6) (.t 0))⟩,
    ⟨none, (.ln 7 (some 24) (.t 6))⟩,
    ⟨none, (.mv (some 8) (.t 1))⟩,
    ⟨none, (.ln 9 (some 24) (.t 8))⟩,
    ⟨none, (.ar 10 .neq (.t 7) (.t 9))⟩])
  (.cond (.t 10)
    (.seq (.reg [⟨none, (.mv (some 4) (.v (.bool false)))⟩])
  .ret)
    .skip))
  (.seq (.seq (.reg [⟨none, (.mv (some 5) (.v (.int .i64 0)))⟩])
  (.block 0 (.loop ⟨[(5, (.lf (.int .i64)))], [], [4, 11, 12, 13, 14, 15, 16, 17, 18, 19, 20, 21, 22, 23, 24, 25, 26].map .s⟩ (.seq (.seq (.reg [⟨none, (.mv (some 11) (.t 5))⟩,
    ⟨none, (.mv (some 12) (.t 0))⟩,
    ⟨none, (.ln 13 (some 24) (.t 12))⟩,
    ⟨none, (.ar 14 .lss (.t 11) (.t 13))⟩])
  (.cond (.t 14)
    .skip
    (.exit 0)))
  (.seq (.block 1 (.seq (.reg [⟨none, (.mv (some 17) (.t 0))⟩,
    ⟨none, (.mv (some 18) (.t 5))⟩,
    ⟨none, (.ea 19 24 (.t 17) (.t 18))⟩,
    ⟨none, (.ld 20 (some 24) (.t 19))⟩,
    ⟨none, (.mv (some 21) (.t 1))⟩,
    ⟨none, (.mv (some 22) (.t 5))⟩,
    ⟨none, (.ea 23 24 (.t 21) (.t 22))⟩,
    ⟨none, (.ld 24 (some 24) (.t 23))⟩,
    ⟨none, (.ca (some 25) 15 [(.t 20), (.t 24)])⟩,
    ⟨none, (.un 26 .not (.t 25))⟩])
  (.cond (.t 26)
    (.seq (.reg [⟨none, (.mv (some 4) (.v (.bool false)))⟩])
  .ret)
    .skip)))
  (.reg [⟨none, (.mv (some 15) (.t 5))⟩,
    ⟨none, (.ar 16 .add (.t 15) (.v (.int .i64 1)))⟩,
    ⟨none, (.mv (some 5) (.t 16))⟩]))))))
  (.seq (.reg [⟨none, (.mv (some 4) (.v (.bool true)))⟩])
  .ret))))
noncomputable def ent18 : TEnt := ⟨18, [(.sl 24 (.agg 24 (.pair (.int .i64) (.pair (.int .i64) (.pair (.int .i64) (.pair .str (.sl 44 (.agg 44 (.pair .str (.pair .str (.pair (.sl 46 (.agg 46 (.pair .byte .str))) (.int .i64)))))))))))), (.sl 24 (.agg 24 (.pair (.int .i64) (.pair (.int .i64) (.pair (.int .i64) (.pair .str (.sl 44 (.agg 44 (.pair .str (.pair .str (.pair (.sl 46 (.agg 46 (.pair .byte .str))) (.int .i64))))))))))))], .bool, fun x => F18 x.1 x.2, .plain⟩
theorem eq18 (x : dens ent18.as) : ent18.F x = evF [ent15] SHF dc18 [(.tmp 4)] ent18.as ent18.rs x := by kernel_rfl
/-- library/libraryref08.SmallField -/
noncomputable def F22 (a0 : List UInt8 × List UInt8 × (List (UInt8 × List UInt8)) × Int) : Option (Bool) :=
  cond (decide ((20 : Int) < (List.length a0.2.2.1 : Int)))
    (some false)
    (loopK (σ := Int) (fun p1 againp1 =>
      cond (decide (p1 < (List.length a0.2.2.1 : Int)))
        (gd (0 ≤ p1 ∧ p1 < (List.length a0.2.2.1 : Int)) <|
        cond (decide ((300 : Int) < (List.length ((List.getD a0.2.2.1 (Int.toNat p1) (0, [])).2) : Int)))
          (some false)
          (bnd (IntKind.wrap .i64 (p1 + (1 : Int))) fun x2 =>
          againp1 x2))
        (some true)) (0 : Int))
def dc22 : DC :=
  (.seq (.reg [⟨none, (.bx 1 (some 44) (.t 0))⟩,
    ⟨none, (.mv (some 2) (.v (.bool false)))⟩])
  (.seq (.seq (.reg [⟨none, (.fa 4 44 2 (.t 1))⟩,
    ⟨none, (.ld 5 none (.t 4))⟩,
    ⟨none, (.ln 6 (some 46) (.t 5))⟩,
    ⟨none, (.ar 7 .gtr (.t 6) (.v (.int .i64 20)))⟩])
  (.cond (.t 7)
    (.seq (.reg [⟨none, (.mv (some 2) (.v (.bool false)))⟩])
  .ret)
    .skip))
  (.seq (.seq (.reg [⟨none, (.mv (some 3) (.v (.int .i64 0)))⟩])
  (.block 0 (.loop ⟨[(3, (.lf (.int .i64)))], [], [2, 8, 9, 10, 11, 12, 13, 14, 15, 16, 17, 18, 19, 20, 21, 22].map .s⟩ (.seq (.seq (.reg [⟨none, (.mv (some 8) (.t 3))⟩,
    ⟨none, (.fa 9 44 2 (.t 1))⟩,
    ⟨none, (.ld 10 none (.t 9))⟩,
    ⟨none, (.ln 11 (some 46) (.t 10))⟩,
    ⟨none, (.ar 12 .lss (.t 8) (.t 11))⟩])
  (.cond (.t 12)
    .skip
    (.exit 0)))
  (.seq (.block 1 (.seq (.reg [⟨none, (.fa 15 44 2 (.t 1))⟩,
    ⟨none, (.ld 16 none (.t 15))⟩,
    ⟨none, (.mv (some 17) (.t 3))⟩,
    ⟨none, (.ea 18 46 (.t 16) (.t 17))⟩,
    ⟨none, (.fa 19 46 1 (.t 18))⟩,
    ⟨none, (.ld 20 none (.t 19))⟩,
    ⟨none, (.ln 21 none (.t 20))⟩,
    ⟨none, (.ar 22 .gtr (.t 21) (.v (.int .i64 300)))⟩])
  (.cond (.t 22)
    (.seq (.reg [⟨none, (.mv (some 2) (.v (.bool false)))⟩])
  .ret)
    .skip)))
  (.reg [⟨none, (.mv (some 13) (.t 3))⟩,
    ⟨none, (.ar 14 .add (.t 13) (.v (.int .i64 1)))⟩,
    ⟨none, (.mv (some 3) (.t 14))⟩]))))))
  (.seq (.reg [⟨none, (.mv (some 2) (.v (.bool true)))⟩])
  .ret))))
noncomputable def ent22 : TEnt := ⟨22, [(.agg 44 (.pair .str (.pair .str (.pair (.sl 46 (.agg 46 (.pair .byte .str))) (.int .i64)))))], .bool, fun x => F22 x, .plain⟩
theorem eq22 (x : dens ent22.as) : ent22.F x = evF [] SHF dc22 [(.tmp 2)] ent22.as ent22.rs x := by kernel_rfl
/-- library/libraryref08.Small -/
noncomputable def F9 (a0 : Int × Int × Int × List UInt8 × List (List UInt8 × List UInt8 × (List (UInt8 × List UInt8)) × Int)) : Option (Bool) :=
  cond (decide ((70 : Int) < (List.length a0.2.2.2.2 : Int)))
    (some false)
    (loopK (σ := Int) (fun p1 againp1 =>
      cond (decide (p1 < (List.length a0.2.2.2.2 : Int)))
        (gd (0 ≤ p1 ∧ p1 < (List.length a0.2.2.2.2 : Int)) <|
        bindO (F22 (List.getD a0.2.2.2.2 (Int.toNat p1) ([], ([], ([], 0))))) fun y2 =>
        cond (!y2)
          (some false)
          (bnd (IntKind.wrap .i64 (p1 + (1 : Int))) fun x3 =>
          againp1 x3))
        (some true)) (0 : Int))
def dc9 : DC :=
  (.seq (.reg [⟨none, (.bx 1 (some 24) (.t 0))⟩,
    ⟨none, (.mv (some 2) (.v (.bool false)))⟩])
  (.seq (.seq (.reg [⟨none, (.fa 4 24 4 (.t 1))⟩,
    ⟨none, (.ld 5 none (.t 4))⟩,
    ⟨none, (.ln 6 (some 44) (.t 5))⟩,
    ⟨none, (.ar 7 .gtr (.t 6) (.v (.int .i64 70)))⟩])
  (.cond (.t 7)
    (.seq (.reg [⟨none, (.mv (some 2) (.v (.bool false)))⟩])
  .ret)
    .skip))
  (.seq (.seq (.reg [⟨none, (.mv (some 3) (.v (.int .i64 0)))⟩])
  (.block 0 (.loop ⟨[(3, (.lf (.int .i64)))], [], [2, 8, 9, 10, 11, 12, 13, 14, 15, 16, 17, 18, 19, 20, 21].map .s⟩ (.seq (.seq (.reg [⟨none, (.mv (some 8) (.t 3))⟩,
    ⟨none, (.fa 9 24 4 (.t 1))⟩,
    ⟨none, (.ld 10 none (.t 9))⟩,
    ⟨none, (.ln 11 (some 44) (.t 10))⟩,
    ⟨none, (.ar 12 .lss (.t 8) (.t 11))⟩])
  (.cond (.t 12)
    .skip
    (.exit 0)))
  (.seq (.block 1 (.seq (.reg [⟨none, (.fa 15 24 4 (.t 1))⟩,
    ⟨none, (.ld 16 none (.t 15))⟩,
    ⟨none, (.mv (some 17) (.t 3))⟩,
    ⟨none, (.ea 18 44 (.t 16) (.t 17))⟩,
    ⟨none, (.ld 19 (some 44) (.t 18))⟩,
    ⟨none, (.ca (some 20) 22 [(.t 19)])⟩,
    ⟨none, (.un 21 .not (.t 20))⟩])
  (.cond (.t 21)
    (.seq (.reg [⟨none, (.mv (some 2) (.v (.bool false)))⟩])
  .ret)
    .skip)))
  (.reg [⟨none, (.mv (some 13) (.t 3))⟩,
    ⟨none, (.ar 14 .add (.t 13) (.v (.int .i64 1)))⟩,
    ⟨none, (.mv (some 3) (.t 14))⟩]))))))
  (.seq (.reg [⟨none, (.mv (some 2) (.v (.bool true)))⟩])
  .ret))))
noncomputable def ent9 : TEnt := ⟨9, [(.agg 24 (.pair (.int .i64) (.pair (.int .i64) (.pair (.int .i64) (.pair .str (.sl 44 (.agg 44 (.pair .str (.pair .str (.pair (.sl 46 (.agg 46 (.pair .byte .str))) (.int .i64)))))))))))], .bool, fun x => F9 x, .plain⟩
theorem eq9 (x : dens ent9.as) : ent9.F x = evF [ent22] SHF dc9 [(.tmp 2)] ent9.as ent9.rs x := by kernel_rfl
/-- library/libraryref08.SmallRecords -/
noncomputable def F19 (a0 : List (Int × Int × Int × List UInt8 × List (List UInt8 × List UInt8 × (List (UInt8 × List UInt8)) × Int))) (a1 : Int) : Option (Bool) :=
  cond (decide (a1 < (List.length a0 : Int)))
    (some false)
    (loopK (σ := Int) (fun p1 againp1 =>
      cond (decide (p1 < (List.length a0 : Int)))
        (gd (0 ≤ p1 ∧ p1 < (List.length a0 : Int)) <|
        bindO (F9 (List.getD a0 (Int.toNat p1) (0, (0, (0, ([], [])))))) fun y2 =>
        cond (!y2)
          (some false)
          (bnd (IntKind.wrap .i64 (p1 + (1 : Int))) fun x3 =>
          againp1 x3))
        (some true)) (0 : Int))
def dc19 : DC :=
  (.seq (.reg [⟨none, (.mv (some 4) (.v (.bool false)))⟩])
  (.seq (.seq (.reg [⟨none, (.mv (some 6) (.t 0))⟩,
    ⟨none, (.ln 7 (some 24) (.t 6))⟩,
    ⟨none, (.mv (some 8) (.t 1))⟩,
    ⟨none, (.ar 9 .gtr (.t 7) (.t 8))⟩])
  (.cond (.t 9)
    (.seq (.reg [⟨none, (.mv (some 4) (.v (.bool false)))⟩])
  .ret)
    .skip))
  (.seq (.seq (.reg [⟨none, (.mv (some 5) (.v (.int .i64 0)))⟩])
  (.block 0 (.loop ⟨[(5, (.lf (.int .i64)))], [], [4, 10, 11, 12, 13, 14, 15, 16, 17, 18, 19, 20, 21].map .s⟩ (.seq (.seq (.reg [⟨none, (.mv (some 10) (.t 5))⟩,
    ⟨none, (.mv (some 11) (.t 0))⟩,
    ⟨none, (.ln 12 (some 24) (.t 11))⟩,
    ⟨none, (.ar 13 .lss (.t 10) (.t 12))⟩])
  (.cond (.t 13)
    .skip
    (.exit 0)))
  (.seq (.block 1 (.seq (.reg [⟨none, (.mv (some 16) (.t 0))⟩,
    ⟨none, (.mv (some 17) (.t 5))⟩,
    ⟨none, (.ea 18 24 (.t 16) (.t 17))⟩,
    ⟨none, (.ld 19 (some 24) (.t 18))⟩,
    ⟨none, (.ca (some 20) 9 [(.t 19)])⟩,
    ⟨none, (.un 21 .not (.t 20))⟩])
  (.cond (.t 21)
    (.seq (.reg [⟨none, (.mv (some 4) (.v (.bool false)))⟩])
  .ret)
    .skip)))
  (.reg [⟨none, (.mv (some 14) (.t 5))⟩,
    ⟨none, (.ar 15 .add (.t 14) (.v (.int .i64 1)))⟩,
    ⟨none, (.mv (some 5) (.t 15))⟩]))))))
  (.seq (.reg [⟨none, (.mv (some 4) (.v (.bool true)))⟩])
  .ret))))
noncomputable def ent19 : TEnt := ⟨19, [(.sl 24 (.agg 24 (.pair (.int .i64) (.pair (.int .i64) (.pair (.int .i64) (.pair .str (.sl 44 (.agg 44 (.pair .str (.pair .str (.pair (.sl 46 (.agg 46 (.pair .byte .str))) (.int .i64)))))))))))), (.int .i64)], .bool, fun x => F19 x.1 x.2, .plain⟩
theorem eq19 (x : dens ent19.as) : ent19.F x = evF [ent9] SHF dc19 [(.tmp 4)] ent19.as ent19.rs x := by kernel_rfl
/-- library/librarylaw11.alive -/
noncomputable def F10 : Option (Bool) :=
  gd ((0 : Int) ≤ (97 : Int) ∧ (97 : Int) < (256 : Int)) <|
  bindO (F11 ((1 : Int), (3 : Int), (1 : Int), ([101, 110, 103] : List UInt8), [(([50, 52, 53] : List UInt8), ([49, 48] : List UInt8), [((UInt8.ofNat (Int.toNat (97 : Int))), ([68, 111, 103, 115] : List UInt8))], (0 : Int))])) fun y1 =>
  cond (!decide (y1.1 = ([61, 49, 32, 51, 32, 98, 111, 111, 107, 32, 101, 110, 103, 10, 50, 52, 53, 32, 49, 48, 32, 36, 97, 68, 111, 103, 115, 10, 10] : List UInt8)))
    (some false)
    (cond (!decide (y1.2 = (0 : Int)))
      (some false)
      (bindO (F13 ([61, 49, 32, 51, 32, 98, 111, 111, 107, 32, 101, 110, 103, 10, 50, 52, 53, 32, 49, 48, 32, 36, 97, 68, 111, 103, 115, 10] : List UInt8)) fun y2 =>
      bindO (F13 ([61, 49, 32, 51, 32, 98, 111, 111, 107, 32, 101, 110, 103, 10, 50, 52, 53, 32, 49, 48, 32, 36, 97, 68, 111, 103, 115] : List UInt8)) fun y3 =>
      bindO (F13 ([61, 49, 32, 51, 32, 98, 111, 111, 107, 32, 101, 110, 103, 10, 10, 120] : List UInt8)) fun y4 =>
      bindO (F13 ([61, 48, 49, 32, 51, 32, 98, 111, 111, 107, 32, 101, 110, 103, 10, 10] : List UInt8)) fun y5 =>
      cond (!decide (y2.2.1 = (3 : Int)))
        (some false)
        (cond (!decide (y3.2.1 = (2 : Int)))
          (some false)
          (cond (!decide (y4.2.1 = (3 : Int)))
            (some false)
            (cond (!decide (y5.2.1 = (1 : Int)))
              (some false)
              (cond (!decide (y2.2.2 = (3 : Int)))
                (some false)
                (cond (!decide (y3.2.2 = (3 : Int)))
                  (some false)
                  (cond (!decide (y4.2.2 = (3 : Int)))
                    (some false)
                    (cond (!decide (y5.2.2 = (3 : Int)))
                      (some false)
                      (gd (List.length y1.1 + List.length y1.1 ≤ big) <|
                      bnd (y1.1 ++ y1.1) fun x6 =>
                      bindO (F16 x6) fun y7 =>
                      gd (List.length y1.1 + List.length ([61, 49] : List UInt8) ≤ big) <|
                      bnd (y1.1 ++ ([61, 49] : List UInt8)) fun x8 =>
                      bindO (F16 x8) fun y9 =>
                      cond (decide ((List.length y7.1 : Int) = (2 : Int)))
                        (cond (decide (y7.2.1 = (0 : Int)))
                          (cond (decide (y7.2.2 = (0 : Int)))
                            (cond (decide (y9.2.1 = (4 : Int)))
                              (some (decide (y9.2.2 = (3 : Int))))
                              (some false))
                            (some false))
                          (some false))
                        (some false)))))))))))
def dc10 : DC :=
  (.seq (.reg [⟨none, (.mv (some 0) (.v (.bool false)))⟩])
  (.seq (.reg [⟨none, (.bd 22 46 [(.int .u8 0), (.str [])] [0, 1] [(.v (.int .u8 97)), (.v (.str [68, 111, 103, 115]))])⟩,
    ⟨none, (.bs 23 46 (some 46) [(.t 22)])⟩,
    ⟨none, (.bd 24 44 [(.str []), (.str []), (.sl none 46 []), (.int .i64 0)] [0, 1, 2] [(.v (.str [50, 52, 53])), (.v (.str [49, 48])), (.t 23)])⟩,
    ⟨none, (.bs 25 44 (some 44) [(.t 24)])⟩,
    ⟨none, (.bd 26 24 [(.int .i64 0), (.int .i64 0), (.int .i64 0), (.str []), (.sl none 44 [])] [0, 1, 2, 3, 4] [(.v (.int .i64 1)), (.v (.int .i64 3)), (.v (.int .i64 1)), (.v (.str [101, 110, 103])), (.t 25)])⟩,
    ⟨none, (.al 1 (.agg 24 [(.int .i64 0), (.int .i64 0), (.int .i64 0), (.str []), (.sl none 44 [])]))⟩,
    ⟨none, (.st (some 24) (.t 1) (.t 26))⟩])
  (.seq (.reg [⟨none, (.ld 28 (some 24) (.t 1))⟩,
    ⟨none, (.ca (some 29) 11 [(.t 28)])⟩,
    ⟨none, (.mv (some 27) (.t 29))⟩,
    ⟨none, (.ex 30 0 (.t 27))⟩,
    ⟨none, (.ex 31 1 (.t 27))⟩,
    ⟨none, (.mv (some 2) (.t 30))⟩,
    ⟨none, (.mv (some 3) (.t 31))⟩])
  (.seq (.seq (.reg [⟨none, (.mv (some 32) (.t 2))⟩,
    ⟨none, (.ar 33 .neq (.t 32) (.v (.str [61, 49, 32, 51, 32, 98, 111, 111, 107, 32, 101, 110, 103, 10, 50, 52, 53, 32, 49, 48, 32, 36, 97, 68, 111, 103, 115, 10, 10])))⟩,
    ⟨none, (.mv (some 34) (.t 33))⟩,
    ⟨(some (34, false)), (.mv (some 35) (.t 3))⟩,
    ⟨(some (34, false)), (.ar 36 .neq (.t 35) (.v (.int .i64 0)))⟩,
    ⟨none, (.pick 37 (.t 34) (.v (.bool true)) (.t 36))⟩])
  (.cond (.t 37)
    (.seq (.reg [⟨none, (.mv (some 0) (.v (.bool false)))⟩])
  .ret)
    .skip))
  (.seq (.reg [⟨none, (.ca (some 39) 13 [(.v (.str [61, 49, 32, 51, 32, 98, 111, 111, 107, 32, 101, 110, 103, 10, 50, 52, 53, 32, 49, 48, 32, 36, 97, 68, 111, 103, 115, 10]))])⟩,
    ⟨none, (.mv (some 38) (.t 39))⟩,
    ⟨none, (.ex 40 0 (.t 38))⟩,
    ⟨none, (.ex 41 1 (.t 38))⟩,
    ⟨none, (.ex 42 2 (.t 38))⟩,
    ⟨none, (.al 4 (.agg 24 [(.int .i64 0), (.int .i64 0), (.int .i64 0), (.str []), (.sl none 44 [])]))⟩,
    ⟨none, (.st (some 24) (.t 4) (.t 40))⟩,
    ⟨none, (.mv (some 5) (.t 41))⟩,
    ⟨none, (.mv (some 6) (.t 42))⟩])
  (.seq (.reg [⟨none, (.ca (some 44) 13 [(.v (.str [61, 49, 32, 51, 32, 98, 111, 111, 107, 32, 101, 110, 103, 10, 50, 52, 53, 32, 49, 48, 32, 36, 97, 68, 111, 103, 115]))])⟩,
    ⟨none, (.mv (some 43) (.t 44))⟩,
    ⟨none, (.ex 45 0 (.t 43))⟩,
    ⟨none, (.ex 46 1 (.t 43))⟩,
    ⟨none, (.ex 47 2 (.t 43))⟩,
    ⟨none, (.al 7 (.agg 24 [(.int .i64 0), (.int .i64 0), (.int .i64 0), (.str []), (.sl none 44 [])]))⟩,
    ⟨none, (.st (some 24) (.t 7) (.t 45))⟩,
    ⟨none, (.mv (some 8) (.t 46))⟩,
    ⟨none, (.mv (some 9) (.t 47))⟩])
  (.seq (.reg [⟨none, (.ca (some 49) 13 [(.v (.str [61, 49, 32, 51, 32, 98, 111, 111, 107, 32, 101, 110, 103, 10, 10, 120]))])⟩,
    ⟨none, (.mv (some 48) (.t 49))⟩,
    ⟨none, (.ex 50 0 (.t 48))⟩,
    ⟨none, (.ex 51 1 (.t 48))⟩,
    ⟨none, (.ex 52 2 (.t 48))⟩,
    ⟨none, (.al 10 (.agg 24 [(.int .i64 0), (.int .i64 0), (.int .i64 0), (.str []), (.sl none 44 [])]))⟩,
    ⟨none, (.st (some 24) (.t 10) (.t 50))⟩,
    ⟨none, (.mv (some 11) (.t 51))⟩,
    ⟨none, (.mv (some 12) (.t 52))⟩])
  (.seq (.reg [⟨none, (.ca (some 54) 13 [(.v (.str [61, 48, 49, 32, 51, 32, 98, 111, 111, 107, 32, 101, 110, 103, 10, 10]))])⟩,
    ⟨none, (.mv (some 53) (.t 54))⟩,
    ⟨none, (.ex 55 0 (.t 53))⟩,
    ⟨none, (.ex 56 1 (.t 53))⟩,
    ⟨none, (.ex 57 2 (.t 53))⟩,
    ⟨none, (.al 13 (.agg 24 [(.int .i64 0), (.int .i64 0), (.int .i64 0), (.str []), (.sl none 44 [])]))⟩,
    ⟨none, (.st (some 24) (.t 13) (.t 55))⟩,
    ⟨none, (.mv (some 14) (.t 56))⟩,
    ⟨none, (.mv (some 15) (.t 57))⟩])
  (.seq (.seq (.reg [⟨none, (.mv (some 58) (.t 5))⟩,
    ⟨none, (.ar 59 .neq (.t 58) (.v (.int .i64 3)))⟩,
    ⟨none, (.mv (some 60) (.t 59))⟩,
    ⟨(some (60, false)), (.mv (some 61) (.t 8))⟩,
    ⟨(some (60, false)), (.ar 62 .neq (.t 61) (.v (.int .i64 2)))⟩,
    ⟨none, (.pick 63 (.t 60) (.v (.bool true)) (.t 62))⟩,
    ⟨none, (.mv (some 64) (.t 63))⟩,
    ⟨(some (64, false)), (.mv (some 65) (.t 11))⟩,
    ⟨(some (64, false)), (.ar 66 .neq (.t 65) (.v (.int .i64 3)))⟩,
    ⟨none, (.pick 67 (.t 64) (.v (.bool true)) (.t 66))⟩,
    ⟨none, (.mv (some 68) (.t 67))⟩,
    ⟨(some (68, false)), (.mv (some 69) (.t 14))⟩,
    ⟨(some (68, false)), (.ar 70 .neq (.t 69) (.v (.int .i64 1)))⟩,
    ⟨none, (.pick 71 (.t 68) (.v (.bool true)) (.t 70))⟩,
    ⟨none, (.mv (some 72) (.t 71))⟩,
    ⟨(some (72, false)), (.mv (some 73) (.t 6))⟩,
    ⟨(some (72, false)), (.ar 74 .neq (.t 73) (.v (.int .i64 3)))⟩,
    ⟨none, (.pick 75 (.t 72) (.v (.bool true)) (.t 74))⟩,
    ⟨none, (.mv (some 76) (.t 75))⟩,
    ⟨(some (76, false)), (.mv (some 77) (.t 9))⟩,
    ⟨(some (76, false)), (.ar 78 .neq (.t 77) (.v (.int .i64 3)))⟩,
    ⟨none, (.pick 79 (.t 76) (.v (.bool true)) (.t 78))⟩,
    ⟨none, (.mv (some 80) (.t 79))⟩,
    ⟨(some (80, false)), (.mv (some 81) (.t 12))⟩,
    ⟨(some (80, false)), (.ar 82 .neq (.t 81) (.v (.int .i64 3)))⟩,
    ⟨none, (.pick 83 (.t 80) (.v (.bool true)) (.t 82))⟩,
    ⟨none, (.mv (some 84) (.t 83))⟩,
    ⟨(some (84, false)), (.mv (some 85) (.t 15))⟩,
    ⟨(some (84, false)), (.ar 86 .neq (.t 85) (.v (.int .i64 3)))⟩,
    ⟨none, (.pick 87 (.t 84) (.v (.bool true)) (.t 86))⟩])
  (.cond (.t 87)
    (.seq (.reg [⟨none, (.mv (some 0) (.v (.bool false)))⟩])
  .ret)
    .skip))
  (.seq (.reg [⟨none, (.mv (some 89) (.t 2))⟩,
    ⟨none, (.mv (some 90) (.t 2))⟩,
    ⟨none, (.ar 91 .add (.t 89) (.t 90))⟩,
    ⟨none, (.ca (some 92) 16 [(.t 91)])⟩,
    ⟨none, (.mv (some 88) (.t 92))⟩,
    ⟨none, (.ex 93 0 (.t 88))⟩,
    ⟨none, (.ex 94 1 (.t 88))⟩,
    ⟨none, (.ex 95 2 (.t 88))⟩,
    ⟨none, (.mv (some 16) (.t 93))⟩,
    ⟨none, (.mv (some 17) (.t 94))⟩,
    ⟨none, (.mv (some 18) (.t 95))⟩])
  (.seq (.reg [⟨none, (.mv (some 97) (.t 2))⟩,
    ⟨none, (.ar 98 .add (.t 97) (.v (.str [61, 49])))⟩,
    ⟨none, (.ca (some 99) 16 [(.t 98)])⟩,
    ⟨none, (.mv (some 96) (.t 99))⟩,
    ⟨none, (.ex 100 0 (.t 96))⟩,
    ⟨none, (.ex 101 1 (.t 96))⟩,
    ⟨none, (.ex 102 2 (.t 96))⟩,
    ⟨none, (.mv (some 19) (.t 100))⟩,
    ⟨none, (.mv (some 20) (.t 101))⟩,
    ⟨none, (.mv (some 21) (.t 102))⟩])
  (.seq (.reg [⟨none, (.mv (some 103) (.t 16))⟩,
    ⟨none, (.ln 104 (some 24) (.t 103))⟩,
    ⟨none, (.ar 105 .eql (.t 104) (.v (.int .i64 2)))⟩,
    ⟨none, (.mv (some 106) (.t 105))⟩,
    ⟨(some (106, true)), (.mv (some 107) (.t 17))⟩,
    ⟨(some (106, true)), (.ar 108 .eql (.t 107) (.v (.int .i64 0)))⟩,
    ⟨none, (.pick 109 (.t 106) (.t 108) (.v (.bool false)))⟩,
    ⟨none, (.mv (some 110) (.t 109))⟩,
    ⟨(some (110, true)), (.mv (some 111) (.t 18))⟩,
    ⟨(some (110, true)), (.ar 112 .eql (.t 111) (.v (.int .i64 0)))⟩,
    ⟨none, (.pick 113 (.t 110) (.t 112) (.v (.bool false)))⟩,
    ⟨none, (.mv (some 114) (.t 113))⟩,
    ⟨(some (114, true)), (.mv (some 115) (.t 20))⟩,
    ⟨(some (114, true)), (.ar 116 .eql (.t 115) (.v (.int .i64 4)))⟩,
    ⟨none, (.pick 117 (.t 114) (.t 116) (.v (.bool false)))⟩,
    ⟨none, (.mv (some 118) (.t 117))⟩,
    ⟨(some (118, true)), (.mv (some 119) (.t 21))⟩,
    ⟨(some (118, true)), (.ar 120 .eql (.t 119) (.v (.int .i64 3)))⟩,
    ⟨none, (.pick 121 (.t 118) (.t 120) (.v (.bool false)))⟩,
    ⟨none, (.mv (some 0) (.t 121))⟩])
  .ret))))))))))))
noncomputable def ent10 : TEnt := ⟨10, [], .bool, fun _ => F10, .plain⟩
theorem eq10 (x : dens ent10.as) : ent10.F x = evF [ent11, ent13, ent16] SHF dc10 [(.tmp 0)] ent10.as ent10.rs x := by kernel_rfl
/-- library/librarylaw11.LinesPrints -/
noncomputable def F3 (a0 : Int × Int × Int × List UInt8 × List (List UInt8 × List UInt8 × (List (UInt8 × List UInt8)) × Int)) : Option (Bool) :=
  bindO (F9 a0) fun y1 =>
  cond (!y1)
    (bindO (F10) fun y2 =>
    some y2)
    (bindO (F11 a0) fun y3 =>
    bindO (F12 a0) fun y4 =>
    cond (decide (y3.1 = y4.1))
      (cond (decide (y3.2 = y4.2))
        (bindO (F10) fun y5 =>
        some y5)
        (some false))
      (some false))
def dc3 : DC :=
  (.seq (.reg [⟨none, (.bx 1 (some 24) (.t 0))⟩,
    ⟨none, (.mv (some 2) (.v (.bool false)))⟩])
  (.seq (.seq (.reg [⟨none, (.ld 7 (some 24) (.t 1))⟩,
    ⟨none, (.ca (some 8) 9 [(.t 7)])⟩,
    ⟨none, (.un 9 .not (.t 8))⟩])
  (.cond (.t 9)
    (.seq (.reg [⟨none, (.ca (some 10) 10 [])⟩,
    ⟨none, (.mv (some 2) (.t 10))⟩])
  .ret)
    .skip))
  (.seq (.reg [⟨none, (.ld 12 (some 24) (.t 1))⟩,
    ⟨none, (.ca (some 13) 11 [(.t 12)])⟩,
    ⟨none, (.mv (some 11) (.t 13))⟩,
    ⟨none, (.ex 14 0 (.t 11))⟩,
    ⟨none, (.ex 15 1 (.t 11))⟩,
    ⟨none, (.mv (some 3) (.t 14))⟩,
    ⟨none, (.mv (some 4) (.t 15))⟩])
  (.seq (.reg [⟨none, (.ld 17 (some 24) (.t 1))⟩,
    ⟨none, (.ca (some 18) 12 [(.t 17)])⟩,
    ⟨none, (.mv (some 16) (.t 18))⟩,
    ⟨none, (.ex 19 0 (.t 16))⟩,
    ⟨none, (.ex 20 1 (.t 16))⟩,
    ⟨none, (.mv (some 5) (.t 19))⟩,
    ⟨none, (.mv (some 6) (.t 20))⟩])
  (.seq (.reg [⟨none, (.mv (some 21) (.t 3))⟩,
    ⟨none, (.mv (some 22) (.t 5))⟩,
    ⟨none, (.ar 23 .eql (.t 21) (.t 22))⟩,
    ⟨none, (.mv (some 24) (.t 23))⟩,
    ⟨(some (24, true)), (.mv (some 25) (.t 4))⟩,
    ⟨(some (24, true)), (.mv (some 26) (.t 6))⟩,
    ⟨(some (24, true)), (.ar 27 .eql (.t 25) (.t 26))⟩,
    ⟨none, (.pick 28 (.t 24) (.t 27) (.v (.bool false)))⟩,
    ⟨none, (.mv (some 29) (.t 28))⟩,
    ⟨(some (29, true)), (.ca (some 30) 10 [])⟩,
    ⟨none, (.pick 31 (.t 29) (.t 30) (.v (.bool false)))⟩,
    ⟨none, (.mv (some 2) (.t 31))⟩])
  .ret)))))
noncomputable def ent3 : TEnt := ⟨3, [(.agg 24 (.pair (.int .i64) (.pair (.int .i64) (.pair (.int .i64) (.pair .str (.sl 44 (.agg 44 (.pair .str (.pair .str (.pair (.sl 46 (.agg 46 (.pair .byte .str))) (.int .i64)))))))))))], .bool, fun x => F3 x, .plain⟩
theorem eq3 (x : dens ent3.as) : ent3.F x = evF [ent9, ent10, ent11, ent12] SHF dc3 [(.tmp 2)] ent3.as ent3.rs x := by kernel_rfl
/-- library/librarylaw11.LinesParses -/
noncomputable def F4 (a0 : List UInt8) : Option (Bool) :=
  cond (decide ((70000 : Int) < (List.length a0 : Int)))
    (bindO (F10) fun y1 =>
    some y1)
    (bindO (F13 a0) fun y2 =>
    bindO (F14 a0) fun y3 =>
    bindO (F15 y2.1 y3.1) fun y4 =>
    cond (y4)
      (cond (decide (y2.2.1 = y3.2.1))
        (cond (decide (y2.2.2 = y3.2.2))
          (bindO (F10) fun y5 =>
          some y5)
          (some false))
        (some false))
      (some false))
def dc4 : DC :=
  (.seq (.reg [⟨none, (.mv (some 2) (.v (.bool false)))⟩])
  (.seq (.seq (.reg [⟨none, (.mv (some 9) (.t 0))⟩,
    ⟨none, (.ln 10 none (.t 9))⟩,
    ⟨none, (.ar 11 .gtr (.t 10) (.v (.int .i64 70000)))⟩])
  (.cond (.t 11)
    (.seq (.reg [⟨none, (.ca (some 12) 10 [])⟩,
    ⟨none, (.mv (some 2) (.t 12))⟩])
  .ret)
    .skip))
  (.seq (.reg [⟨none, (.mv (some 14) (.t 0))⟩,
    ⟨none, (.ca (some 15) 13 [(.t 14)])⟩,
    ⟨none, (.mv (some 13) (.t 15))⟩,
    ⟨none, (.ex 16 0 (.t 13))⟩,
    ⟨none, (.ex 17 1 (.t 13))⟩,
    ⟨none, (.ex 18 2 (.t 13))⟩,
    ⟨none, (.al 3 (.agg 24 [(.int .i64 0), (.int .i64 0), (.int .i64 0), (.str []), (.sl none 44 [])]))⟩,
    ⟨none, (.st (some 24) (.t 3) (.t 16))⟩,
    ⟨none, (.mv (some 4) (.t 17))⟩,
    ⟨none, (.mv (some 5) (.t 18))⟩])
  (.seq (.reg [⟨none, (.mv (some 20) (.t 0))⟩,
    ⟨none, (.ca (some 21) 14 [(.t 20)])⟩,
    ⟨none, (.mv (some 19) (.t 21))⟩,
    ⟨none, (.ex 22 0 (.t 19))⟩,
    ⟨none, (.ex 23 1 (.t 19))⟩,
    ⟨none, (.ex 24 2 (.t 19))⟩,
    ⟨none, (.al 6 (.agg 24 [(.int .i64 0), (.int .i64 0), (.int .i64 0), (.str []), (.sl none 44 [])]))⟩,
    ⟨none, (.st (some 24) (.t 6) (.t 22))⟩,
    ⟨none, (.mv (some 7) (.t 23))⟩,
    ⟨none, (.mv (some 8) (.t 24))⟩])
  (.seq (.reg [⟨none, (.ld 25 (some 24) (.t 3))⟩,
    ⟨none, (.ld 26 (some 24) (.t 6))⟩,
    ⟨none, (.ca (some 27) 15 [(.t 25), (.t 26)])⟩,
    ⟨none, (.mv (some 28) (.t 27))⟩,
    ⟨(some (28, true)), (.mv (some 29) (.t 4))⟩,
    ⟨(some (28, true)), (.mv (some 30) (.t 7))⟩,
    ⟨(some (28, true)), (.ar 31 .eql (.t 29) (.t 30))⟩,
    ⟨none, (.pick 32 (.t 28) (.t 31) (.v (.bool false)))⟩,
    ⟨none, (.mv (some 33) (.t 32))⟩,
    ⟨(some (33, true)), (.mv (some 34) (.t 5))⟩,
    ⟨(some (33, true)), (.mv (some 35) (.t 8))⟩,
    ⟨(some (33, true)), (.ar 36 .eql (.t 34) (.t 35))⟩,
    ⟨none, (.pick 37 (.t 33) (.t 36) (.v (.bool false)))⟩,
    ⟨none, (.mv (some 38) (.t 37))⟩,
    ⟨(some (38, true)), (.ca (some 39) 10 [])⟩,
    ⟨none, (.pick 40 (.t 38) (.t 39) (.v (.bool false)))⟩,
    ⟨none, (.mv (some 2) (.t 40))⟩])
  .ret)))))
noncomputable def ent4 : TEnt := ⟨4, [.str], .bool, fun x => F4 x, .plain⟩
theorem eq4 (x : dens ent4.as) : ent4.F x = evF [ent10, ent13, ent14, ent15] SHF dc4 [(.tmp 2)] ent4.as ent4.rs x := by kernel_rfl
/-- library/librarylaw11.LinesParseAlls -/
noncomputable def F5 (a0 : List UInt8) : Option (Bool) :=
  cond (decide ((70000 : Int) < (List.length a0 : Int)))
    (bindO (F10) fun y1 =>
    some y1)
    (bindO (F16 a0) fun y2 =>
    bindO (F17 a0) fun y3 =>
    bindO (F18 y2.1 y3.1) fun y4 =>
    cond (y4)
      (cond (decide (y2.2.1 = y3.2.1))
        (cond (decide (y2.2.2 = y3.2.2))
          (bindO (F10) fun y5 =>
          some y5)
          (some false))
        (some false))
      (some false))
def dc5 : DC :=
  (.seq (.reg [⟨none, (.mv (some 2) (.v (.bool false)))⟩])
  (.seq (.seq (.reg [⟨none, (.mv (some 9) (.t 0))⟩,
    ⟨none, (.ln 10 none (.t 9))⟩,
    ⟨none, (.ar 11 .gtr (.t 10) (.v (.int .i64 70000)))⟩])
  (.cond (.t 11)
    (.seq (.reg [⟨none, (.ca (some 12) 10 [])⟩,
    ⟨none, (.mv (some 2) (.t 12))⟩])
  .ret)
    .skip))
  (.seq (.reg [⟨none, (.mv (some 14) (.t 0))⟩,
    ⟨none, (.ca (some 15) 16 [(.t 14)])⟩,
    ⟨none, (.mv (some 13) (.t 15))⟩,
    ⟨none, (.ex 16 0 (.t 13))⟩,
    ⟨none, (.ex 17 1 (.t 13))⟩,
    ⟨none, (.ex 18 2 (.t 13))⟩,
    ⟨none, (.mv (some 3) (.t 16))⟩,
    ⟨none, (.mv (some 4) (.t 17))⟩,
    ⟨none, (.mv (some 5) (.t 18))⟩])
  (.seq (.reg [⟨none, (.mv (some 20) (.t 0))⟩,
    ⟨none, (.ca (some 21) 17 [(.t 20)])⟩,
    ⟨none, (.mv (some 19) (.t 21))⟩,
    ⟨none, (.ex 22 0 (.t 19))⟩,
    ⟨none, (.ex 23 1 (.t 19))⟩,
    ⟨none, (.ex 24 2 (.t 19))⟩,
    ⟨none, (.mv (some 6) (.t 22))⟩,
    ⟨none, (.mv (some 7) (.t 23))⟩,
    ⟨none, (.mv (some 8) (.t 24))⟩])
  (.seq (.reg [⟨none, (.mv (some 25) (.t 3))⟩,
    ⟨none, (.mv (some 26) (.t 6))⟩,
    ⟨none, (.ca (some 27) 18 [(.t 25), (.t 26)])⟩,
    ⟨none, (.mv (some 28) (.t 27))⟩,
    ⟨(some (28, true)), (.mv (some 29) (.t 4))⟩,
    ⟨(some (28, true)), (.mv (some 30) (.t 7))⟩,
    ⟨(some (28, true)), (.ar 31 .eql (.t 29) (.t 30))⟩,
    ⟨none, (.pick 32 (.t 28) (.t 31) (.v (.bool false)))⟩,
    ⟨none, (.mv (some 33) (.t 32))⟩,
    ⟨(some (33, true)), (.mv (some 34) (.t 5))⟩,
    ⟨(some (33, true)), (.mv (some 35) (.t 8))⟩,
    ⟨(some (33, true)), (.ar 36 .eql (.t 34) (.t 35))⟩,
    ⟨none, (.pick 37 (.t 33) (.t 36) (.v (.bool false)))⟩,
    ⟨none, (.mv (some 38) (.t 37))⟩,
    ⟨(some (38, true)), (.ca (some 39) 10 [])⟩,
    ⟨none, (.pick 40 (.t 38) (.t 39) (.v (.bool false)))⟩,
    ⟨none, (.mv (some 2) (.t 40))⟩])
  .ret)))))
noncomputable def ent5 : TEnt := ⟨5, [.str], .bool, fun x => F5 x, .plain⟩
theorem eq5 (x : dens ent5.as) : ent5.F x = evF [ent10, ent16, ent17, ent18] SHF dc5 [(.tmp 2)] ent5.as ent5.rs x := by kernel_rfl
/-- library/librarylaw11.LinesRestores -/
noncomputable def F6 (a0 : Int × Int × Int × List UInt8 × List (List UInt8 × List UInt8 × (List (UInt8 × List UInt8)) × Int)) : Option (Bool) :=
  bindO (F9 a0) fun y1 =>
  cond (!y1)
    (bindO (F10) fun y2 =>
    some y2)
    (bindO (F11 a0) fun y3 =>
    cond (!decide (y3.2 = (0 : Int)))
      (cond (decide (y3.1 = ([] : List UInt8)))
        (bindO (F10) fun y4 =>
        some y4)
        (some false))
      (bindO (F13 y3.1) fun y5 =>
      bindO (F15 a0 y5.1) fun y6 =>
      cond (y6)
        (cond (decide (y5.2.1 = (0 : Int)))
          (cond (decide (y5.2.2 = (0 : Int)))
            (bindO (F10) fun y7 =>
            some y7)
            (some false))
          (some false))
        (some false)))
def dc6 : DC :=
  (.seq (.reg [⟨none, (.bx 1 (some 24) (.t 0))⟩,
    ⟨none, (.mv (some 2) (.v (.bool false)))⟩])
  (.seq (.seq (.reg [⟨none, (.ld 8 (some 24) (.t 1))⟩,
    ⟨none, (.ca (some 9) 9 [(.t 8)])⟩,
    ⟨none, (.un 10 .not (.t 9))⟩])
  (.cond (.t 10)
    (.seq (.reg [⟨none, (.ca (some 11) 10 [])⟩,
    ⟨none, (.mv (some 2) (.t 11))⟩])
  .ret)
    .skip))
  (.seq (.reg [⟨none, (.ld 13 (some 24) (.t 1))⟩,
    ⟨none, (.ca (some 14) 11 [(.t 13)])⟩,
    ⟨none, (.mv (some 12) (.t 14))⟩,
    ⟨none, (.ex 15 0 (.t 12))⟩,
    ⟨none, (.ex 16 1 (.t 12))⟩,
    ⟨none, (.mv (some 3) (.t 15))⟩,
    ⟨none, (.mv (some 4) (.t 16))⟩])
  (.seq (.seq (.reg [⟨none, (.mv (some 17) (.t 4))⟩,
    ⟨none, (.ar 18 .neq (.t 17) (.v (.int .i64 0)))⟩])
  (.cond (.t 18)
    (.seq (.reg [⟨none, (.mv (some 19) (.t 3))⟩,
    ⟨none, (.ar 20 .eql (.t 19) (.v (.str [])))⟩,
    ⟨none, (.mv (some 21) (.t 20))⟩,
    ⟨(some (21, true)), (.ca (some 22) 10 [])⟩,
    ⟨none, (.pick 23 (.t 21) (.t 22) (.v (.bool false)))⟩,
    ⟨none, (.mv (some 2) (.t 23))⟩])
  .ret)
    .skip))
  (.seq (.reg [⟨none, (.mv (some 25) (.t 3))⟩,
    ⟨none, (.ca (some 26) 13 [(.t 25)])⟩,
    ⟨none, (.mv (some 24) (.t 26))⟩,
    ⟨none, (.ex 27 0 (.t 24))⟩,
    ⟨none, (.ex 28 1 (.t 24))⟩,
    ⟨none, (.ex 29 2 (.t 24))⟩,
    ⟨none, (.al 5 (.agg 24 [(.int .i64 0), (.int .i64 0), (.int .i64 0), (.str []), (.sl none 44 [])]))⟩,
    ⟨none, (.st (some 24) (.t 5) (.t 27))⟩,
    ⟨none, (.mv (some 6) (.t 28))⟩,
    ⟨none, (.mv (some 7) (.t 29))⟩])
  (.seq (.reg [⟨none, (.ld 30 (some 24) (.t 1))⟩,
    ⟨none, (.ld 31 (some 24) (.t 5))⟩,
    ⟨none, (.ca (some 32) 15 [(.t 30), (.t 31)])⟩,
    ⟨none, (.mv (some 33) (.t 32))⟩,
    ⟨(some (33, true)), (.mv (some 34) (.t 6))⟩,
    ⟨(some (33, true)), (.ar 35 .eql (.t 34) (.v (.int .i64 0)))⟩,
    ⟨none, (.pick 36 (.t 33) (.t 35) (.v (.bool false)))⟩,
    ⟨none, (.mv (some 37) (.t 36))⟩,
    ⟨(some (37, true)), (.mv (some 38) (.t 7))⟩,
    ⟨(some (37, true)), (.ar 39 .eql (.t 38) (.v (.int .i64 0)))⟩,
    ⟨none, (.pick 40 (.t 37) (.t 39) (.v (.bool false)))⟩,
    ⟨none, (.mv (some 41) (.t 40))⟩,
    ⟨(some (41, true)), (.ca (some 42) 10 [])⟩,
    ⟨none, (.pick 43 (.t 41) (.t 42) (.v (.bool false)))⟩,
    ⟨none, (.mv (some 2) (.t 43))⟩])
  .ret))))))
noncomputable def ent6 : TEnt := ⟨6, [(.agg 24 (.pair (.int .i64) (.pair (.int .i64) (.pair (.int .i64) (.pair .str (.sl 44 (.agg 44 (.pair .str (.pair .str (.pair (.sl 46 (.agg 46 (.pair .byte .str))) (.int .i64)))))))))))], .bool, fun x => F6 x, .plain⟩
theorem eq6 (x : dens ent6.as) : ent6.F x = evF [ent9, ent10, ent11, ent13, ent15] SHF dc6 [(.tmp 2)] ent6.as ent6.rs x := by kernel_rfl
/-- library/librarylaw11.LinesPrintAlls -/
noncomputable def F7 (a0 : List (Int × Int × Int × List UInt8 × List (List UInt8 × List UInt8 × (List (UInt8 × List UInt8)) × Int))) : Option (Bool) :=
  bindO (F19 a0 (70 : Int)) fun y1 =>
  cond (!y1)
    (bindO (F10) fun y2 =>
    some y2)
    (bindO (F20 a0) fun y3 =>
    bindO (F21 a0) fun y4 =>
    cond (decide (y3.1 = y4.1))
      (cond (decide (y3.2 = y4.2))
        (bindO (F10) fun y5 =>
        some y5)
        (some false))
      (some false))
def dc7 : DC :=
  (.seq (.reg [⟨none, (.mv (some 2) (.v (.bool false)))⟩])
  (.seq (.seq (.reg [⟨none, (.mv (some 7) (.t 0))⟩,
    ⟨none, (.ca (some 8) 19 [(.t 7), (.v (.int .i64 70))])⟩,
    ⟨none, (.un 9 .not (.t 8))⟩])
  (.cond (.t 9)
    (.seq (.reg [⟨none, (.ca (some 10) 10 [])⟩,
    ⟨none, (.mv (some 2) (.t 10))⟩])
  .ret)
    .skip))
  (.seq (.reg [⟨none, (.mv (some 12) (.t 0))⟩,
    ⟨none, (.ca (some 13) 20 [(.t 12)])⟩,
    ⟨none, (.mv (some 11) (.t 13))⟩,
    ⟨none, (.ex 14 0 (.t 11))⟩,
    ⟨none, (.ex 15 1 (.t 11))⟩,
    ⟨none, (.mv (some 3) (.t 14))⟩,
    ⟨none, (.mv (some 4) (.t 15))⟩])
  (.seq (.reg [⟨none, (.mv (some 17) (.t 0))⟩,
    ⟨none, (.ca (some 18) 21 [(.t 17)])⟩,
    ⟨none, (.mv (some 16) (.t 18))⟩,
    ⟨none, (.ex 19 0 (.t 16))⟩,
    ⟨none, (.ex 20 1 (.t 16))⟩,
    ⟨none, (.mv (some 5) (.t 19))⟩,
    ⟨none, (.mv (some 6) (.t 20))⟩])
  (.seq (.reg [⟨none, (.mv (some 21) (.t 3))⟩,
    ⟨none, (.mv (some 22) (.t 5))⟩,
    ⟨none, (.ar 23 .eql (.t 21) (.t 22))⟩,
    ⟨none, (.mv (some 24) (.t 23))⟩,
    ⟨(some (24, true)), (.mv (some 25) (.t 4))⟩,
    ⟨(some (24, true)), (.mv (some 26) (.t 6))⟩,
    ⟨(some (24, true)), (.ar 27 .eql (.t 25) (.t 26))⟩,
    ⟨none, (.pick 28 (.t 24) (.t 27) (.v (.bool false)))⟩,
    ⟨none, (.mv (some 29) (.t 28))⟩,
    ⟨(some (29, true)), (.ca (some 30) 10 [])⟩,
    ⟨none, (.pick 31 (.t 29) (.t 30) (.v (.bool false)))⟩,
    ⟨none, (.mv (some 2) (.t 31))⟩])
  .ret)))))
noncomputable def ent7 : TEnt := ⟨7, [(.sl 24 (.agg 24 (.pair (.int .i64) (.pair (.int .i64) (.pair (.int .i64) (.pair .str (.sl 44 (.agg 44 (.pair .str (.pair .str (.pair (.sl 46 (.agg 46 (.pair .byte .str))) (.int .i64))))))))))))], .bool, fun x => F7 x, .plain⟩
theorem eq7 (x : dens ent7.as) : ent7.F x = evF [ent10, ent19, ent20, ent21] SHF dc7 [(.tmp 2)] ent7.as ent7.rs x := by kernel_rfl
/-- library/librarylaw11.LinesJoins -/
noncomputable def F8 (a0 : List (Int × Int × Int × List UInt8 × List (List UInt8 × List UInt8 × (List (UInt8 × List UInt8)) × Int))) (a1 : List (Int × Int × Int × List UInt8 × List (List UInt8 × List UInt8 × (List (UInt8 × List UInt8)) × Int))) : Option (Bool) :=
  bindO (F19 a0 (30 : Int)) fun y1 =>
  cond (!y1)
    (bindO (F10) fun y2 =>
    some y2)
    (bindO (F19 a1 (30 : Int)) fun y3 =>
    cond (!y3)
      (bindO (F10) fun y4 =>
      some y4)
      (bindO (F20 a0) fun y5 =>
      bindO (F20 a1) fun y6 =>
      cond (!decide (y5.2 = (0 : Int)))
        (bindO (F10) fun y7 =>
        some y7)
        (cond (!decide (y6.2 = (0 : Int)))
          (bindO (F10) fun y8 =>
          some y8)
          (bnd (IntKind.wrap .i64 ((List.length y5.1 : Int) + (List.length y6.1 : Int))) fun x9 =>
          cond (decide ((65536 : Int) < x9))
            (bindO (F10) fun y10 =>
            some y10)
            (gdN (List.length ([] : List (Int × Int × Int × List UInt8 × List (List UInt8 × List UInt8 × (List (UInt8 × List UInt8)) × Int)))) (List.length ([] : List (Int × Int × Int × List UInt8 × List (List UInt8 × List UInt8 × (List (UInt8 × List UInt8)) × Int)))) <|
            gd (List.length ([] : List (Int × Int × Int × List UInt8 × List (List UInt8 × List UInt8 × (List (UInt8 × List UInt8)) × Int))) + List.length a0 ≤ big) <|
            bnd (([] : List (Int × Int × Int × List UInt8 × List (List UInt8 × List UInt8 × (List (UInt8 × List UInt8)) × Int))) ++ a0) fun l11 =>
            gdN (List.length l11) (List.length l11) <|
            gd (List.length l11 + List.length a1 ≤ big) <|
            bnd (l11 ++ a1) fun l12 =>
            bindO (F20 l12) fun y13 =>
            bindO (F16 y13.1) fun y14 =>
            cond (decide (y13.2 = (0 : Int)))
              (gd (List.length y5.1 + List.length y6.1 ≤ big) <|
              bnd (y5.1 ++ y6.1) fun x15 =>
              cond (decide (y13.1 = x15))
                (cond (decide (y14.2.2 = (0 : Int)))
                  (cond (decide (y14.2.1 = (0 : Int)))
                    (bindO (F18 y14.1 l12) fun y16 =>
                    cond (y16)
                      (bindO (F10) fun y17 =>
                      some y17)
                      (some false))
                    (some false))
                  (some false))
                (some false))
              (some false))))))
def dc8 : DC :=
  (.seq (.reg [⟨none, (.mv (some 4) (.v (.bool false)))⟩])
  (.seq (.seq (.reg [⟨none, (.mv (some 15) (.t 0))⟩,
    ⟨none, (.ca (some 16) 19 [(.t 15), (.v (.int .i64 30))])⟩,
    ⟨none, (.un 17 .not (.t 16))⟩,
    ⟨none, (.mv (some 18) (.t 17))⟩,
    ⟨(some (18, false)), (.mv (some 19) (.t 1))⟩,
    ⟨(some (18, false)), (.ca (some 20) 19 [(.t 19), (.v (.int .i64 30))])⟩,
    ⟨(some (18, false)), (.un 21 .not (.t 20))⟩,
    ⟨none, (.pick 22 (.t 18) (.v (.bool true)) (.t 21))⟩])
  (.cond (.t 22)
    (.seq (.reg [⟨none, (.ca (some 23) 10 [])⟩,
    ⟨none, (.mv (some 4) (.t 23))⟩])
  .ret)
    .skip))
  (.seq (.reg [⟨none, (.mv (some 25) (.t 0))⟩,
    ⟨none, (.ca (some 26) 20 [(.t 25)])⟩,
    ⟨none, (.mv (some 24) (.t 26))⟩,
    ⟨none, (.ex 27 0 (.t 24))⟩,
    ⟨none, (.ex 28 1 (.t 24))⟩,
    ⟨none, (.mv (some 5) (.t 27))⟩,
    ⟨none, (.mv (some 6) (.t 28))⟩])
  (.seq (.reg [⟨none, (.mv (some 30) (.t 1))⟩,
    ⟨none, (.ca (some 31) 20 [(.t 30)])⟩,
    ⟨none, (.mv (some 29) (.t 31))⟩,
    ⟨none, (.ex 32 0 (.t 29))⟩,
    ⟨none, (.ex 33 1 (.t 29))⟩,
    ⟨none, (.mv (some 7) (.t 32))⟩,
    ⟨none, (.mv (some 8) (.t 33))⟩])
  (.seq (.seq (.reg [⟨none, (.mv (some 34) (.t 6))⟩,
    ⟨none, (.ar 35 .neq (.t 34) (.v (.int .i64 0)))⟩,
    ⟨none, (.mv (some 36) (.t 35))⟩,
    ⟨(some (36, false)), (.mv (some 37) (.t 8))⟩,
    ⟨(some (36, false)), (.ar 38 .neq (.t 37) (.v (.int .i64 0)))⟩,
    ⟨none, (.pick 39 (.t 36) (.v (.bool true)) (.t 38))⟩,
    ⟨none, (.mv (some 40) (.t 39))⟩,
    ⟨(some (40, false)), (.mv (some 41) (.t 5))⟩,
    ⟨(some (40, false)), (.ln 42 none (.t 41))⟩,
    ⟨(some (40, false)), (.mv (some 43) (.t 7))⟩,
    ⟨(some (40, false)), (.ln 44 none (.t 43))⟩,
    ⟨(some (40, false)), (.ar 45 .add (.t 42) (.t 44))⟩,
    ⟨(some (40, false)), (.ar 46 .gtr (.t 45) (.v (.int .i64 65536)))⟩,
    ⟨none, (.pick 47 (.t 40) (.v (.bool true)) (.t 46))⟩])
  (.cond (.t 47)
    (.seq (.reg [⟨none, (.ca (some 48) 10 [])⟩,
    ⟨none, (.mv (some 4) (.t 48))⟩])
  .ret)
    .skip))
  (.seq (.reg [⟨none, (.bs 49 24 (some 24) [])⟩,
    ⟨none, (.mv (some 50) (.t 0))⟩,
    ⟨none, (.ap 51 24 (.t 49) (.t 50))⟩,
    ⟨none, (.mv (some 52) (.t 1))⟩,
    ⟨none, (.ap 53 24 (.t 51) (.t 52))⟩,
    ⟨none, (.mv (some 9) (.t 53))⟩])
  (.seq (.reg [⟨none, (.mv (some 55) (.t 9))⟩,
    ⟨none, (.ca (some 56) 20 [(.t 55)])⟩,
    ⟨none, (.mv (some 54) (.t 56))⟩,
    ⟨none, (.ex 57 0 (.t 54))⟩,
    ⟨none, (.ex 58 1 (.t 54))⟩,
    ⟨none, (.mv (some 10) (.t 57))⟩,
    ⟨none, (.mv (some 11) (.t 58))⟩])
  (.seq (.reg [⟨none, (.mv (some 60) (.t 10))⟩,
    ⟨none, (.ca (some 61) 16 [(.t 60)])⟩,
    ⟨none, (.mv (some 59) (.t 61))⟩,
    ⟨none, (.ex 62 0 (.t 59))⟩,
    ⟨none, (.ex 63 1 (.t 59))⟩,
    ⟨none, (.ex 64 2 (.t 59))⟩,
    ⟨none, (.mv (some 12) (.t 62))⟩,
    ⟨none, (.mv (some 13) (.t 63))⟩,
    ⟨none, (.mv (some 14) (.t 64))⟩])
  (.seq (.reg [⟨none, (.mv (some 65) (.t 11))⟩,
    ⟨none, (.ar 66 .eql (.t 65) (.v (.int .i64 0)))⟩,
    ⟨none, (.mv (some 67) (.t 66))⟩,
    ⟨(some (67, true)), (.mv (some 68) (.t 10))⟩,
    ⟨(some (67, true)), (.mv (some 69) (.t 5))⟩,
    ⟨(some (67, true)), (.mv (some 70) (.t 7))⟩,
    ⟨(some (67, true)), (.ar 71 .add (.t 69) (.t 70))⟩,
    ⟨(some (67, true)), (.ar 72 .eql (.t 68) (.t 71))⟩,
    ⟨none, (.pick 73 (.t 67) (.t 72) (.v (.bool false)))⟩,
    ⟨none, (.mv (some 74) (.t 73))⟩,
    ⟨(some (74, true)), (.mv (some 75) (.t 14))⟩,
    ⟨(some (74, true)), (.ar 76 .eql (.t 75) (.v (.int .i64 0)))⟩,
    ⟨none, (.pick 77 (.t 74) (.t 76) (.v (.bool false)))⟩,
    ⟨none, (.mv (some 78) (.t 77))⟩,
    ⟨(some (78, true)), (.mv (some 79) (.t 13))⟩,
    ⟨(some (78, true)), (.ar 80 .eql (.t 79) (.v (.int .i64 0)))⟩,
    ⟨none, (.pick 81 (.t 78) (.t 80) (.v (.bool false)))⟩,
    ⟨none, (.mv (some 82) (.t 81))⟩,
    ⟨(some (82, true)), (.mv (some 83) (.t 12))⟩,
    ⟨(some (82, true)), (.mv (some 84) (.t 9))⟩,
    ⟨(some (82, true)), (.ca (some 85) 18 [(.t 83), (.t 84)])⟩,
    ⟨none, (.pick 86 (.t 82) (.t 85) (.v (.bool false)))⟩,
    ⟨none, (.mv (some 87) (.t 86))⟩,
    ⟨(some (87, true)), (.ca (some 88) 10 [])⟩,
    ⟨none, (.pick 89 (.t 87) (.t 88) (.v (.bool false)))⟩,
    ⟨none, (.mv (some 4) (.t 89))⟩])
  .ret)))))))))
noncomputable def ent8 : TEnt := ⟨8, [(.sl 24 (.agg 24 (.pair (.int .i64) (.pair (.int .i64) (.pair (.int .i64) (.pair .str (.sl 44 (.agg 44 (.pair .str (.pair .str (.pair (.sl 46 (.agg 46 (.pair .byte .str))) (.int .i64)))))))))))), (.sl 24 (.agg 24 (.pair (.int .i64) (.pair (.int .i64) (.pair (.int .i64) (.pair .str (.sl 44 (.agg 44 (.pair .str (.pair .str (.pair (.sl 46 (.agg 46 (.pair .byte .str))) (.int .i64))))))))))))], .bool, fun x => F8 x.1 x.2, .plain⟩
theorem eq8 (x : dens ent8.as) : ent8.F x = evF [ent10, ent16, ent18, ent19, ent20] SHF dc8 [(.tmp 4)] ent8.as ent8.rs x := by kernel_rfl
theorem mixedF : Tryz.prog.follows .mixedOrders = true := by kernel_rfl
section
variable {G : World → Prop} (hG : Keeps G)
include hG in
theorem ok61 (h35 : TEnt.Ok Tryz.prog G entTrim) : TEnt.Ok Tryz.prog G ent61 :=
  ent_ok hG mixedF (fn := Tryz.f61) (d := dc61) (crs := [(.tmp 2)]) (hint := []) (TT := [entTrim]) (SH := SHF) rfl rfl (by kernel_rfl) (by decide) rfl ⟨h35, trivial⟩ eq61
include hG in
theorem ok82 : TEnt.Ok Tryz.prog G ent82 :=
  ent_ok hG mixedF (fn := Tryz.f82) (d := dc82) (crs := [(.tmp 2)]) (hint := []) (TT := []) (SH := SHF) rfl rfl (by kernel_rfl) (by decide) rfl trivial eq82
include hG in
theorem ok83 (h97 : TEnt.Ok Tryz.prog G entVal) : TEnt.Ok Tryz.prog G ent83 :=
  ent_ok hG mixedF (fn := Tryz.f83) (d := dc83) (crs := [(.tmp 2)]) (hint := []) (TT := [entVal]) (SH := SHF) rfl rfl (by kernel_rfl) (by decide) rfl ⟨h97, trivial⟩ eq83
include hG in
theorem ok62 (h82 : TEnt.Ok Tryz.prog G ent82) (h83 : TEnt.Ok Tryz.prog G ent83) : TEnt.Ok Tryz.prog G ent62 :=
  ent_ok hG mixedF (fn := Tryz.f62) (d := dc62) (crs := [(.tmp 2)]) (hint := []) (TT := [ent82, ent83]) (SH := SHF) rfl rfl (by kernel_rfl) (by decide) rfl ⟨h82, h83, trivial⟩ eq62
include hG in
theorem ok36 (h40 : TEnt.Ok Tryz.prog G entRepl) (h61 : TEnt.Ok Tryz.prog G ent61) (h62 : TEnt.Ok Tryz.prog G ent62) : TEnt.Ok Tryz.prog G ent36 :=
  ent_ok hG mixedF (fn := Tryz.f36) (d := dc36) (crs := [(.tmp 2)]) (hint := []) (TT := [entRepl, ent61, ent62]) (SH := SHF) rfl rfl (by kernel_rfl) (by decide) rfl ⟨h40, h61, h62, trivial⟩ eq36
include hG in
theorem ok23 (h35 : TEnt.Ok Tryz.prog G entTrim) (h36 : TEnt.Ok Tryz.prog G ent36) : TEnt.Ok Tryz.prog G ent23 :=
  ent_ok hG mixedF (fn := Tryz.f23) (d := dc23) (crs := [(.tmp 2)]) (hint := []) (TT := [entTrim, ent36]) (SH := SHF) rfl rfl (by kernel_rfl) (by decide) rfl ⟨h35, h36, trivial⟩ eq23
include hG in
theorem ok39 : TEnt.Ok Tryz.prog G ent39 :=
  ent_ok hG mixedF (fn := Tryz.f39) (d := dc39) (crs := [(.tmp 0)]) (hint := []) (TT := []) (SH := SHF) rfl rfl (by kernel_rfl) (by decide) rfl trivial eq39
include hG in
theorem ok25 (h38 : TEnt.Ok Tryz.prog G entItoa) (h39 : TEnt.Ok Tryz.prog G ent39) : TEnt.Ok Tryz.prog G ent25 :=
  ent_ok hG mixedF (fn := Tryz.f25) (d := dc25) (crs := [(.tmp 2)]) (hint := []) (TT := [entItoa, ent39]) (SH := SHF) rfl rfl (by kernel_rfl) (by decide) rfl ⟨h38, h39, trivial⟩ eq25
include hG in
theorem ok26 (h24 : TEnt.Ok Tryz.prog G entWriteString) (h27 : TEnt.Ok Tryz.prog G entString) (h36 : TEnt.Ok Tryz.prog G ent36) (h38 : TEnt.Ok Tryz.prog G entItoa) (h40 : TEnt.Ok Tryz.prog G entRepl) (h41 : TEnt.Ok Tryz.prog G entWriteByte) : TEnt.Ok Tryz.prog G ent26 :=
  ent_ok hG mixedF (fn := Tryz.f26) (d := dc26) (crs := [(.tmp 2), (.tmp 3)]) (hint := []) (TT := [entWriteString, entString, ent36, entItoa, entRepl, entWriteByte]) (SH := SHF) rfl rfl (by kernel_rfl) (by decide) rfl ⟨h24, h27, h36, h38, h40, h41, trivial⟩ eq26
include hG in
theorem ok11 (h23 : TEnt.Ok Tryz.prog G ent23) (h24 : TEnt.Ok Tryz.prog G entWriteString) (h25 : TEnt.Ok Tryz.prog G ent25) (h26 : TEnt.Ok Tryz.prog G ent26) (h27 : TEnt.Ok Tryz.prog G entString) : TEnt.Ok Tryz.prog G ent11 :=
  ent_ok hG mixedF (fn := Tryz.f11) (d := dc11) (crs := [(.tmp 2), (.tmp 3)]) (hint := []) (TT := [ent23, entWriteString, ent25, ent26, entString]) (SH := SHF) rfl rfl (by kernel_rfl) (by decide) rfl ⟨h23, h24, h25, h26, h27, trivial⟩ eq11
include hG in
theorem ok75 (h27 : TEnt.Ok Tryz.prog G entString) (h41 : TEnt.Ok Tryz.prog G entWriteByte) (h72 : TEnt.Ok Tryz.prog G entHas) : TEnt.Ok Tryz.prog G ent75 :=
  ent_ok hG mixedF (fn := Tryz.f75) (d := dc75) (crs := [(.tmp 2)]) (hint := []) (TT := [entString, entWriteByte, entHas]) (SH := SHF) rfl rfl (by kernel_rfl) (by decide) rfl ⟨h27, h41, h72, trivial⟩ eq75
include hG in
theorem ok49 (h26 : TEnt.Ok Tryz.prog G ent26) (h40 : TEnt.Ok Tryz.prog G entRepl) (h47 : TEnt.Ok Tryz.prog G entCut) (h73 : TEnt.Ok Tryz.prog G entAtoi) (h74 : TEnt.Ok Tryz.prog G entSplitN) (h75 : TEnt.Ok Tryz.prog G ent75) : TEnt.Ok Tryz.prog G ent49 :=
  ent_ok hG mixedF (fn := Tryz.f49) (d := dc49) (crs := [(.cell 2 (some 44)), (.tmp 3)]) (hint := []) (TT := [ent26, entRepl, entCut, entAtoi, entSplitN, ent75]) (SH := SHF) rfl rfl (by kernel_rfl) (by decide) rfl ⟨h26, h40, h47, h73, h74, h75, trivial⟩ eq49
include hG in
theorem ok48 (h23 : TEnt.Ok Tryz.prog G ent23) (h25 : TEnt.Ok Tryz.prog G ent25) (h39 : TEnt.Ok Tryz.prog G ent39) (h71 : TEnt.Ok Tryz.prog G entSplit) (h72 : TEnt.Ok Tryz.prog G entHas) (h73 : TEnt.Ok Tryz.prog G entAtoi) : TEnt.Ok Tryz.prog G ent48 :=
  ent_okP hG mixedF (fn := Tryz.f48) (d := dc48) (crs := [(.cell 2 (some 24)), (.tmp 3)]) (hint := [(30000000, 24)]) (TT := [ent23, ent25, ent39, entSplit, entHas, entAtoi]) (SH := SHF) rfl rfl (by kernel_rfl) (by decide) rfl ⟨h23, h25, h39, h71, h72, h73, trivial⟩ eq48
include hG in
theorem ok31 (h47 : TEnt.Ok Tryz.prog G entCut) (h48 : TEnt.Ok Tryz.prog G ent48) (h49 : TEnt.Ok Tryz.prog G ent49) : TEnt.Ok Tryz.prog G ent31 :=
  ent_ok hG mixedF (fn := Tryz.f31) (d := dc31) (crs := [(.cell 2 (some 24)), (.tmp 3), (.tmp 4), (.tmp 5)]) (hint := [(10000000, 6001004)]) (TT := [entCut, ent48, ent49]) (SH := SHF) rfl rfl (by kernel_rfl) (by decide) rfl ⟨h47, h48, h49, trivial⟩ eq31
include hG in
theorem ok13 (h31 : TEnt.Ok Tryz.prog G ent31) : TEnt.Ok Tryz.prog G ent13 :=
  ent_ok hG mixedF (fn := Tryz.f13) (d := dc13) (crs := [(.cell 2 (some 24)), (.tmp 3), (.tmp 4)]) (hint := []) (TT := [ent31]) (SH := SHF) rfl rfl (by kernel_rfl) (by decide) rfl ⟨h31, trivial⟩ eq13
include hG in
theorem ok16 (h31 : TEnt.Ok Tryz.prog G ent31) : TEnt.Ok Tryz.prog G ent16 :=
  ent_ok hG mixedF (fn := Tryz.f16) (d := dc16) (crs := [(.tmp 2), (.tmp 3), (.tmp 4)]) (hint := []) (TT := [ent31]) (SH := SHF) rfl rfl (by kernel_rfl) (by decide) rfl ⟨h31, trivial⟩ eq16
include hG in
theorem ok20 (h11 : TEnt.Ok Tryz.prog G ent11) (h24 : TEnt.Ok Tryz.prog G entWriteString) (h27 : TEnt.Ok Tryz.prog G entString) (h34 : TEnt.Ok Tryz.prog G entLen) : TEnt.Ok Tryz.prog G ent20 :=
  ent_ok hG mixedF (fn := Tryz.f20) (d := dc20) (crs := [(.tmp 2), (.tmp 3)]) (hint := []) (TT := [ent11, entWriteString, entString, entLen]) (SH := SHF) rfl rfl (by kernel_rfl) (by decide) rfl ⟨h11, h24, h27, h34, trivial⟩ eq20
include hG in
theorem ok67 : TEnt.Ok Tryz.prog G ent67 :=
  ent_ok hG mixedF (fn := Tryz.f67) (d := dc67) (crs := [(.tmp 2)]) (hint := []) (TT := []) (SH := SHF) rfl rfl (by kernel_rfl) (by decide) rfl trivial eq67
include hG in
theorem ok66 (h67 : TEnt.Ok Tryz.prog G ent67) : TEnt.Ok Tryz.prog G ent66 :=
  ent_ok hG mixedF (fn := Tryz.f66) (d := dc66) (crs := [(.tmp 2)]) (hint := []) (TT := [ent67]) (SH := SHF) rfl rfl (by kernel_rfl) (by decide) rfl ⟨h67, trivial⟩ eq66
include hG in
theorem ok68 (h67 : TEnt.Ok Tryz.prog G ent67) : TEnt.Ok Tryz.prog G ent68 :=
  ent_ok hG mixedF (fn := Tryz.f68) (d := dc68) (crs := [(.tmp 2)]) (hint := []) (TT := [ent67]) (SH := SHF) rfl rfl (by kernel_rfl) (by decide) rfl ⟨h67, trivial⟩ eq68
include hG in
theorem ok88 : TEnt.Ok Tryz.prog G ent88 :=
  ent_ok hG mixedF (fn := Tryz.f88) (d := dc88) (crs := [(.tmp 4), (.tmp 5)]) (hint := []) (TT := []) (SH := SHF) rfl rfl (by kernel_rfl) (by decide) rfl trivial eq88
include hG in
theorem ok69 (h88 : TEnt.Ok Tryz.prog G ent88) : TEnt.Ok Tryz.prog G ent69 :=
  ent_ok hG mixedF (fn := Tryz.f69) (d := dc69) (crs := [(.tmp 2)]) (hint := []) (TT := [ent88]) (SH := SHF) rfl rfl (by kernel_rfl) (by decide) rfl ⟨h88, trivial⟩ eq69
include hG in
theorem ok42 (h66 : TEnt.Ok Tryz.prog G ent66) (h67 : TEnt.Ok Tryz.prog G ent67) (h68 : TEnt.Ok Tryz.prog G ent68) (h69 : TEnt.Ok Tryz.prog G ent69) : TEnt.Ok Tryz.prog G ent42 :=
  ent_ok hG mixedF (fn := Tryz.f42) (d := dc42) (crs := [(.tmp 2)]) (hint := []) (TT := [ent66, ent67, ent68, ent69]) (SH := SHF) rfl rfl (by kernel_rfl) (by decide) rfl ⟨h66, h67, h68, h69, trivial⟩ eq42
include hG in
theorem ok46 : TEnt.Ok Tryz.prog G ent46 :=
  ent_ok hG mixedF (fn := Tryz.f46) (d := dc46) (crs := [(.tmp 2)]) (hint := []) (TT := []) (SH := SHF) rfl rfl (by kernel_rfl) (by decide) rfl trivial eq46
include hG in
theorem ok45 : TEnt.Ok Tryz.prog G ent45 :=
  ent_ok hG mixedF (fn := Tryz.f45) (d := dc45) (crs := [(.tmp 4)]) (hint := []) (TT := []) (SH := SHF) rfl rfl (by kernel_rfl) (by decide) rfl trivial eq45
include hG in
theorem ok30 (h42 : TEnt.Ok Tryz.prog G ent42) (h45 : TEnt.Ok Tryz.prog G ent45) (h46 : TEnt.Ok Tryz.prog G ent46) : TEnt.Ok Tryz.prog G ent30 :=
  ent_ok hG mixedF (fn := Tryz.f30) (d := dc30) (crs := [(.tmp 2), (.tmp 3)]) (hint := []) (TT := [ent42, ent45, ent46]) (SH := SHF) rfl rfl (by kernel_rfl) (by decide) rfl ⟨h42, h45, h46, trivial⟩ eq30
include hG in
theorem ok28 (h42 : TEnt.Ok Tryz.prog G ent42) : TEnt.Ok Tryz.prog G ent28 :=
  ent_ok hG mixedF (fn := Tryz.f28) (d := dc28) (crs := [(.tmp 2)]) (hint := []) (TT := [ent42]) (SH := SHF) rfl rfl (by kernel_rfl) (by decide) rfl ⟨h42, trivial⟩ eq28
include hG in
theorem ok43 : TEnt.Ok Tryz.prog G ent43 :=
  ent_ok hG mixedF (fn := Tryz.f43) (d := dc43) (crs := [(.tmp 2)]) (hint := []) (TT := []) (SH := SHF) rfl rfl (by kernel_rfl) (by decide) rfl trivial eq43
include hG in
theorem ok44 : TEnt.Ok Tryz.prog G ent44 :=
  ent_ok hG mixedF (fn := Tryz.f44) (d := dc44) (crs := [(.tmp 2)]) (hint := []) (TT := []) (SH := SHF) rfl rfl (by kernel_rfl) (by decide) rfl trivial eq44
include hG in
theorem ok29 (h43 : TEnt.Ok Tryz.prog G ent43) (h44 : TEnt.Ok Tryz.prog G ent44) : TEnt.Ok Tryz.prog G ent29 :=
  ent_ok hG mixedF (fn := Tryz.f29) (d := dc29) (crs := [(.tmp 8)]) (hint := []) (TT := [ent43, ent44]) (SH := SHF) rfl rfl (by kernel_rfl) (by decide) rfl ⟨h43, h44, trivial⟩ eq29
include hG in
theorem ok12 (h28 : TEnt.Ok Tryz.prog G ent28) (h29 : TEnt.Ok Tryz.prog G ent29) (h30 : TEnt.Ok Tryz.prog G ent30) : TEnt.Ok Tryz.prog G ent12 :=
  ent_ok hG mixedF (fn := Tryz.f12) (d := dc12) (crs := [(.tmp 2), (.tmp 3)]) (hint := []) (TT := [ent28, ent29, ent30]) (SH := SHF) rfl rfl (by kernel_rfl) (by decide) rfl ⟨h28, h29, h30, trivial⟩ eq12
include hG in
theorem ok77 (h67 : TEnt.Ok Tryz.prog G ent67) : TEnt.Ok Tryz.prog G ent77 :=
  ent_ok hG mixedF (fn := Tryz.f77) (d := dc77) (crs := [(.cell 2 (some 44)), (.tmp 3)]) (hint := [(30000000, 44), (10000004, 6000402), (10000002, 5000006), (21, 78)]) (TT := [ent67]) (SH := SHF) rfl rfl (by kernel_rfl) (by decide) rfl ⟨h67, trivial⟩ eq77
include hG in
theorem ok52 (h30 : TEnt.Ok Tryz.prog G ent30) (h77 : TEnt.Ok Tryz.prog G ent77) : TEnt.Ok Tryz.prog G ent52 :=
  ent_ok hG mixedF (fn := Tryz.f52) (d := dc52) (crs := [(.cell 2 (some 44)), (.tmp 3)]) (hint := []) (TT := [ent30, ent77]) (SH := SHF) rfl rfl (by kernel_rfl) (by decide) rfl ⟨h30, h77, trivial⟩ eq52
include hG in
theorem ok50 : TEnt.Ok Tryz.prog G ent50 :=
  ent_ok hG mixedF (fn := Tryz.f50) (d := dc50) (crs := [(.tmp 4), (.tmp 5), (.tmp 6)]) (hint := []) (TT := []) (SH := SHF) rfl rfl (by kernel_rfl) (by decide) rfl trivial eq50
include hG in
theorem ok76 : TEnt.Ok Tryz.prog G ent76 :=
  ent_ok hG mixedF (fn := Tryz.f76) (d := dc76) (crs := [(.tmp 2), (.tmp 3)]) (hint := []) (TT := []) (SH := SHF) rfl rfl (by kernel_rfl) (by decide) rfl trivial eq76
include hG in
theorem ok51 (h28 : TEnt.Ok Tryz.prog G ent28) (h29 : TEnt.Ok Tryz.prog G ent29) (h76 : TEnt.Ok Tryz.prog G ent76) : TEnt.Ok Tryz.prog G ent51 :=
  ent_okP hG mixedF (fn := Tryz.f51) (d := dc51) (crs := [(.cell 2 (some 24)), (.tmp 3)]) (hint := [(30000000, 24)]) (TT := [ent28, ent29, ent76]) (SH := SHF) rfl rfl (by kernel_rfl) (by decide) rfl ⟨h28, h29, h76, trivial⟩ eq51
include hG in
theorem ok32 (h50 : TEnt.Ok Tryz.prog G ent50) (h51 : TEnt.Ok Tryz.prog G ent51) (h52 : TEnt.Ok Tryz.prog G ent52) : TEnt.Ok Tryz.prog G ent32 :=
  ent_ok hG mixedF (fn := Tryz.f32) (d := dc32) (crs := [(.cell 4 (some 24)), (.cell 5 (some 63)), (.tmp 6)]) (hint := [(10000000, 6001004)]) (TT := [ent50, ent51, ent52]) (SH := SHF) rfl rfl (by kernel_rfl) (by decide) rfl ⟨h50, h51, h52, trivial⟩ eq32
include hG in
theorem ok14 (h32 : TEnt.Ok Tryz.prog G ent32) : TEnt.Ok Tryz.prog G ent14 :=
  ent_ok hG mixedF (fn := Tryz.f14) (d := dc14) (crs := [(.cell 2 (some 24)), (.tmp 3), (.tmp 4)]) (hint := []) (TT := [ent32]) (SH := SHF) rfl rfl (by kernel_rfl) (by decide) rfl ⟨h32, trivial⟩ eq14
include hG in
theorem ok21 (h12 : TEnt.Ok Tryz.prog G ent12) : TEnt.Ok Tryz.prog G ent21 :=
  ent_ok hG mixedF (fn := Tryz.f21) (d := dc21) (crs := [(.tmp 2), (.tmp 3)]) (hint := []) (TT := [ent12]) (SH := SHF) rfl rfl (by kernel_rfl) (by decide) rfl ⟨h12, trivial⟩ eq21
include hG in
theorem ok17 (h32 : TEnt.Ok Tryz.prog G ent32) : TEnt.Ok Tryz.prog G ent17 :=
  ent_ok hG mixedF (fn := Tryz.f17) (d := dc17) (crs := [(.tmp 2), (.tmp 3), (.tmp 4)]) (hint := []) (TT := [ent32]) (SH := SHF) rfl rfl (by kernel_rfl) (by decide) rfl ⟨h32, trivial⟩ eq17
include hG in
theorem ok53 : TEnt.Ok Tryz.prog G ent53 :=
  ent_ok hG mixedF (fn := Tryz.f53) (d := dc53) (crs := [(.tmp 4)]) (hint := []) (TT := []) (SH := SHF) rfl rfl (by kernel_rfl) (by decide) rfl trivial eq53
include hG in
theorem ok33 (h53 : TEnt.Ok Tryz.prog G ent53) : TEnt.Ok Tryz.prog G ent33 :=
  ent_ok hG mixedF (fn := Tryz.f33) (d := dc33) (crs := [(.tmp 4)]) (hint := []) (TT := [ent53]) (SH := SHF) rfl rfl (by kernel_rfl) (by decide) rfl ⟨h53, trivial⟩ eq33
include hG in
theorem ok15 (h33 : TEnt.Ok Tryz.prog G ent33) : TEnt.Ok Tryz.prog G ent15 :=
  ent_ok hG mixedF (fn := Tryz.f15) (d := dc15) (crs := [(.tmp 4)]) (hint := []) (TT := [ent33]) (SH := SHF) rfl rfl (by kernel_rfl) (by decide) rfl ⟨h33, trivial⟩ eq15
include hG in
theorem ok18 (h15 : TEnt.Ok Tryz.prog G ent15) : TEnt.Ok Tryz.prog G ent18 :=
  ent_ok hG mixedF (fn := Tryz.f18) (d := dc18) (crs := [(.tmp 4)]) (hint := []) (TT := [ent15]) (SH := SHF) rfl rfl (by kernel_rfl) (by decide) rfl ⟨h15, trivial⟩ eq18
include hG in
theorem ok22 : TEnt.Ok Tryz.prog G ent22 :=
  ent_ok hG mixedF (fn := Tryz.f22) (d := dc22) (crs := [(.tmp 2)]) (hint := []) (TT := []) (SH := SHF) rfl rfl (by kernel_rfl) (by decide) rfl trivial eq22
include hG in
theorem ok9 (h22 : TEnt.Ok Tryz.prog G ent22) : TEnt.Ok Tryz.prog G ent9 :=
  ent_ok hG mixedF (fn := Tryz.f9) (d := dc9) (crs := [(.tmp 2)]) (hint := []) (TT := [ent22]) (SH := SHF) rfl rfl (by kernel_rfl) (by decide) rfl ⟨h22, trivial⟩ eq9
include hG in
theorem ok19 (h9 : TEnt.Ok Tryz.prog G ent9) : TEnt.Ok Tryz.prog G ent19 :=
  ent_ok hG mixedF (fn := Tryz.f19) (d := dc19) (crs := [(.tmp 4)]) (hint := []) (TT := [ent9]) (SH := SHF) rfl rfl (by kernel_rfl) (by decide) rfl ⟨h9, trivial⟩ eq19
include hG in
theorem ok10 (h11 : TEnt.Ok Tryz.prog G ent11) (h13 : TEnt.Ok Tryz.prog G ent13) (h16 : TEnt.Ok Tryz.prog G ent16) : TEnt.Ok Tryz.prog G ent10 :=
  ent_ok hG mixedF (fn := Tryz.f10) (d := dc10) (crs := [(.tmp 0)]) (hint := []) (TT := [ent11, ent13, ent16]) (SH := SHF) rfl rfl (by kernel_rfl) (by decide) rfl ⟨h11, h13, h16, trivial⟩ eq10
include hG in
theorem ok3 (h9 : TEnt.Ok Tryz.prog G ent9) (h10 : TEnt.Ok Tryz.prog G ent10) (h11 : TEnt.Ok Tryz.prog G ent11) (h12 : TEnt.Ok Tryz.prog G ent12) : TEnt.Ok Tryz.prog G ent3 :=
  ent_ok hG mixedF (fn := Tryz.f3) (d := dc3) (crs := [(.tmp 2)]) (hint := []) (TT := [ent9, ent10, ent11, ent12]) (SH := SHF) rfl rfl (by kernel_rfl) (by decide) rfl ⟨h9, h10, h11, h12, trivial⟩ eq3
include hG in
theorem ok4 (h10 : TEnt.Ok Tryz.prog G ent10) (h13 : TEnt.Ok Tryz.prog G ent13) (h14 : TEnt.Ok Tryz.prog G ent14) (h15 : TEnt.Ok Tryz.prog G ent15) : TEnt.Ok Tryz.prog G ent4 :=
  ent_ok hG mixedF (fn := Tryz.f4) (d := dc4) (crs := [(.tmp 2)]) (hint := []) (TT := [ent10, ent13, ent14, ent15]) (SH := SHF) rfl rfl (by kernel_rfl) (by decide) rfl ⟨h10, h13, h14, h15, trivial⟩ eq4
include hG in
theorem ok5 (h10 : TEnt.Ok Tryz.prog G ent10) (h16 : TEnt.Ok Tryz.prog G ent16) (h17 : TEnt.Ok Tryz.prog G ent17) (h18 : TEnt.Ok Tryz.prog G ent18) : TEnt.Ok Tryz.prog G ent5 :=
  ent_ok hG mixedF (fn := Tryz.f5) (d := dc5) (crs := [(.tmp 2)]) (hint := []) (TT := [ent10, ent16, ent17, ent18]) (SH := SHF) rfl rfl (by kernel_rfl) (by decide) rfl ⟨h10, h16, h17, h18, trivial⟩ eq5
include hG in
theorem ok6 (h9 : TEnt.Ok Tryz.prog G ent9) (h10 : TEnt.Ok Tryz.prog G ent10) (h11 : TEnt.Ok Tryz.prog G ent11) (h13 : TEnt.Ok Tryz.prog G ent13) (h15 : TEnt.Ok Tryz.prog G ent15) : TEnt.Ok Tryz.prog G ent6 :=
  ent_ok hG mixedF (fn := Tryz.f6) (d := dc6) (crs := [(.tmp 2)]) (hint := []) (TT := [ent9, ent10, ent11, ent13, ent15]) (SH := SHF) rfl rfl (by kernel_rfl) (by decide) rfl ⟨h9, h10, h11, h13, h15, trivial⟩ eq6
include hG in
theorem ok7 (h10 : TEnt.Ok Tryz.prog G ent10) (h19 : TEnt.Ok Tryz.prog G ent19) (h20 : TEnt.Ok Tryz.prog G ent20) (h21 : TEnt.Ok Tryz.prog G ent21) : TEnt.Ok Tryz.prog G ent7 :=
  ent_ok hG mixedF (fn := Tryz.f7) (d := dc7) (crs := [(.tmp 2)]) (hint := []) (TT := [ent10, ent19, ent20, ent21]) (SH := SHF) rfl rfl (by kernel_rfl) (by decide) rfl ⟨h10, h19, h20, h21, trivial⟩ eq7
include hG in
theorem ok8 (h10 : TEnt.Ok Tryz.prog G ent10) (h16 : TEnt.Ok Tryz.prog G ent16) (h18 : TEnt.Ok Tryz.prog G ent18) (h19 : TEnt.Ok Tryz.prog G ent19) (h20 : TEnt.Ok Tryz.prog G ent20) : TEnt.Ok Tryz.prog G ent8 :=
  ent_ok hG mixedF (fn := Tryz.f8) (d := dc8) (crs := [(.tmp 4)]) (hint := []) (TT := [ent10, ent16, ent18, ent19, ent20]) (SH := SHF) rfl rfl (by kernel_rfl) (by decide) rfl ⟨h10, h16, h18, h19, h20, trivial⟩ eq8
end
end Go.Proofs.YtbkaenpcmbplpaaGreatDoor
