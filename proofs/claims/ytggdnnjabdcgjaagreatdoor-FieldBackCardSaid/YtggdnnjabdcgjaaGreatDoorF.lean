/-
  THE FUNCTIONS AS PLAIN ONES (printed by a program of ours), and that they are what the code's runs give.
-/
import Derived.Test.YtggdnnjabdcgjaaGreatDoorG
namespace Go.Proofs.YtggdnnjabdcgjaaGreatDoor
open Go Go.Nu
set_option maxRecDepth 100000
set_option linter.unusedVariables false
def SHF : List (TypeId × Sh) := [(5, .byte), (9, .str), (46, (.agg 46 (.pair .byte .str))), (99, (.arr 99 .bool)), (100, (.arr 100 .bool)), (106, (.arr 106 .byte)), (123, (.arr 123 .byte)), (126, (.arr 126 (.agg 125 (.pair .byte .byte)))), (128, (.arr 128 (.int .u64))), (130, (.arr 130 .byte)), (142, (.arr 142 .byte)), (143, (.arr 143 .byte))]
/-- library/field.digits -/
noncomputable def F50 (a0 : List UInt8) : Option (Bool) :=
  bindO (fTrim a0 ([48, 49, 50, 51, 52, 53, 54, 55, 56, 57] : List UInt8)) fun y1 =>
  some (decide (y1 = ([] : List UInt8)))
def dc50 : DC :=
  (.seq (.reg [⟨none, (.mv (some 2) (.v (.bool false)))⟩])
  (.seq (.reg [⟨none, (.mv (some 3) (.t 0))⟩,
    ⟨none, (.ca (some 4) 67 [(.t 3), (.v (.str [48, 49, 50, 51, 52, 53, 54, 55, 56, 57]))])⟩,
    ⟨none, (.ar 5 .eql (.t 4) (.v (.str [])))⟩,
    ⟨none, (.mv (some 2) (.t 5))⟩])
  .ret))
noncomputable def ent50 : TEnt := ⟨50, [.str], .bool, fun x => F50 x, .plain⟩
theorem eq50 (x : dens ent50.as) : ent50.F x = evF [entTrim] SHF dc50 [(.tmp 2)] ent50.as ent50.rs x := by kernel_rfl
/-- library/field.coded -/
noncomputable def F68 (a0 : UInt8) : Option (Bool) :=
  cond (decide ((97 : Int) ≤ (UInt8.toNat a0 : Int)))
    (cond (decide ((UInt8.toNat a0 : Int) ≤ (122 : Int)))
      (some true)
      (cond (decide ((48 : Int) ≤ (UInt8.toNat a0 : Int)))
        (some (decide ((UInt8.toNat a0 : Int) ≤ (57 : Int))))
        (some false)))
    (cond (decide ((48 : Int) ≤ (UInt8.toNat a0 : Int)))
      (some (decide ((UInt8.toNat a0 : Int) ≤ (57 : Int))))
      (some false))
def dc68 : DC :=
  (.seq (.reg [⟨none, (.mv (some 2) (.v (.bool false)))⟩])
  (.seq (.reg [⟨none, (.mv (some 3) (.t 0))⟩,
    ⟨none, (.ar 4 .geq (.t 3) (.v (.int .u8 97)))⟩,
    ⟨none, (.mv (some 5) (.t 4))⟩,
    ⟨(some (5, true)), (.mv (some 6) (.t 0))⟩,
    ⟨(some (5, true)), (.ar 7 .leq (.t 6) (.v (.int .u8 122)))⟩,
    ⟨none, (.pick 8 (.t 5) (.t 7) (.v (.bool false)))⟩,
    ⟨none, (.mv (some 9) (.t 8))⟩,
    ⟨(some (9, false)), (.mv (some 10) (.t 0))⟩,
    ⟨(some (9, false)), (.ar 11 .geq (.t 10) (.v (.int .u8 48)))⟩,
    ⟨(some (9, false)), (.mv (some 12) (.t 11))⟩,
    ⟨(some (12, true)), (.mv (some 13) (.t 0))⟩,
    ⟨(some (12, true)), (.ar 14 .leq (.t 13) (.v (.int .u8 57)))⟩,
    ⟨(some (9, false)), (.pick 15 (.t 12) (.t 14) (.v (.bool false)))⟩,
    ⟨none, (.pick 16 (.t 9) (.v (.bool true)) (.t 15))⟩,
    ⟨none, (.mv (some 2) (.t 16))⟩])
  .ret))
noncomputable def ent68 : TEnt := ⟨68, [.byte], .bool, fun x => F68 x, .plain⟩
theorem eq68 (x : dens ent68.as) : ent68.F x = evF [] SHF dc68 [(.tmp 2)] ent68.as ent68.rs x := by kernel_rfl
/-- library/text.Valid -/
noncomputable def F69 (a0 : List UInt8) : Option (Bool) :=
  bindO (fVal a0) fun y1 =>
  cond (!y1)
    (some false)
    (loopK (σ := (List UInt8 × Nat)) (fun p2 againp2 =>
      cond (decide (p2.2 < List.length p2.1))
        (cond (decide ((((Utf8.decode ⟨List.toArray p2.1⟩ p2.2).1 : Nat) : Int) < (32 : Int)))
          (some false)
          (cond (decide ((127 : Int) ≤ (((Utf8.decode ⟨List.toArray p2.1⟩ p2.2).1 : Nat) : Int)))
            (cond (decide ((((Utf8.decode ⟨List.toArray p2.1⟩ p2.2).1 : Nat) : Int) ≤ (159 : Int)))
              (some false)
              (cond (decide ((65535 : Int) < (((Utf8.decode ⟨List.toArray p2.1⟩ p2.2).1 : Nat) : Int)))
                (some false)
                (againp2 (p2.1, (p2.2 + (Utf8.decode ⟨List.toArray p2.1⟩ p2.2).2)))))
            (cond (decide ((65535 : Int) < (((Utf8.decode ⟨List.toArray p2.1⟩ p2.2).1 : Nat) : Int)))
              (some false)
              (againp2 (p2.1, (p2.2 + (Utf8.decode ⟨List.toArray p2.1⟩ p2.2).2))))))
        (some true)) (a0, 0))
def dc69 : DC :=
  (.seq (.reg [⟨none, (.mv (some 2) (.v (.bool false)))⟩])
  (.seq (.seq (.reg [⟨none, (.mv (some 5) (.t 0))⟩,
    ⟨none, (.ca (some 6) 93 [(.t 5)])⟩,
    ⟨none, (.un 7 .not (.t 6))⟩])
  (.cond (.t 7)
    (.seq (.reg [⟨none, (.mv (some 2) (.v (.bool false)))⟩])
  .ret)
    .skip))
  (.seq (.seq (.reg [⟨none, (.mv (some 8) (.t 0))⟩,
    ⟨none, (.rg 9 (.t 8))⟩])
  (.block 0 (.loop ⟨[], [(9, .itc)], [2, 4, 10, 11, 12, 13, 14, 15, 16, 17, 18, 19, 20, 21, 22, 23, 24, 25, 26].map .s⟩ (.seq (.reg [⟨none, (.nx 10 (.t 9))⟩,
    ⟨none, (.ex 11 0 (.t 10))⟩])
  (.seq (.cond (.t 11)
    .skip
    (.exit 0))
  (.block 1 (.seq (.reg [⟨none, (.ex 12 2 (.t 10))⟩,
    ⟨none, (.mv (some 4) (.t 12))⟩])
  (.seq (.reg [⟨none, (.mv (some 13) (.t 4))⟩,
    ⟨none, (.ar 14 .lss (.t 13) (.v (.int .i32 32)))⟩,
    ⟨none, (.mv (some 15) (.t 14))⟩,
    ⟨(some (15, false)), (.mv (some 16) (.t 4))⟩,
    ⟨(some (15, false)), (.ar 17 .geq (.t 16) (.v (.int .i32 127)))⟩,
    ⟨(some (15, false)), (.mv (some 18) (.t 17))⟩,
    ⟨(some (18, true)), (.mv (some 19) (.t 4))⟩,
    ⟨(some (18, true)), (.ar 20 .leq (.t 19) (.v (.int .i32 159)))⟩,
    ⟨(some (15, false)), (.pick 21 (.t 18) (.t 20) (.v (.bool false)))⟩,
    ⟨none, (.pick 22 (.t 15) (.v (.bool true)) (.t 21))⟩,
    ⟨none, (.mv (some 23) (.t 22))⟩,
    ⟨(some (23, false)), (.mv (some 24) (.t 4))⟩,
    ⟨(some (23, false)), (.ar 25 .gtr (.t 24) (.v (.int .i32 65535)))⟩,
    ⟨none, (.pick 26 (.t 23) (.v (.bool true)) (.t 25))⟩])
  (.cond (.t 26)
    (.seq (.reg [⟨none, (.mv (some 2) (.v (.bool false)))⟩])
  .ret)
    .skip)))))))))
  (.seq (.reg [⟨none, (.mv (some 2) (.v (.bool true)))⟩])
  .ret))))
noncomputable def ent69 : TEnt := ⟨69, [.str], .bool, fun x => F69 x, .plain⟩
theorem eq69 (x : dens ent69.as) : ent69.F x = evF [entVal] SHF dc69 [(.tmp 2)] ent69.as ent69.rs x := by kernel_rfl
/-- library/field.checkSub -/
noncomputable def F51 (a0 : UInt8 × List UInt8) : Option (Int) :=
  bindO (F68 a0.1) fun y1 =>
  cond (!y1)
    (some (1 : Int))
    (cond (decide (a0.2 = ([] : List UInt8)))
      (some (8 : Int))
      (bindO (F69 a0.2) fun y2 =>
      cond (!y2)
        (some (3 : Int))
        (cond (decide ((200 : Int) < (List.length a0.2 : Int)))
          (some (4 : Int))
          (some (0 : Int)))))
def dc51 : DC :=
  (.seq (.reg [⟨none, (.bx 1 (some 46) (.t 0))⟩,
    ⟨none, (.mv (some 2) (.v (.int .i64 0)))⟩])
  (.seq (.block 0 (.seq (.reg [⟨none, (.fa 4 46 0 (.t 1))⟩,
    ⟨none, (.ld 5 none (.t 4))⟩,
    ⟨none, (.ca (some 6) 68 [(.t 5)])⟩,
    ⟨none, (.un 7 .not (.t 6))⟩,
    ⟨none, (.mv (some 3) (.t 7))⟩])
  (.cond (.t 3)
    (.seq (.reg [⟨none, (.mv (some 2) (.v (.int .i64 1)))⟩])
  .ret)
    (.seq (.reg [⟨none, (.fa 9 46 1 (.t 1))⟩,
    ⟨none, (.ld 10 none (.t 9))⟩,
    ⟨none, (.ar 11 .eql (.t 10) (.v (.str [])))⟩,
    ⟨none, (.mv (some 8) (.t 11))⟩])
  (.cond (.t 8)
    (.seq (.reg [⟨none, (.mv (some 2) (.v (.int .i64 8)))⟩])
  .ret)
    (.seq (.reg [⟨none, (.fa 13 46 1 (.t 1))⟩,
    ⟨none, (.ld 14 none (.t 13))⟩,
    ⟨none, (.ca (some 15) 69 [(.t 14)])⟩,
    ⟨none, (.un 16 .not (.t 15))⟩,
    ⟨none, (.mv (some 12) (.t 16))⟩])
  (.cond (.t 12)
    (.seq (.reg [⟨none, (.mv (some 2) (.v (.int .i64 3)))⟩])
  .ret)
    (.seq (.reg [⟨none, (.fa 18 46 1 (.t 1))⟩,
    ⟨none, (.ld 19 none (.t 18))⟩,
    ⟨none, (.ln 20 none (.t 19))⟩,
    ⟨none, (.ar 21 .gtr (.t 20) (.v (.int .i64 200)))⟩,
    ⟨none, (.mv (some 17) (.t 21))⟩])
  (.cond (.t 17)
    (.seq (.reg [⟨none, (.mv (some 2) (.v (.int .i64 4)))⟩])
  .ret)
    .skip)))))))))
  (.seq (.reg [⟨none, (.mv (some 2) (.v (.int .i64 0)))⟩])
  .ret)))
noncomputable def ent51 : TEnt := ⟨51, [(.agg 46 (.pair .byte .str))], (.int .i64), fun x => F51 x, .plain⟩
theorem eq51 (x : dens ent51.as) : ent51.F x = evF [ent68, ent69] SHF dc51 [(.tmp 2)] ent51.as ent51.rs x := by kernel_rfl
/-- library/field.Right -/
noncomputable def F26 (a0 : List UInt8 × List UInt8 × (List (UInt8 × List UInt8)) × Int) : Option (Int) :=
  jn (σ := Bool) (fun nextj1 =>
    cond (!decide ((List.length a0.1 : Int) = (3 : Int)))
      (nextj1 true)
      (bindO (F50 a0.1) fun y2 =>
      cond (!y2)
        (nextj1 true)
        (nextj1 (Op.bytesLess a0.1 ([48, 49, 48] : List UInt8))))) fun j1 =>
  cond (j1)
    (some (6 : Int))
    (jn (σ := Bool) (fun nextj3 =>
      cond (!decide ((List.length a0.2.1 : Int) = (2 : Int)))
        (nextj3 true)
        (bindO (fRepl a0.2.1 ([32] : List UInt8) ([48] : List UInt8)) fun y4 =>
        bindO (F50 y4) fun y5 =>
        nextj3 (!y5))) fun j3 =>
    cond (j3)
      (some (3 : Int))
      (cond (decide ((List.length a0.2.2.1 : Int) = (0 : Int)))
        (some (8 : Int))
        (cond (decide ((16 : Int) < (List.length a0.2.2.1 : Int)))
          (some (4 : Int))
          (loopK (σ := Int) (fun p6 againp6 =>
            cond (decide (p6 < (List.length a0.2.2.1 : Int)))
              (gd (0 ≤ p6 ∧ p6 < (List.length a0.2.2.1 : Int)) <|
              bindO (F51 (List.getD a0.2.2.1 (Int.toNat p6) (0, []))) fun y7 =>
              cond (!decide (y7 = (0 : Int)))
                (some y7)
                (bnd (IntKind.wrap .i64 (p6 + (1 : Int))) fun x8 =>
                againp6 x8))
              (cond (decide (a0.2.2.2 < (0 : Int)))
                (some (2 : Int))
                (cond (decide ((9999 : Int) < a0.2.2.2))
                  (some (2 : Int))
                  (some (0 : Int))))) (0 : Int)))))
def dc26 : DC :=
  (.seq (.reg [⟨none, (.bx 1 (some 24) (.t 0))⟩,
    ⟨none, (.mv (some 2) (.v (.int .i64 0)))⟩])
  (.seq (.block 0 (.jn ⟨[(6, (.lf .bool))], [], [7, 8, 9, 10, 11, 12, 13, 14, 15, 16, 17, 18, 19, 20, 21].map .s⟩ (.reg [⟨none, (.fa 7 24 0 (.t 1))⟩,
    ⟨none, (.ld 8 none (.t 7))⟩,
    ⟨none, (.ln 9 none (.t 8))⟩,
    ⟨none, (.ar 10 .neq (.t 9) (.v (.int .i64 3)))⟩,
    ⟨none, (.mv (some 11) (.t 10))⟩,
    ⟨(some (11, false)), (.fa 12 24 0 (.t 1))⟩,
    ⟨(some (11, false)), (.ld 13 none (.t 12))⟩,
    ⟨(some (11, false)), (.ca (some 14) 50 [(.t 13)])⟩,
    ⟨(some (11, false)), (.un 15 .not (.t 14))⟩,
    ⟨none, (.pick 16 (.t 11) (.v (.bool true)) (.t 15))⟩,
    ⟨none, (.mv (some 17) (.t 16))⟩,
    ⟨(some (17, false)), (.fa 18 24 0 (.t 1))⟩,
    ⟨(some (17, false)), (.ld 19 none (.t 18))⟩,
    ⟨(some (17, false)), (.ar 20 .lss (.t 19) (.v (.str [48, 49, 48])))⟩,
    ⟨none, (.pick 21 (.t 17) (.v (.bool true)) (.t 20))⟩,
    ⟨none, (.mv (some 6) (.t 21))⟩])
  (.cond (.t 6)
    (.seq (.reg [⟨none, (.mv (some 2) (.v (.int .i64 6)))⟩])
  .ret)
    (.jn ⟨[(22, (.lf .bool))], [], [23, 24, 25, 26, 27, 28, 29, 30, 31, 32, 33].map .s⟩ (.reg [⟨none, (.fa 23 24 1 (.t 1))⟩,
    ⟨none, (.ld 24 none (.t 23))⟩,
    ⟨none, (.ln 25 none (.t 24))⟩,
    ⟨none, (.ar 26 .neq (.t 25) (.v (.int .i64 2)))⟩,
    ⟨none, (.mv (some 27) (.t 26))⟩,
    ⟨(some (27, false)), (.fa 28 24 1 (.t 1))⟩,
    ⟨(some (27, false)), (.ld 29 none (.t 28))⟩,
    ⟨(some (27, false)), (.ca (some 30) 40 [(.t 29), (.v (.str [32])), (.v (.str [48]))])⟩,
    ⟨(some (27, false)), (.ca (some 31) 50 [(.t 30)])⟩,
    ⟨(some (27, false)), (.un 32 .not (.t 31))⟩,
    ⟨none, (.pick 33 (.t 27) (.v (.bool true)) (.t 32))⟩,
    ⟨none, (.mv (some 22) (.t 33))⟩])
  (.cond (.t 22)
    (.seq (.reg [⟨none, (.mv (some 2) (.v (.int .i64 3)))⟩])
  .ret)
    (.seq (.reg [⟨none, (.fa 35 24 2 (.t 1))⟩,
    ⟨none, (.ld 36 none (.t 35))⟩,
    ⟨none, (.ln 37 (some 46) (.t 36))⟩,
    ⟨none, (.ar 38 .eql (.t 37) (.v (.int .i64 0)))⟩,
    ⟨none, (.mv (some 34) (.t 38))⟩])
  (.cond (.t 34)
    (.seq (.reg [⟨none, (.mv (some 2) (.v (.int .i64 8)))⟩])
  .ret)
    (.seq (.reg [⟨none, (.fa 40 24 2 (.t 1))⟩,
    ⟨none, (.ld 41 none (.t 40))⟩,
    ⟨none, (.ln 42 (some 46) (.t 41))⟩,
    ⟨none, (.ar 43 .gtr (.t 42) (.v (.int .i64 16)))⟩,
    ⟨none, (.mv (some 39) (.t 43))⟩])
  (.cond (.t 39)
    (.seq (.reg [⟨none, (.mv (some 2) (.v (.int .i64 4)))⟩])
  .ret)
    .skip)))))))))
  (.seq (.seq (.reg [⟨none, (.fa 44 24 2 (.t 1))⟩,
    ⟨none, (.ld 45 none (.t 44))⟩,
    ⟨none, (.ln 46 (some 46) (.t 45))⟩,
    ⟨none, (.mv (some 47) (.v (.int .i64 0)))⟩])
  (.block 1 (.loop ⟨[(47, (.lf (.int .i64)))], [], [2, 4, 5, 48, 49, 50, 51, 52, 53, 54, 55, 56].map .s ++ [4].map .b⟩ (.seq (.reg [⟨none, (.ar 48 .lss (.t 47) (.t 46))⟩])
  (.seq (.cond (.t 48)
    .skip
    (.exit 1))
  (.seq (.block 2 (.seq (.reg [⟨none, (.ea 49 46 (.t 45) (.t 47))⟩,
    ⟨none, (.ld 50 (some 46) (.t 49))⟩,
    ⟨none, (.al 4 (.agg 46 [(.int .u8 0), (.str [])]))⟩,
    ⟨none, (.st (some 46) (.t 4) (.t 50))⟩])
  (.seq (.reg [⟨none, (.ld 51 (some 46) (.t 4))⟩,
    ⟨none, (.ca (some 52) 51 [(.t 51)])⟩,
    ⟨none, (.mv (some 5) (.t 52))⟩])
  (.seq (.reg [⟨none, (.mv (some 53) (.t 5))⟩,
    ⟨none, (.ar 54 .neq (.t 53) (.v (.int .i64 0)))⟩])
  (.cond (.t 54)
    (.seq (.reg [⟨none, (.mv (some 55) (.t 5))⟩,
    ⟨none, (.mv (some 2) (.t 55))⟩])
  .ret)
    .skip)))))
  (.reg [⟨none, (.ar 56 .add (.t 47) (.v (.int .i64 1)))⟩,
    ⟨none, (.mv (some 47) (.t 56))⟩])))))))
  (.seq (.seq (.reg [⟨none, (.fa 57 24 3 (.t 1))⟩,
    ⟨none, (.ld 58 none (.t 57))⟩,
    ⟨none, (.ar 59 .lss (.t 58) (.v (.int .i64 0)))⟩,
    ⟨none, (.mv (some 60) (.t 59))⟩,
    ⟨(some (60, false)), (.fa 61 24 3 (.t 1))⟩,
    ⟨(some (60, false)), (.ld 62 none (.t 61))⟩,
    ⟨(some (60, false)), (.ar 63 .gtr (.t 62) (.v (.int .i64 9999)))⟩,
    ⟨none, (.pick 64 (.t 60) (.v (.bool true)) (.t 63))⟩])
  (.cond (.t 64)
    (.seq (.reg [⟨none, (.mv (some 2) (.v (.int .i64 2)))⟩])
  .ret)
    .skip))
  (.seq (.reg [⟨none, (.mv (some 2) (.v (.int .i64 0)))⟩])
  .ret)))))
noncomputable def ent26 : TEnt := ⟨26, [(.agg 24 (.pair .str (.pair .str (.pair (.sl 46 (.agg 46 (.pair .byte .str))) (.int .i64)))))], (.int .i64), fun x => F26 x, .plain⟩
theorem eq26 (x : dens ent26.as) : ent26.F x = evF [entRepl, ent50, ent51] SHF dc26 [(.tmp 2)] ent26.as ent26.rs x := by kernel_rfl
/-- slices.Equal[[]library/api.Sub,library/api.Sub] -/
noncomputable def F56 (a0 : List (UInt8 × List UInt8)) (a1 : List (UInt8 × List UInt8)) : Option (Bool) :=
  cond (!decide ((List.length a0 : Int) = (List.length a1 : Int)))
    (some false)
    (loopK (σ := Int) (fun p1 againp1 =>
      cond (decide (p1 < (List.length a0 : Int)))
        (gd (0 ≤ p1 ∧ p1 < (List.length a0 : Int)) <|
        gd (0 ≤ p1 ∧ p1 < (List.length a1 : Int)) <|
        cond (!(decide ((UInt8.toNat ((List.getD a0 (Int.toNat p1) (0, [])).1) : Int) = (UInt8.toNat ((List.getD a1 (Int.toNat p1) (0, [])).1) : Int)) && (decide ((List.getD a0 (Int.toNat p1) (0, [])).2 = (List.getD a1 (Int.toNat p1) (0, [])).2) && true)))
          (some false)
          (bnd (IntKind.wrap .i64 (p1 + (1 : Int))) fun x2 =>
          againp1 x2))
        (some true)) (0 : Int))
def dc56 : DC :=
  (.seq (.reg [⟨none, (.mv (some 4) (.v (.bool false)))⟩])
  (.seq (.seq (.reg [⟨none, (.mv (some 6) (.t 0))⟩,
    ⟨none, (.ln 7 (some 46) (.t 6))⟩,
    ⟨none, (.mv (some 8) (.t 1))⟩,
    ⟨none, (.ln 9 (some 46) (.t 8))⟩,
    ⟨none, (.ar 10 .neq (.t 7) (.t 9))⟩])
  (.cond (.t 10)
    (.seq (.reg [⟨none, (.mv (some 4) (.v (.bool false)))⟩])
  .ret)
    .skip))
  (.seq (.seq (.reg [⟨none, (.mv (some 11) (.t 0))⟩,
    ⟨none, (.ln 12 (some 46) (.t 11))⟩,
    ⟨none, (.mv (some 13) (.v (.int .i64 0)))⟩])
  (.block 0 (.loop ⟨[(13, (.lf (.int .i64)))], [], [4, 5, 14, 15, 16, 17, 18, 19, 20, 21, 22, 23, 24, 25].map .s⟩ (.seq (.reg [⟨none, (.ar 14 .lss (.t 13) (.t 12))⟩])
  (.seq (.cond (.t 14)
    .skip
    (.exit 0))
  (.seq (.block 1 (.seq (.reg [⟨none, (.mv (some 15) (.t 13))⟩,
    ⟨none, (.mv (some 5) (.t 15))⟩])
  (.seq (.reg [⟨none, (.mv (some 16) (.t 0))⟩,
    ⟨none, (.mv (some 17) (.t 5))⟩,
    ⟨none, (.ea 18 46 (.t 16) (.t 17))⟩,
    ⟨none, (.ld 19 (some 46) (.t 18))⟩,
    ⟨none, (.mv (some 20) (.t 1))⟩,
    ⟨none, (.mv (some 21) (.t 5))⟩,
    ⟨none, (.ea 22 46 (.t 20) (.t 21))⟩,
    ⟨none, (.ld 23 (some 46) (.t 22))⟩,
    ⟨none, (.se 24 (.st [1, 2]) true (.t 19) (.t 23))⟩])
  (.cond (.t 24)
    (.seq (.reg [⟨none, (.mv (some 4) (.v (.bool false)))⟩])
  .ret)
    .skip))))
  (.reg [⟨none, (.ar 25 .add (.t 13) (.v (.int .i64 1)))⟩,
    ⟨none, (.mv (some 13) (.t 25))⟩])))))))
  (.seq (.reg [⟨none, (.mv (some 4) (.v (.bool true)))⟩])
  .ret))))
noncomputable def ent56 : TEnt := ⟨56, [(.sl 46 (.agg 46 (.pair .byte .str))), (.sl 46 (.agg 46 (.pair .byte .str)))], .bool, fun x => F56 x.1 x.2, .plain⟩
theorem eq56 (x : dens ent56.as) : ent56.F x = evF [] SHF dc56 [(.tmp 4)] ent56.as ent56.rs x := by kernel_rfl
/-- library/field.Same -/
noncomputable def F28 (a0 : List UInt8 × List UInt8 × (List (UInt8 × List UInt8)) × Int) (a1 : List UInt8 × List UInt8 × (List (UInt8 × List UInt8)) × Int) : Option (Bool) :=
  cond (decide (a0.1 = a1.1))
    (cond (decide (a0.2.1 = a1.2.1))
      (cond (decide (a0.2.2.2 = a1.2.2.2))
        (bindO (F56 a0.2.2.1 a1.2.2.1) fun y1 =>
        some y1)
        (some false))
      (some false))
    (some false)
def dc28 : DC :=
  (.seq (.reg [⟨none, (.bx 2 (some 24) (.t 0))⟩,
    ⟨none, (.bx 3 (some 24) (.t 1))⟩,
    ⟨none, (.mv (some 4) (.v (.bool false)))⟩])
  (.seq (.reg [⟨none, (.fa 5 24 0 (.t 2))⟩,
    ⟨none, (.ld 6 none (.t 5))⟩,
    ⟨none, (.fa 7 24 0 (.t 3))⟩,
    ⟨none, (.ld 8 none (.t 7))⟩,
    ⟨none, (.ar 9 .eql (.t 6) (.t 8))⟩,
    ⟨none, (.mv (some 10) (.t 9))⟩,
    ⟨(some (10, true)), (.fa 11 24 1 (.t 2))⟩,
    ⟨(some (10, true)), (.ld 12 none (.t 11))⟩,
    ⟨(some (10, true)), (.fa 13 24 1 (.t 3))⟩,
    ⟨(some (10, true)), (.ld 14 none (.t 13))⟩,
    ⟨(some (10, true)), (.ar 15 .eql (.t 12) (.t 14))⟩,
    ⟨none, (.pick 16 (.t 10) (.t 15) (.v (.bool false)))⟩,
    ⟨none, (.mv (some 17) (.t 16))⟩,
    ⟨(some (17, true)), (.fa 18 24 3 (.t 2))⟩,
    ⟨(some (17, true)), (.ld 19 none (.t 18))⟩,
    ⟨(some (17, true)), (.fa 20 24 3 (.t 3))⟩,
    ⟨(some (17, true)), (.ld 21 none (.t 20))⟩,
    ⟨(some (17, true)), (.ar 22 .eql (.t 19) (.t 21))⟩,
    ⟨none, (.pick 23 (.t 17) (.t 22) (.v (.bool false)))⟩,
    ⟨none, (.mv (some 24) (.t 23))⟩,
    ⟨(some (24, true)), (.fa 25 24 2 (.t 2))⟩,
    ⟨(some (24, true)), (.ld 26 none (.t 25))⟩,
    ⟨(some (24, true)), (.fa 27 24 2 (.t 3))⟩,
    ⟨(some (24, true)), (.ld 28 none (.t 27))⟩,
    ⟨(some (24, true)), (.ca (some 29) 56 [(.t 26), (.t 28)])⟩,
    ⟨none, (.pick 30 (.t 24) (.t 29) (.v (.bool false)))⟩,
    ⟨none, (.mv (some 4) (.t 30))⟩])
  .ret))
noncomputable def ent28 : TEnt := ⟨28, [(.agg 24 (.pair .str (.pair .str (.pair (.sl 46 (.agg 46 (.pair .byte .str))) (.int .i64))))), (.agg 24 (.pair .str (.pair .str (.pair (.sl 46 (.agg 46 (.pair .byte .str))) (.int .i64)))))], .bool, fun x => F28 x.1 x.2, .plain⟩
theorem eq28 (x : dens ent28.as) : ent28.F x = evF [ent56] SHF dc28 [(.tmp 4)] ent28.as ent28.rs x := by kernel_rfl
/-- library/field.Get$1 -/
noncomputable def F30 (a0 : UInt8 × List UInt8) (a1 : UInt8) : Option (Bool) :=
  some (decide ((UInt8.toNat a0.1 : Int) = (UInt8.toNat a1 : Int)))
def dc30 : DC :=
  (.seq (.reg [⟨none, (.bx 2 (some 46) (.t 0))⟩,
    ⟨none, (.mv (some 3) (.v (.bool false)))⟩])
  (.seq (.reg [⟨none, (.fa 4 46 0 (.t 2))⟩,
    ⟨none, (.ld 5 none (.t 4))⟩,
    ⟨none, (.ld 6 none (.t 1))⟩,
    ⟨none, (.ar 7 .eql (.t 5) (.t 6))⟩,
    ⟨none, (.mv (some 3) (.t 7))⟩])
  .ret))
noncomputable def ent30 : TEnt := ⟨30, [(.agg 46 (.pair .byte .str)), (.rp .byte)], .bool, fun x => F30 x.1 x.2, .plain⟩
theorem eq30 (x : dens ent30.as) : ent30.F x = evF [] SHF dc30 [(.tmp 3)] ent30.as ent30.rs x := by kernel_rfl
/-- slices.IndexFunc[[]library/api.Sub,library/api.Sub] -/
noncomputable def F29 (a0 : List (UInt8 × List UInt8)) (a1 : UInt8 × Unit) : Option (Int) :=
  loopK (σ := Int) (fun p1 againp1 =>
    cond (decide (p1 < (List.length a0 : Int)))
      (gd (0 ≤ p1 ∧ p1 < (List.length a0 : Int)) <|
      bindO (F30 (List.getD a0 (Int.toNat p1) (0, [])) a1.1) fun y2 =>
      cond (y2)
        (some p1)
        (bnd (IntKind.wrap .i64 (p1 + (1 : Int))) fun x3 =>
        againp1 x3))
      (some (-1 : Int))) (0 : Int)
def dc29 : DC :=
  (.seq (.reg [⟨none, (.mv (some 4) (.v (.int .i64 0)))⟩])
  (.seq (.seq (.reg [⟨none, (.mv (some 6) (.t 0))⟩,
    ⟨none, (.ln 7 (some 46) (.t 6))⟩,
    ⟨none, (.mv (some 8) (.v (.int .i64 0)))⟩])
  (.block 0 (.loop ⟨[(8, (.lf (.int .i64)))], [], [4, 5, 9, 10, 11, 12, 13, 14, 15, 16, 17, 18].map .s⟩ (.seq (.reg [⟨none, (.ar 9 .lss (.t 8) (.t 7))⟩])
  (.seq (.cond (.t 9)
    .skip
    (.exit 0))
  (.seq (.block 1 (.seq (.reg [⟨none, (.mv (some 10) (.t 8))⟩,
    ⟨none, (.mv (some 5) (.t 10))⟩])
  (.seq (.reg [⟨none, (.mv (some 11) (.t 1))⟩,
    ⟨none, (.mv (some 12) (.t 0))⟩,
    ⟨none, (.mv (some 13) (.t 5))⟩,
    ⟨none, (.ea 14 46 (.t 12) (.t 13))⟩,
    ⟨none, (.ld 15 (some 46) (.t 14))⟩,
    ⟨none, (.cd (some 16) (.t 11) [(.t 15)])⟩])
  (.cond (.t 16)
    (.seq (.reg [⟨none, (.mv (some 17) (.t 5))⟩,
    ⟨none, (.mv (some 4) (.t 17))⟩])
  .ret)
    .skip))))
  (.reg [⟨none, (.ar 18 .add (.t 8) (.v (.int .i64 1)))⟩,
    ⟨none, (.mv (some 8) (.t 18))⟩])))))))
  (.seq (.reg [⟨none, (.mv (some 4) (.v (.int .i64 (-1))))⟩])
  .ret)))
noncomputable def ent29 : TEnt := ⟨29, [(.sl 46 (.agg 46 (.pair .byte .str))), (.fn 30 (.pair (.rp .byte) .unit))], (.int .i64), fun x => F29 x.1 x.2, .plain⟩
theorem eq29 (x : dens ent29.as) : ent29.F x = evF [ent30] SHF dc29 [(.tmp 4)] ent29.as ent29.rs x := by kernel_rfl
/-- library/field.Get -/
noncomputable def F12 (a0 : List UInt8 × List UInt8 × (List (UInt8 × List UInt8)) × Int) (a1 : UInt8) : Option (List UInt8 × Bool) :=
  bindO (F29 a0.2.2.1 (a1, ())) fun y1 =>
  cond (decide (y1 < (0 : Int)))
    (some (([] : List UInt8), false))
    (gd (0 ≤ y1 ∧ y1 < (List.length a0.2.2.1 : Int)) <|
    some ((List.getD a0.2.2.1 (Int.toNat y1) (0, [])).2, true))
def dc12 : DC :=
  (.seq (.reg [⟨none, (.bx 2 (some 24) (.t 0))⟩,
    ⟨none, (.bx 3 none (.t 1))⟩,
    ⟨none, (.mv (some 4) (.v (.str [])))⟩,
    ⟨none, (.mv (some 5) (.v (.bool false)))⟩])
  (.seq (.seq (.gh 3 [])
  (.reg [⟨none, (.fa 7 24 2 (.t 2))⟩,
    ⟨none, (.ld 8 none (.t 7))⟩,
    ⟨none, (.mf 9 30 [(.t 3)])⟩,
    ⟨none, (.ca (some 10) 29 [(.t 8), (.t 9)])⟩,
    ⟨none, (.mv (some 6) (.t 10))⟩]))
  (.seq (.seq (.reg [⟨none, (.mv (some 11) (.t 6))⟩,
    ⟨none, (.ar 12 .lss (.t 11) (.v (.int .i64 0)))⟩])
  (.cond (.t 12)
    (.seq (.reg [⟨none, (.mv (some 4) (.v (.str [])))⟩,
    ⟨none, (.mv (some 5) (.v (.bool false)))⟩])
  .ret)
    .skip))
  (.seq (.reg [⟨none, (.fa 13 24 2 (.t 2))⟩,
    ⟨none, (.ld 14 none (.t 13))⟩,
    ⟨none, (.mv (some 15) (.t 6))⟩,
    ⟨none, (.ea 16 46 (.t 14) (.t 15))⟩,
    ⟨none, (.fa 17 46 1 (.t 16))⟩,
    ⟨none, (.ld 18 none (.t 17))⟩,
    ⟨none, (.mv (some 4) (.t 18))⟩,
    ⟨none, (.mv (some 5) (.v (.bool true)))⟩])
  .ret))))
noncomputable def ent12 : TEnt := ⟨12, [(.agg 24 (.pair .str (.pair .str (.pair (.sl 46 (.agg 46 (.pair .byte .str))) (.int .i64))))), .byte], (.tup (.pair .str .bool)), fun x => F12 x.1 x.2, .plain⟩
theorem eq12 (x : dens ent12.as) : ent12.F x = evF [ent29] SHF dc12 [(.tmp 4), (.tmp 5)] ent12.as ent12.rs x := by kernel_rfl
/-- library/field.All -/
noncomputable def F15 (a0 : List UInt8 × List UInt8 × (List (UInt8 × List UInt8)) × Int) (a1 : List UInt8) : Option (List (List UInt8)) :=
  gdN (List.length ([] : List (List UInt8))) (List.length ([] : List (List UInt8))) <|
  loopK (σ := List (List UInt8) × Int) (fun p1 againp1 =>
    cond (decide (p1.2 < (List.length a0.2.2.1 : Int)))
      (gd (0 ≤ p1.2 ∧ p1.2 < (List.length a0.2.2.1 : Int)) <|
      jn (σ := Bool) (fun nextj2 =>
        cond (decide (a1 = ([] : List UInt8)))
          (nextj2 true)
          (bindO (fIdxB a1 ((List.getD a0.2.2.1 (Int.toNat p1.2) (0, [])).1)) fun y3 =>
          nextj2 (decide ((0 : Int) ≤ y3)))) fun j2 =>
      cond (j2)
        (gdN (List.length p1.1) (List.length p1.1) <|
        gd (List.length p1.1 + List.length [(List.getD a0.2.2.1 (Int.toNat p1.2) (0, [])).2] ≤ big) <|
        bnd (p1.1 ++ [(List.getD a0.2.2.1 (Int.toNat p1.2) (0, [])).2]) fun l4 =>
        bnd (IntKind.wrap .i64 (p1.2 + (1 : Int))) fun x5 =>
        gdN (List.length l4) (List.length l4) <|
        againp1 (l4, x5))
        (bnd (IntKind.wrap .i64 (p1.2 + (1 : Int))) fun x6 =>
        gdN (List.length p1.1) (List.length p1.1) <|
        againp1 (p1.1, x6)))
      (some p1.1)) (([] : List (List UInt8)), (0 : Int))
def dc15 : DC :=
  (.seq (.reg [⟨none, (.bx 2 (some 24) (.t 0))⟩,
    ⟨none, (.nl 4 9)⟩])
  (.seq (.reg [⟨none, (.nl 5 9)⟩])
  (.seq (.seq (.reg [⟨none, (.fa 8 24 2 (.t 2))⟩,
    ⟨none, (.ld 9 none (.t 8))⟩,
    ⟨none, (.ln 10 (some 46) (.t 9))⟩,
    ⟨none, (.mv (some 11) (.v (.int .i64 0)))⟩])
  (.block 0 (.loop ⟨[(5, (.row 5 9 .str)), (11, (.lf (.int .i64)))], [], [7, 12, 13, 14, 15, 16, 17, 18, 19, 20, 21, 22, 23, 24, 25, 26, 27, 28, 29].map .s ++ [7].map .b ++ [27].map .f⟩ (.seq (.reg [⟨none, (.ar 12 .lss (.t 11) (.t 10))⟩])
  (.seq (.cond (.t 12)
    .skip
    (.exit 0))
  (.seq (.block 1 (.seq (.reg [⟨none, (.ea 13 46 (.t 9) (.t 11))⟩,
    ⟨none, (.ld 14 (some 46) (.t 13))⟩,
    ⟨none, (.al 7 (.agg 46 [(.int .u8 0), (.str [])]))⟩,
    ⟨none, (.st (some 46) (.t 7) (.t 14))⟩])
  (.jn ⟨[(23, (.lf .bool))], [], [15, 16, 17, 18, 19, 20, 21, 22].map .s⟩ (.reg [⟨none, (.mv (some 15) (.t 1))⟩,
    ⟨none, (.ar 16 .eql (.t 15) (.v (.str [])))⟩,
    ⟨none, (.mv (some 17) (.t 16))⟩,
    ⟨(some (17, false)), (.mv (some 18) (.t 1))⟩,
    ⟨(some (17, false)), (.fa 19 46 0 (.t 7))⟩,
    ⟨(some (17, false)), (.ld 20 none (.t 19))⟩,
    ⟨(some (17, false)), (.ca (some 21) 31 [(.t 18), (.t 20)])⟩,
    ⟨(some (17, false)), (.ar 22 .geq (.t 21) (.v (.int .i64 0)))⟩,
    ⟨none, (.pick 23 (.t 17) (.v (.bool true)) (.t 22))⟩])
  (.cond (.t 23)
    (.reg [⟨none, (.mv (some 24) (.t 5))⟩,
    ⟨none, (.fa 25 46 1 (.t 7))⟩,
    ⟨none, (.ld 26 none (.t 25))⟩,
    ⟨none, (.bs 27 9 none [(.t 26)])⟩,
    ⟨none, (.ap 28 9 (.t 24) (.t 27))⟩,
    ⟨none, (.mv (some 5) (.t 28))⟩])
    .skip))))
  (.reg [⟨none, (.ar 29 .add (.t 11) (.v (.int .i64 1)))⟩,
    ⟨none, (.mv (some 11) (.t 29))⟩])))))))
  (.seq (.reg [⟨none, (.mv (some 30) (.t 5))⟩,
    ⟨none, (.mv (some 4) (.t 30))⟩])
  .ret))))
noncomputable def ent15 : TEnt := ⟨15, [(.agg 24 (.pair .str (.pair .str (.pair (.sl 46 (.agg 46 (.pair .byte .str))) (.int .i64))))), .str], (.sl 9 .str), fun x => F15 x.1 x.2, .plain⟩
theorem eq15 (x : dens ent15.as) : ent15.F x = evF [entIdxB] SHF dc15 [(.tmp 4)] ent15.as ent15.rs x := by kernel_rfl
/-- library/field.Plain -/
noncomputable def F17 (a0 : List UInt8 × List UInt8 × (List (UInt8 × List UInt8)) × Int) (a1 : List UInt8) : Option (List UInt8) :=
  bindO (F15 a0 a1) fun y1 =>
  bindO (fJoin y1 ([32] : List UInt8)) fun y2 =>
  some y2
def dc17 : DC :=
  (.seq (.reg [⟨none, (.bx 2 (some 24) (.t 0))⟩,
    ⟨none, (.mv (some 4) (.v (.str [])))⟩])
  (.seq (.reg [⟨none, (.ld 5 (some 24) (.t 2))⟩,
    ⟨none, (.mv (some 6) (.t 1))⟩,
    ⟨none, (.ca (some 7) 15 [(.t 5), (.t 6)])⟩,
    ⟨none, (.ca (some 8) 33 [(.t 7), (.v (.str [32]))])⟩,
    ⟨none, (.mv (some 4) (.t 8))⟩])
  .ret))
noncomputable def ent17 : TEnt := ⟨17, [(.agg 24 (.pair .str (.pair .str (.pair (.sl 46 (.agg 46 (.pair .byte .str))) (.int .i64))))), .str], .str, fun x => F17 x.1 x.2, .plain⟩
theorem eq17 (x : dens ent17.as) : ent17.F x = evF [ent15, entJoin] SHF dc17 [(.tmp 4)] ent17.as ent17.rs x := by kernel_rfl
/-- library/field.Print -/
noncomputable def F22 (a0 : List UInt8 × List UInt8 × (List (UInt8 × List UInt8)) × Int) : Option (List UInt8 × Int) :=
  bindO (F26 a0) fun y1 =>
  cond (!decide (y1 = (0 : Int)))
    (some (([] : List UInt8), y1))
    (gdN (0) (List.length ([] : List UInt8)) <|
    gd (List.length ([] : List UInt8) + List.length a0.1 ≤ big) <|
    bnd (([] : List UInt8) ++ a0.1) fun b2 =>
    jn (σ := List UInt8) (fun nextj3 =>
      cond (!decide (a0.2.2.2 = (0 : Int)))
        (bindO (fItoa a0.2.2.2) fun y4 =>
        gd (List.length ([64] : List UInt8) + List.length y4 ≤ big) <|
        bnd (([64] : List UInt8) ++ y4) fun x5 =>
        gdN (List.length b2) (List.length b2) <|
        gd (List.length b2 + List.length x5 ≤ big) <|
        bnd (b2 ++ x5) fun b6 =>
        gdN (List.length b6) (List.length b6) <|
        nextj3 b6)
        (gdN (List.length b2) (List.length b2) <|
        nextj3 b2)) fun j3 =>
    bindO (fRepl a0.2.1 ([32] : List UInt8) ([35] : List UInt8)) fun y7 =>
    gd (List.length ([32] : List UInt8) + List.length y7 ≤ big) <|
    bnd (([32] : List UInt8) ++ y7) fun x8 =>
    gd (List.length x8 + List.length ([32] : List UInt8) ≤ big) <|
    bnd (x8 ++ ([32] : List UInt8)) fun x9 =>
    gdN (List.length j3) (List.length j3) <|
    gd (List.length j3 + List.length x9 ≤ big) <|
    bnd (j3 ++ x9) fun b10 =>
    gdN (List.length b10) (List.length b10) <|
    loopK (σ := Int × List UInt8) (fun p11 againp11 =>
      cond (decide (p11.1 < (List.length a0.2.2.1 : Int)))
        (gd (0 ≤ p11.1 ∧ p11.1 < (List.length a0.2.2.1 : Int)) <|
        gdN (List.length p11.2) (List.length p11.2) <|
        gd ((0 : Int) ≤ (36 : Int) ∧ (36 : Int) < (256 : Int)) <|
        gd (List.length p11.2 + 1 ≤ big) <|
        bnd (p11.2 ++ [UInt8.ofNat (Int.toNat (36 : Int))]) fun b12 =>
        gdN (List.length b12) (List.length b12) <|
        gd (List.length b12 + 1 ≤ big) <|
        bnd (b12 ++ [(List.getD a0.2.2.1 (Int.toNat p11.1) (0, [])).1]) fun b13 =>
        bindO (fRepl ((List.getD a0.2.2.1 (Int.toNat p11.1) (0, [])).2) ([36] : List UInt8) ([36, 36] : List UInt8)) fun y14 =>
        gdN (List.length b13) (List.length b13) <|
        gd (List.length b13 + List.length y14 ≤ big) <|
        bnd (b13 ++ y14) fun b15 =>
        bnd (IntKind.wrap .i64 (p11.1 + (1 : Int))) fun x16 =>
        gdN (List.length b15) (List.length b15) <|
        againp11 (x16, b15))
        (gdN (List.length p11.2) (List.length p11.2) <|
        some (p11.2, (0 : Int)))) ((0 : Int), b10))
def dc22 : DC :=
  (.seq (.reg [⟨none, (.bx 1 (some 24) (.t 0))⟩,
    ⟨none, (.mv (some 2) (.v (.str [])))⟩,
    ⟨none, (.mv (some 3) (.v (.int .i64 0)))⟩])
  (.seq (.seq (.reg [⟨none, (.ld 8 (some 24) (.t 1))⟩,
    ⟨none, (.ca (some 9) 26 [(.t 8)])⟩,
    ⟨none, (.mv (some 4) (.t 9))⟩])
  (.seq (.reg [⟨none, (.mv (some 10) (.t 4))⟩,
    ⟨none, (.ar 11 .neq (.t 10) (.v (.int .i64 0)))⟩])
  (.cond (.t 11)
    (.seq (.reg [⟨none, (.mv (some 12) (.t 4))⟩,
    ⟨none, (.mv (some 2) (.v (.str [])))⟩,
    ⟨none, (.mv (some 3) (.t 12))⟩])
  .ret)
    .skip)))
  (.seq (.reg [⟨none, (.ab 5 56 5)⟩])
  (.seq (.reg [⟨none, (.fa 13 24 0 (.t 1))⟩,
    ⟨none, (.ld 14 none (.t 13))⟩,
    ⟨none, (.cw (some 15) 38 .wstr [(.t 5), (.t 14)])⟩])
  (.jn ⟨[], [(5, (.bld 3000005 56 5))], [16, 17, 18, 19, 20, 21, 22, 23].map .s⟩ (.seq (.reg [⟨none, (.fa 16 24 3 (.t 1))⟩,
    ⟨none, (.ld 17 none (.t 16))⟩,
    ⟨none, (.ar 18 .neq (.t 17) (.v (.int .i64 0)))⟩])
  (.cond (.t 18)
    (.reg [⟨none, (.fa 19 24 3 (.t 1))⟩,
    ⟨none, (.ld 20 none (.t 19))⟩,
    ⟨none, (.ca (some 21) 39 [(.t 20)])⟩,
    ⟨none, (.ar 22 .add (.v (.str [64])) (.t 21))⟩,
    ⟨none, (.cw (some 23) 38 .wstr [(.t 5), (.t 22)])⟩])
    .skip))
  (.seq (.reg [⟨none, (.fa 24 24 1 (.t 1))⟩,
    ⟨none, (.ld 25 none (.t 24))⟩,
    ⟨none, (.ca (some 26) 40 [(.t 25), (.v (.str [32])), (.v (.str [35]))])⟩,
    ⟨none, (.ar 27 .add (.v (.str [32])) (.t 26))⟩,
    ⟨none, (.ar 28 .add (.t 27) (.v (.str [32])))⟩,
    ⟨none, (.cw (some 29) 38 .wstr [(.t 5), (.t 28)])⟩])
  (.seq (.seq (.reg [⟨none, (.fa 30 24 2 (.t 1))⟩,
    ⟨none, (.ld 31 none (.t 30))⟩,
    ⟨none, (.ln 32 (some 46) (.t 31))⟩,
    ⟨none, (.mv (some 33) (.v (.int .i64 0)))⟩])
  (.block 0 (.loop ⟨[(33, (.lf (.int .i64)))], [(5, (.bld 3000005 56 5))], [7, 34, 35, 36, 37, 38, 39, 40, 41, 42, 43, 44, 45].map .s ++ [7].map .b⟩ (.seq (.reg [⟨none, (.ar 34 .lss (.t 33) (.t 32))⟩])
  (.seq (.cond (.t 34)
    .skip
    (.exit 0))
  (.seq (.block 1 (.seq (.reg [⟨none, (.ea 35 46 (.t 31) (.t 33))⟩,
    ⟨none, (.ld 36 (some 46) (.t 35))⟩,
    ⟨none, (.al 7 (.agg 46 [(.int .u8 0), (.str [])]))⟩,
    ⟨none, (.st (some 46) (.t 7) (.t 36))⟩])
  (.seq (.reg [⟨none, (.cw (some 37) 41 .wbyte [(.t 5), (.v (.int .u8 36))])⟩])
  (.seq (.reg [⟨none, (.fa 38 46 0 (.t 7))⟩,
    ⟨none, (.ld 39 none (.t 38))⟩,
    ⟨none, (.cw (some 40) 41 .wbyte [(.t 5), (.t 39)])⟩])
  (.reg [⟨none, (.fa 41 46 1 (.t 7))⟩,
    ⟨none, (.ld 42 none (.t 41))⟩,
    ⟨none, (.ca (some 43) 40 [(.t 42), (.v (.str [36])), (.v (.str [36, 36]))])⟩,
    ⟨none, (.cw (some 44) 38 .wstr [(.t 5), (.t 43)])⟩])))))
  (.reg [⟨none, (.ar 45 .add (.t 33) (.v (.int .i64 1)))⟩,
    ⟨none, (.mv (some 33) (.t 45))⟩])))))))
  (.seq (.reg [⟨none, (.cw (some 46) 42 .str [(.t 5)])⟩,
    ⟨none, (.mv (some 2) (.t 46))⟩,
    ⟨none, (.mv (some 3) (.v (.int .i64 0)))⟩])
  .ret))))))))
noncomputable def ent22 : TEnt := ⟨22, [(.agg 24 (.pair .str (.pair .str (.pair (.sl 46 (.agg 46 (.pair .byte .str))) (.int .i64)))))], (.tup (.pair .str (.int .i64))), fun x => F22 x, .plain⟩
theorem eq22 (x : dens ent22.as) : ent22.F x = evF [ent26, entWriteString, entItoa, entRepl, entWriteByte, entString] SHF dc22 [(.tmp 2), (.tmp 3)] ent22.as ent22.rs x := by kernel_rfl
/-- library/field.subs -/
noncomputable def F48 (a0 : List UInt8) : Option (List (UInt8 × List UInt8)) :=
  gdN (List.length ([] : List (UInt8 × List UInt8))) (List.length ([] : List (UInt8 × List UInt8))) <|
  loopK (σ := List UInt8 × List (UInt8 × List UInt8)) (fun p1 againp1 =>
    cond (decide ((1 : Int) < (List.length p1.1 : Int)))
      (gd (0 ≤ (0 : Int) ∧ (0 : Int) < (List.length p1.1 : Int)) <|
      cond (decide ((UInt8.toNat (List.getD p1.1 (Int.toNat (0 : Int)) 0) : Int) = (36 : Int)))
        (gd (0 ≤ (1 : Int) ∧ (1 : Int) < (List.length p1.1 : Int)) <|
        gd (0 ≤ (2 : Int) ∧ (2 : Int) ≤ (List.length p1.1 : Int)) <|
        bnd (List.drop (Int.toNat (2 : Int)) p1.1) fun x2 =>
        jn (σ := List UInt8 × List UInt8) (fun nextj3 =>
          gdN (0) (List.length ([] : List UInt8)) <|
          loopK (σ := List UInt8 × List UInt8) (fun p4 againp4 =>
            jn (σ := List UInt8 × UInt8 × Bool × Bool × Bool) (fun nextj5 =>
              cond (!decide (p4.1 = ([] : List UInt8)))
                (gd (0 ≤ (0 : Int) ∧ (0 : Int) < (List.length p4.1 : Int)) <|
                cond (!decide ((UInt8.toNat (List.getD p4.1 (Int.toNat (0 : Int)) 0) : Int) = (36 : Int)))
                  (nextj5 (p4.1, (List.getD p4.1 (Int.toNat (0 : Int)) 0), !decide ((UInt8.toNat (List.getD p4.1 (Int.toNat (0 : Int)) 0) : Int) = (36 : Int)), true, true))
                  (bindO (fHas p4.1 ([36, 36] : List UInt8)) fun y6 =>
                  cond (y6)
                    (nextj5 (p4.1, (List.getD p4.1 (Int.toNat (0 : Int)) 0), !decide ((UInt8.toNat (List.getD p4.1 (Int.toNat (0 : Int)) 0) : Int) = (36 : Int)), false, y6))
                    (gdN (List.length p4.2) (List.length p4.2) <|
                    nextj3 (p4.1, p4.2))))
                (gdN (List.length p4.2) (List.length p4.2) <|
                nextj3 (p4.1, p4.2))) fun j5 =>
            jn (σ := Int) (fun nextj7 =>
              gd (0 ≤ (0 : Int) ∧ (0 : Int) < (List.length p4.1 : Int)) <|
              cond (decide ((UInt8.toNat (List.getD p4.1 (Int.toNat (0 : Int)) 0) : Int) = (36 : Int)))
                (nextj7 (2 : Int))
                (nextj7 (1 : Int))) fun j7 =>
            gd (0 ≤ (0 : Int) ∧ (0 : Int) < (List.length p4.1 : Int)) <|
            gdN (List.length p4.2) (List.length p4.2) <|
            gd (List.length p4.2 + 1 ≤ big) <|
            bnd (p4.2 ++ [(List.getD p4.1 (Int.toNat (0 : Int)) 0)]) fun b8 =>
            gd (0 ≤ j7 ∧ j7 ≤ (List.length p4.1 : Int)) <|
            bnd (List.drop (Int.toNat j7) p4.1) fun x9 =>
            gdN (List.length b8) (List.length b8) <|
            againp4 (x9, b8)) (x2, ([] : List UInt8))) fun j3 =>
        gdN (List.length j3.2) (List.length j3.2) <|
        gdN (List.length p1.2) (List.length p1.2) <|
        gd (List.length p1.2 + List.length [((List.getD p1.1 (Int.toNat (1 : Int)) 0), j3.2)] ≤ big) <|
        bnd (p1.2 ++ [((List.getD p1.1 (Int.toNat (1 : Int)) 0), j3.2)]) fun l10 =>
        gdN (List.length l10) (List.length l10) <|
        againp1 (j3.1, l10))
        (some p1.2))
      (some p1.2)) (a0, ([] : List (UInt8 × List UInt8)))
def dc48 : DC :=
  (.seq (.reg [⟨none, (.nl 2 46)⟩])
  (.seq (.reg [⟨none, (.nl 3 46)⟩])
  (.seq (.block 0 (.loop ⟨[(0, (.lf .str)), (3, (.row 3 46 (.agg 46 (.pair .byte .str))))], [], [4, 5, 6, 7, 8, 9, 10, 11, 12, 13, 14, 15, 16, 17, 18, 19, 20, 21, 22, 23, 24, 25, 26, 27, 28, 29, 30, 31, 32, 33, 34, 35, 36, 37, 38, 39, 40, 41, 42, 43, 44].map .s ++ [5].map .b ++ [43, 3000005].map .f⟩ (.seq (.seq (.reg [⟨none, (.mv (some 7) (.t 0))⟩,
    ⟨none, (.ln 8 none (.t 7))⟩,
    ⟨none, (.ar 9 .gtr (.t 8) (.v (.int .i64 1)))⟩,
    ⟨none, (.mv (some 10) (.t 9))⟩,
    ⟨(some (10, true)), (.mv (some 11) (.t 0))⟩,
    ⟨(some (10, true)), (.ix 12 (.t 11) (.v (.int .i64 0)))⟩,
    ⟨(some (10, true)), (.ar 13 .eql (.t 12) (.v (.int .u8 36)))⟩,
    ⟨none, (.pick 14 (.t 10) (.t 13) (.v (.bool false)))⟩])
  (.cond (.t 14)
    .skip
    (.exit 0)))
  (.block 1 (.seq (.reg [⟨none, (.mv (some 15) (.t 0))⟩,
    ⟨none, (.ix 16 (.t 15) (.v (.int .i64 1)))⟩,
    ⟨none, (.mv (some 4) (.t 16))⟩])
  (.seq (.reg [⟨none, (.mv (some 17) (.t 0))⟩,
    ⟨none, (.sc 18 none (.t 17) (some (.v (.int .i64 2))) none)⟩,
    ⟨none, (.mv (some 0) (.t 18))⟩])
  (.seq (.reg [⟨none, (.ab 5 56 5)⟩])
  (.jn ⟨[(0, (.lf .str))], [(5, (.bld 3000005 56 5))], [6, 19, 20, 21, 22, 23, 24, 25, 26, 27, 28, 29, 30, 31, 32, 33, 34, 35, 36, 37, 38].map .s⟩ (.block 2 (.loop ⟨[(0, (.lf .str))], [(5, (.bld 3000005 56 5))], [6, 19, 20, 21, 22, 23, 24, 25, 26, 27, 28, 29, 30, 31, 32, 33, 34, 35, 36, 37, 38].map .s⟩ (.jn ⟨[(22, (.lf .str)), (23, (.lf .byte)), (24, (.lf .bool)), (25, (.lf .bool)), (28, (.lf .bool))], [], [19, 20, 21, 26, 27, 29].map .s⟩ (.seq (.reg [⟨none, (.mv (some 19) (.t 0))⟩,
    ⟨none, (.ar 20 .neq (.t 19) (.v (.str [])))⟩,
    ⟨none, (.mv (some 21) (.t 20))⟩,
    ⟨(some (21, true)), (.mv (some 22) (.t 0))⟩,
    ⟨(some (21, true)), (.ix 23 (.t 22) (.v (.int .i64 0)))⟩,
    ⟨(some (21, true)), (.ar 24 .neq (.t 23) (.v (.int .u8 36)))⟩,
    ⟨(some (21, true)), (.mv (some 25) (.t 24))⟩,
    ⟨(some (25, false)), (.mv (some 26) (.t 0))⟩,
    ⟨(some (25, false)), (.ca (some 27) 66 [(.t 26), (.v (.str [36, 36]))])⟩,
    ⟨(some (21, true)), (.pick 28 (.t 25) (.v (.bool true)) (.t 27))⟩,
    ⟨none, (.pick 29 (.t 21) (.t 28) (.v (.bool false)))⟩])
  (.cond (.t 29)
    .skip
    (.exit 2)))
  (.block 3 (.seq (.reg [⟨none, (.mv (some 6) (.v (.int .i64 1)))⟩])
  (.jn ⟨[(6, (.lf (.int .i64)))], [], [30, 31, 32].map .s⟩ (.seq (.reg [⟨none, (.mv (some 30) (.t 0))⟩,
    ⟨none, (.ix 31 (.t 30) (.v (.int .i64 0)))⟩,
    ⟨none, (.ar 32 .eql (.t 31) (.v (.int .u8 36)))⟩])
  (.cond (.t 32)
    (.reg [⟨none, (.mv (some 6) (.v (.int .i64 2)))⟩])
    .skip))
  (.seq (.reg [⟨none, (.mv (some 33) (.t 0))⟩,
    ⟨none, (.ix 34 (.t 33) (.v (.int .i64 0)))⟩,
    ⟨none, (.cw (some 35) 41 .wbyte [(.t 5), (.t 34)])⟩])
  (.reg [⟨none, (.mv (some 36) (.t 0))⟩,
    ⟨none, (.mv (some 37) (.t 6))⟩,
    ⟨none, (.sc 38 none (.t 36) (some (.t 37)) none)⟩,
    ⟨none, (.mv (some 0) (.t 38))⟩]))))))))
  (.reg [⟨none, (.mv (some 39) (.t 3))⟩,
    ⟨none, (.mv (some 40) (.t 4))⟩,
    ⟨none, (.cw (some 41) 42 .str [(.t 5)])⟩,
    ⟨none, (.bd 42 46 [(.int .u8 0), (.str [])] [0, 1] [(.t 40), (.t 41)])⟩,
    ⟨none, (.bs 43 46 (some 46) [(.t 42)])⟩,
    ⟨none, (.ap 44 46 (.t 39) (.t 43))⟩,
    ⟨none, (.mv (some 3) (.t 44))⟩])))))))))
  (.seq (.reg [⟨none, (.mv (some 45) (.t 3))⟩,
    ⟨none, (.mv (some 2) (.t 45))⟩])
  .ret))))
noncomputable def ent48 : TEnt := ⟨48, [.str], (.sl 46 (.agg 46 (.pair .byte .str))), fun x => F48 x, .plain⟩
theorem eq48 (x : dens ent48.as) : ent48.F x = evF [entWriteByte, entString, entHas] SHF dc48 [(.tmp 2)] ent48.as ent48.rs x := by kernel_rfl
/-- library/field.Parse -/
noncomputable def F24 (a0 : List UInt8) : Option ((List UInt8 × List UInt8 × (List (UInt8 × List UInt8)) × Int) × Int) :=
  bindO (fSplitN a0 ([32] : List UInt8) (3 : Int)) fun y1 =>
  cond (decide ((List.length y1 : Int) < (3 : Int)))
    (some ((([] : List UInt8), ([] : List UInt8), ([] : List (UInt8 × List UInt8)), (0 : Int)), (3 : Int)))
    (gd (0 ≤ (0 : Int) ∧ (0 : Int) < (List.length y1 : Int)) <|
    bindO (fCut (List.getD y1 (Int.toNat (0 : Int)) []) ([64] : List UInt8)) fun y2 =>
    bindO (fAtoi y2.2.1) fun y3 =>
    gd (0 ≤ (1 : Int) ∧ (1 : Int) < (List.length y1 : Int)) <|
    bindO (fRepl (List.getD y1 (Int.toNat (1 : Int)) []) ([35] : List UInt8) ([32] : List UInt8)) fun y4 =>
    gd (0 ≤ (2 : Int) ∧ (2 : Int) < (List.length y1 : Int)) <|
    bindO (F48 (List.getD y1 (Int.toNat (2 : Int)) [])) fun y5 =>
    bindO (F22 (y2.1, y4, y5, y3.1)) fun y6 =>
    cond (!decide (y6.2 = (0 : Int)))
      (some ((([] : List UInt8), ([] : List UInt8), ([] : List (UInt8 × List UInt8)), (0 : Int)), (3 : Int)))
      (cond (!decide (y6.1 = a0))
        (some ((([] : List UInt8), ([] : List UInt8), ([] : List (UInt8 × List UInt8)), (0 : Int)), (3 : Int)))
        (some ((y2.1, y4, y5, y3.1), (0 : Int)))))
def dc24 : DC :=
  (.seq (.reg [⟨none, (.al 2 (.agg 24 [(.str []), (.str []), (.sl none 46 []), (.int .i64 0)]))⟩,
    ⟨none, (.mv (some 3) (.v (.int .i64 0)))⟩])
  (.seq (.reg [⟨none, (.mv (some 13) (.t 0))⟩,
    ⟨none, (.ca (some 14) 45 [(.t 13), (.v (.str [32])), (.v (.int .i64 3))])⟩,
    ⟨none, (.mv (some 4) (.t 14))⟩])
  (.seq (.seq (.reg [⟨none, (.mv (some 15) (.t 4))⟩,
    ⟨none, (.ln 16 (some 9) (.t 15))⟩,
    ⟨none, (.ar 17 .lss (.t 16) (.v (.int .i64 3)))⟩])
  (.cond (.t 17)
    (.seq (.reg [⟨none, (.bd 18 24 [(.str []), (.str []), (.sl none 46 []), (.int .i64 0)] [] [])⟩,
    ⟨none, (.st (some 24) (.t 2) (.t 18))⟩,
    ⟨none, (.mv (some 3) (.v (.int .i64 3)))⟩])
  .ret)
    .skip))
  (.seq (.reg [⟨none, (.mv (some 20) (.t 4))⟩,
    ⟨none, (.ea 21 9 (.t 20) (.v (.int .i64 0)))⟩,
    ⟨none, (.ld 22 none (.t 21))⟩,
    ⟨none, (.ca (some 23) 46 [(.t 22), (.v (.str [64]))])⟩,
    ⟨none, (.mv (some 19) (.t 23))⟩,
    ⟨none, (.ex 24 0 (.t 19))⟩,
    ⟨none, (.ex 25 1 (.t 19))⟩,
    ⟨none, (.ex 26 2 (.t 19))⟩,
    ⟨none, (.mv (some 5) (.t 24))⟩,
    ⟨none, (.mv (some 6) (.t 25))⟩,
    ⟨none, (.mv (some 7) (.t 26))⟩])
  (.seq (.reg [⟨none, (.mv (some 28) (.t 6))⟩,
    ⟨none, (.ca (some 29) 47 [(.t 28)])⟩,
    ⟨none, (.mv (some 27) (.t 29))⟩,
    ⟨none, (.ex 30 0 (.t 27))⟩,
    ⟨none, (.ex 31 1 (.t 27))⟩,
    ⟨none, (.mv (some 8) (.t 30))⟩,
    ⟨none, (.mv (some 9) (.t 31))⟩])
  (.seq (.reg [⟨none, (.mv (some 32) (.t 5))⟩,
    ⟨none, (.mv (some 33) (.t 4))⟩,
    ⟨none, (.ea 34 9 (.t 33) (.v (.int .i64 1)))⟩,
    ⟨none, (.ld 35 none (.t 34))⟩,
    ⟨none, (.ca (some 36) 40 [(.t 35), (.v (.str [35])), (.v (.str [32]))])⟩,
    ⟨none, (.mv (some 37) (.t 4))⟩,
    ⟨none, (.ea 38 9 (.t 37) (.v (.int .i64 2)))⟩,
    ⟨none, (.ld 39 none (.t 38))⟩,
    ⟨none, (.ca (some 40) 48 [(.t 39)])⟩,
    ⟨none, (.mv (some 41) (.t 8))⟩,
    ⟨none, (.bd 42 24 [(.str []), (.str []), (.sl none 46 []), (.int .i64 0)] [0, 1, 2, 3] [(.t 32), (.t 36), (.t 40), (.t 41)])⟩,
    ⟨none, (.al 10 (.agg 24 [(.str []), (.str []), (.sl none 46 []), (.int .i64 0)]))⟩,
    ⟨none, (.st (some 24) (.t 10) (.t 42))⟩])
  (.seq (.seq (.reg [⟨none, (.ld 44 (some 24) (.t 10))⟩,
    ⟨none, (.ca (some 45) 22 [(.t 44)])⟩,
    ⟨none, (.mv (some 43) (.t 45))⟩,
    ⟨none, (.ex 46 0 (.t 43))⟩,
    ⟨none, (.ex 47 1 (.t 43))⟩,
    ⟨none, (.mv (some 11) (.t 46))⟩,
    ⟨none, (.mv (some 12) (.t 47))⟩])
  (.seq (.reg [⟨none, (.mv (some 48) (.t 12))⟩,
    ⟨none, (.ar 49 .neq (.t 48) (.v (.int .i64 0)))⟩,
    ⟨none, (.mv (some 50) (.t 49))⟩,
    ⟨(some (50, false)), (.mv (some 51) (.t 11))⟩,
    ⟨(some (50, false)), (.mv (some 52) (.t 0))⟩,
    ⟨(some (50, false)), (.ar 53 .neq (.t 51) (.t 52))⟩,
    ⟨none, (.pick 54 (.t 50) (.v (.bool true)) (.t 53))⟩])
  (.cond (.t 54)
    (.seq (.reg [⟨none, (.bd 55 24 [(.str []), (.str []), (.sl none 46 []), (.int .i64 0)] [] [])⟩,
    ⟨none, (.st (some 24) (.t 2) (.t 55))⟩,
    ⟨none, (.mv (some 3) (.v (.int .i64 3)))⟩])
  .ret)
    .skip)))
  (.seq (.reg [⟨none, (.ld 56 (some 24) (.t 10))⟩,
    ⟨none, (.st (some 24) (.t 2) (.t 56))⟩,
    ⟨none, (.mv (some 3) (.v (.int .i64 0)))⟩])
  .ret))))))))
noncomputable def ent24 : TEnt := ⟨24, [.str], (.tup (.pair (.agg 24 (.pair .str (.pair .str (.pair (.sl 46 (.agg 46 (.pair .byte .str))) (.int .i64))))) (.int .i64))), fun x => F24 x, .plain⟩
theorem eq24 (x : dens ent24.as) : ent24.F x = evF [ent22, entRepl, entSplitN, entCut, entAtoi, ent48] SHF dc24 [(.cell 2 (some 24)), (.tmp 3)] ent24.as ent24.rs x := by kernel_rfl
/-- library/libraryref07.digit -/
noncomputable def F53 (a0 : UInt8) : Option (Bool) :=
  cond (decide ((48 : Int) ≤ (UInt8.toNat a0 : Int)))
    (some (decide ((UInt8.toNat a0 : Int) ≤ (57 : Int))))
    (some false)
def dc53 : DC :=
  (.seq (.reg [⟨none, (.mv (some 2) (.v (.bool false)))⟩])
  (.seq (.reg [⟨none, (.mv (some 3) (.t 0))⟩,
    ⟨none, (.ar 4 .geq (.t 3) (.v (.int .u8 48)))⟩,
    ⟨none, (.mv (some 5) (.t 4))⟩,
    ⟨(some (5, true)), (.mv (some 6) (.t 0))⟩,
    ⟨(some (5, true)), (.ar 7 .leq (.t 6) (.v (.int .u8 57)))⟩,
    ⟨none, (.pick 8 (.t 5) (.t 7) (.v (.bool false)))⟩,
    ⟨none, (.mv (some 2) (.t 8))⟩])
  .ret))
noncomputable def ent53 : TEnt := ⟨53, [.byte], .bool, fun x => F53 x, .plain⟩
theorem eq53 (x : dens ent53.as) : ent53.F x = evF [] SHF dc53 [(.tmp 2)] ent53.as ent53.rs x := by kernel_rfl
/-- library/libraryref07.Code -/
noncomputable def F54 (a0 : UInt8) : Option (Bool) :=
  bindO (F53 a0) fun y1 =>
  cond (y1)
    (some true)
    (cond (decide ((97 : Int) ≤ (UInt8.toNat a0 : Int)))
      (some (decide ((UInt8.toNat a0 : Int) ≤ (122 : Int))))
      (some false))
def dc54 : DC :=
  (.seq (.reg [⟨none, (.mv (some 2) (.v (.bool false)))⟩])
  (.seq (.reg [⟨none, (.mv (some 3) (.t 0))⟩,
    ⟨none, (.ca (some 4) 53 [(.t 3)])⟩,
    ⟨none, (.mv (some 5) (.t 4))⟩,
    ⟨(some (5, false)), (.mv (some 6) (.t 0))⟩,
    ⟨(some (5, false)), (.ar 7 .geq (.t 6) (.v (.int .u8 97)))⟩,
    ⟨(some (5, false)), (.mv (some 8) (.t 7))⟩,
    ⟨(some (8, true)), (.mv (some 9) (.t 0))⟩,
    ⟨(some (8, true)), (.ar 10 .leq (.t 9) (.v (.int .u8 122)))⟩,
    ⟨(some (5, false)), (.pick 11 (.t 8) (.t 10) (.v (.bool false)))⟩,
    ⟨none, (.pick 12 (.t 5) (.v (.bool true)) (.t 11))⟩,
    ⟨none, (.mv (some 2) (.t 12))⟩])
  .ret))
noncomputable def ent54 : TEnt := ⟨54, [.byte], .bool, fun x => F54 x, .plain⟩
theorem eq54 (x : dens ent54.as) : ent54.F x = evF [ent53] SHF dc54 [(.tmp 2)] ent54.as ent54.rs x := by kernel_rfl
/-- library/libraryref07.Tag -/
noncomputable def F52 (a0 : List UInt8) : Option (Bool) :=
  cond (decide ((List.length a0 : Int) = (3 : Int)))
    (gd (0 ≤ (0 : Int) ∧ (0 : Int) < (List.length a0 : Int)) <|
    bindO (F53 (List.getD a0 (Int.toNat (0 : Int)) 0)) fun y1 =>
    cond (y1)
      (gd (0 ≤ (1 : Int) ∧ (1 : Int) < (List.length a0 : Int)) <|
      bindO (F53 (List.getD a0 (Int.toNat (1 : Int)) 0)) fun y2 =>
      cond (y2)
        (gd (0 ≤ (2 : Int) ∧ (2 : Int) < (List.length a0 : Int)) <|
        bindO (F53 (List.getD a0 (Int.toNat (2 : Int)) 0)) fun y3 =>
        cond (y3)
          (some (!(Op.bytesLess a0 ([48, 49, 48] : List UInt8))))
          (some false))
        (some false))
      (some false))
    (some false)
def dc52 : DC :=
  (.seq (.reg [⟨none, (.mv (some 2) (.v (.bool false)))⟩])
  (.seq (.reg [⟨none, (.mv (some 3) (.t 0))⟩,
    ⟨none, (.ln 4 none (.t 3))⟩,
    ⟨none, (.ar 5 .eql (.t 4) (.v (.int .i64 3)))⟩,
    ⟨none, (.mv (some 6) (.t 5))⟩,
    ⟨(some (6, true)), (.mv (some 7) (.t 0))⟩,
    ⟨(some (6, true)), (.ix 8 (.t 7) (.v (.int .i64 0)))⟩,
    ⟨(some (6, true)), (.ca (some 9) 53 [(.t 8)])⟩,
    ⟨none, (.pick 10 (.t 6) (.t 9) (.v (.bool false)))⟩,
    ⟨none, (.mv (some 11) (.t 10))⟩,
    ⟨(some (11, true)), (.mv (some 12) (.t 0))⟩,
    ⟨(some (11, true)), (.ix 13 (.t 12) (.v (.int .i64 1)))⟩,
    ⟨(some (11, true)), (.ca (some 14) 53 [(.t 13)])⟩,
    ⟨none, (.pick 15 (.t 11) (.t 14) (.v (.bool false)))⟩,
    ⟨none, (.mv (some 16) (.t 15))⟩,
    ⟨(some (16, true)), (.mv (some 17) (.t 0))⟩,
    ⟨(some (16, true)), (.ix 18 (.t 17) (.v (.int .i64 2)))⟩,
    ⟨(some (16, true)), (.ca (some 19) 53 [(.t 18)])⟩,
    ⟨none, (.pick 20 (.t 16) (.t 19) (.v (.bool false)))⟩,
    ⟨none, (.mv (some 21) (.t 20))⟩,
    ⟨(some (21, true)), (.mv (some 22) (.t 0))⟩,
    ⟨(some (21, true)), (.ar 23 .geq (.t 22) (.v (.str [48, 49, 48])))⟩,
    ⟨none, (.pick 24 (.t 21) (.t 23) (.v (.bool false)))⟩,
    ⟨none, (.mv (some 2) (.t 24))⟩])
  .ret))
noncomputable def ent52 : TEnt := ⟨52, [.str], .bool, fun x => F52 x, .plain⟩
theorem eq52 (x : dens ent52.as) : ent52.F x = evF [ent53] SHF dc52 [(.tmp 2)] ent52.as ent52.rs x := by kernel_rfl
/-- library/libraryref01.decode -/
noncomputable def F70 (a0 : List UInt8) (a1 : Int) : Option (Int × Int) :=
  gd (0 ≤ a1 ∧ a1 < (List.length a0 : Int)) <|
  jn (σ := Unit) (fun nextj1 =>
    cond (decide ((32 : Int) ≤ (IntKind.wrap .i64 (UInt8.toNat (List.getD a0 (Int.toNat a1) 0) : Int))))
      (cond (decide ((IntKind.wrap .i64 (UInt8.toNat (List.getD a0 (Int.toNat a1) 0) : Int)) < (127 : Int)))
        (some ((IntKind.wrap .i64 (UInt8.toNat (List.getD a0 (Int.toNat a1) 0) : Int)), (1 : Int)))
        (nextj1 ()))
      (nextj1 ())) fun j1 =>
  jn (σ := Bool) (fun nextj2 =>
    cond (decide ((194 : Int) ≤ (IntKind.wrap .i64 (UInt8.toNat (List.getD a0 (Int.toNat a1) 0) : Int))))
      (cond (decide ((IntKind.wrap .i64 (UInt8.toNat (List.getD a0 (Int.toNat a1) 0) : Int)) < (224 : Int)))
        (bnd (IntKind.wrap .i64 (a1 + (1 : Int))) fun x3 =>
        cond (decide (x3 < (List.length a0 : Int)))
          (bnd (IntKind.wrap .i64 (a1 + (1 : Int))) fun x4 =>
          gd (0 ≤ x4 ∧ x4 < (List.length a0 : Int)) <|
          cond (decide ((128 : Int) ≤ (UInt8.toNat (List.getD a0 (Int.toNat x4) 0) : Int)))
            (bnd (IntKind.wrap .i64 (a1 + (1 : Int))) fun x5 =>
            gd (0 ≤ x5 ∧ x5 < (List.length a0 : Int)) <|
            nextj2 (decide ((UInt8.toNat (List.getD a0 (Int.toNat x5) 0) : Int) < (192 : Int))))
            (nextj2 false))
          (nextj2 false))
        (nextj2 false))
      (nextj2 false)) fun j2 =>
  cond (j2)
    (bnd (IntKind.wrap .i64 ((IntKind.wrap .i64 (UInt8.toNat (List.getD a0 (Int.toNat a1) 0) : Int)) - (192 : Int))) fun x6 =>
    bnd (IntKind.wrap .i64 (x6 * (64 : Int))) fun x7 =>
    bnd (IntKind.wrap .i64 (a1 + (1 : Int))) fun x8 =>
    gd (0 ≤ x8 ∧ x8 < (List.length a0 : Int)) <|
    bnd (IntKind.wrap .i64 (x7 + (IntKind.wrap .i64 (UInt8.toNat (List.getD a0 (Int.toNat x8) 0) : Int)))) fun x9 =>
    bnd (IntKind.wrap .i64 (x9 - (128 : Int))) fun x10 =>
    cond (decide ((160 : Int) ≤ x10))
      (some (x10, (2 : Int)))
      (some ((0 : Int), (0 : Int))))
    (jn (σ := Bool) (fun nextj11 =>
      cond (decide ((224 : Int) ≤ (IntKind.wrap .i64 (UInt8.toNat (List.getD a0 (Int.toNat a1) 0) : Int))))
        (cond (decide ((IntKind.wrap .i64 (UInt8.toNat (List.getD a0 (Int.toNat a1) 0) : Int)) < (240 : Int)))
          (bnd (IntKind.wrap .i64 (a1 + (2 : Int))) fun x12 =>
          cond (decide (x12 < (List.length a0 : Int)))
            (bnd (IntKind.wrap .i64 (a1 + (1 : Int))) fun x13 =>
            gd (0 ≤ x13 ∧ x13 < (List.length a0 : Int)) <|
            cond (decide ((128 : Int) ≤ (UInt8.toNat (List.getD a0 (Int.toNat x13) 0) : Int)))
              (bnd (IntKind.wrap .i64 (a1 + (1 : Int))) fun x14 =>
              gd (0 ≤ x14 ∧ x14 < (List.length a0 : Int)) <|
              cond (decide ((UInt8.toNat (List.getD a0 (Int.toNat x14) 0) : Int) < (192 : Int)))
                (bnd (IntKind.wrap .i64 (a1 + (2 : Int))) fun x15 =>
                gd (0 ≤ x15 ∧ x15 < (List.length a0 : Int)) <|
                cond (decide ((128 : Int) ≤ (UInt8.toNat (List.getD a0 (Int.toNat x15) 0) : Int)))
                  (bnd (IntKind.wrap .i64 (a1 + (2 : Int))) fun x16 =>
                  gd (0 ≤ x16 ∧ x16 < (List.length a0 : Int)) <|
                  nextj11 (decide ((UInt8.toNat (List.getD a0 (Int.toNat x16) 0) : Int) < (192 : Int))))
                  (nextj11 false))
                (nextj11 false))
              (nextj11 false))
            (nextj11 false))
          (nextj11 false))
        (nextj11 false)) fun j11 =>
    cond (j11)
      (bnd (IntKind.wrap .i64 ((IntKind.wrap .i64 (UInt8.toNat (List.getD a0 (Int.toNat a1) 0) : Int)) - (224 : Int))) fun x17 =>
      bnd (IntKind.wrap .i64 (x17 * (4096 : Int))) fun x18 =>
      bnd (IntKind.wrap .i64 (a1 + (1 : Int))) fun x19 =>
      gd (0 ≤ x19 ∧ x19 < (List.length a0 : Int)) <|
      bnd (IntKind.wrap .i64 ((IntKind.wrap .i64 (UInt8.toNat (List.getD a0 (Int.toNat x19) 0) : Int)) - (128 : Int))) fun x20 =>
      bnd (IntKind.wrap .i64 (x20 * (64 : Int))) fun x21 =>
      bnd (IntKind.wrap .i64 (x18 + x21)) fun x22 =>
      bnd (IntKind.wrap .i64 (a1 + (2 : Int))) fun x23 =>
      gd (0 ≤ x23 ∧ x23 < (List.length a0 : Int)) <|
      bnd (IntKind.wrap .i64 (x22 + (IntKind.wrap .i64 (UInt8.toNat (List.getD a0 (Int.toNat x23) 0) : Int)))) fun x24 =>
      bnd (IntKind.wrap .i64 (x24 - (128 : Int))) fun x25 =>
      cond (decide ((2048 : Int) ≤ x25))
        (cond (decide (x25 < (55296 : Int)))
          (some (x25, (3 : Int)))
          (cond (decide ((57343 : Int) < x25))
            (some (x25, (3 : Int)))
            (some ((0 : Int), (0 : Int)))))
        (some ((0 : Int), (0 : Int))))
      (some ((0 : Int), (0 : Int))))
def dc70 : DC :=
  (.seq (.reg [⟨none, (.mv (some 4) (.v (.int .i64 0)))⟩,
    ⟨none, (.mv (some 5) (.v (.int .i64 0)))⟩])
  (.seq (.reg [⟨none, (.mv (some 9) (.t 0))⟩,
    ⟨none, (.mv (some 10) (.t 1))⟩,
    ⟨none, (.ix 11 (.t 9) (.t 10))⟩,
    ⟨none, (.cvi 12 .i64 (.t 11))⟩,
    ⟨none, (.mv (some 6) (.t 12))⟩])
  (.jn ⟨[], [], [13, 14, 15, 16, 17, 18].map .s⟩ (.seq (.reg [⟨none, (.mv (some 13) (.t 6))⟩,
    ⟨none, (.ar 14 .geq (.t 13) (.v (.int .i64 32)))⟩,
    ⟨none, (.mv (some 15) (.t 14))⟩,
    ⟨(some (15, true)), (.mv (some 16) (.t 6))⟩,
    ⟨(some (15, true)), (.ar 17 .lss (.t 16) (.v (.int .i64 127)))⟩,
    ⟨none, (.pick 18 (.t 15) (.t 17) (.v (.bool false)))⟩])
  (.cond (.t 18)
    (.seq (.reg [⟨none, (.mv (some 19) (.t 6))⟩,
    ⟨none, (.mv (some 4) (.t 19))⟩,
    ⟨none, (.mv (some 5) (.v (.int .i64 1)))⟩])
  .ret)
    .skip))
  (.seq (.jn ⟨[(46, (.lf .bool))], [], [20, 21, 22, 23, 24, 25, 26, 27, 28, 29, 30, 31, 32, 33, 34, 35, 36, 37, 38, 39, 40, 41, 42, 43, 44, 45].map .s⟩ (.reg [⟨none, (.mv (some 20) (.t 6))⟩,
    ⟨none, (.ar 21 .geq (.t 20) (.v (.int .i64 194)))⟩,
    ⟨none, (.mv (some 22) (.t 21))⟩,
    ⟨(some (22, true)), (.mv (some 23) (.t 6))⟩,
    ⟨(some (22, true)), (.ar 24 .lss (.t 23) (.v (.int .i64 224)))⟩,
    ⟨none, (.pick 25 (.t 22) (.t 24) (.v (.bool false)))⟩,
    ⟨none, (.mv (some 26) (.t 25))⟩,
    ⟨(some (26, true)), (.mv (some 27) (.t 1))⟩,
    ⟨(some (26, true)), (.ar 28 .add (.t 27) (.v (.int .i64 1)))⟩,
    ⟨(some (26, true)), (.mv (some 29) (.t 0))⟩,
    ⟨(some (26, true)), (.ln 30 none (.t 29))⟩,
    ⟨(some (26, true)), (.ar 31 .lss (.t 28) (.t 30))⟩,
    ⟨none, (.pick 32 (.t 26) (.t 31) (.v (.bool false)))⟩,
    ⟨none, (.mv (some 33) (.t 32))⟩,
    ⟨(some (33, true)), (.mv (some 34) (.t 0))⟩,
    ⟨(some (33, true)), (.mv (some 35) (.t 1))⟩,
    ⟨(some (33, true)), (.ar 36 .add (.t 35) (.v (.int .i64 1)))⟩,
    ⟨(some (33, true)), (.ix 37 (.t 34) (.t 36))⟩,
    ⟨(some (33, true)), (.ar 38 .geq (.t 37) (.v (.int .u8 128)))⟩,
    ⟨none, (.pick 39 (.t 33) (.t 38) (.v (.bool false)))⟩,
    ⟨none, (.mv (some 40) (.t 39))⟩,
    ⟨(some (40, true)), (.mv (some 41) (.t 0))⟩,
    ⟨(some (40, true)), (.mv (some 42) (.t 1))⟩,
    ⟨(some (40, true)), (.ar 43 .add (.t 42) (.v (.int .i64 1)))⟩,
    ⟨(some (40, true)), (.ix 44 (.t 41) (.t 43))⟩,
    ⟨(some (40, true)), (.ar 45 .lss (.t 44) (.v (.int .u8 192)))⟩,
    ⟨none, (.pick 46 (.t 40) (.t 45) (.v (.bool false)))⟩])
  (.cond (.t 46)
    (.seq (.reg [⟨none, (.mv (some 47) (.t 6))⟩,
    ⟨none, (.ar 48 .sub (.t 47) (.v (.int .i64 192)))⟩,
    ⟨none, (.ar 49 .mul (.t 48) (.v (.int .i64 64)))⟩,
    ⟨none, (.mv (some 50) (.t 0))⟩,
    ⟨none, (.mv (some 51) (.t 1))⟩,
    ⟨none, (.ar 52 .add (.t 51) (.v (.int .i64 1)))⟩,
    ⟨none, (.ix 53 (.t 50) (.t 52))⟩,
    ⟨none, (.cvi 54 .i64 (.t 53))⟩,
    ⟨none, (.ar 55 .add (.t 49) (.t 54))⟩,
    ⟨none, (.ar 56 .sub (.t 55) (.v (.int .i64 128)))⟩,
    ⟨none, (.mv (some 7) (.t 56))⟩])
  (.seq (.seq (.reg [⟨none, (.mv (some 57) (.t 7))⟩,
    ⟨none, (.ar 58 .geq (.t 57) (.v (.int .i64 160)))⟩])
  (.cond (.t 58)
    (.seq (.reg [⟨none, (.mv (some 59) (.t 7))⟩,
    ⟨none, (.mv (some 4) (.t 59))⟩,
    ⟨none, (.mv (some 5) (.v (.int .i64 2)))⟩])
  .ret)
    .skip))
  (.seq (.reg [⟨none, (.mv (some 4) (.v (.int .i64 0)))⟩,
    ⟨none, (.mv (some 5) (.v (.int .i64 0)))⟩])
  .ret)))
    .skip))
  (.seq (.jn ⟨[(100, (.lf .bool))], [], [60, 61, 62, 63, 64, 65, 66, 67, 68, 69, 70, 71, 72, 73, 74, 75, 76, 77, 78, 79, 80, 81, 82, 83, 84, 85, 86, 87, 88, 89, 90, 91, 92, 93, 94, 95, 96, 97, 98, 99].map .s⟩ (.reg [⟨none, (.mv (some 60) (.t 6))⟩,
    ⟨none, (.ar 61 .geq (.t 60) (.v (.int .i64 224)))⟩,
    ⟨none, (.mv (some 62) (.t 61))⟩,
    ⟨(some (62, true)), (.mv (some 63) (.t 6))⟩,
    ⟨(some (62, true)), (.ar 64 .lss (.t 63) (.v (.int .i64 240)))⟩,
    ⟨none, (.pick 65 (.t 62) (.t 64) (.v (.bool false)))⟩,
    ⟨none, (.mv (some 66) (.t 65))⟩,
    ⟨(some (66, true)), (.mv (some 67) (.t 1))⟩,
    ⟨(some (66, true)), (.ar 68 .add (.t 67) (.v (.int .i64 2)))⟩,
    ⟨(some (66, true)), (.mv (some 69) (.t 0))⟩,
    ⟨(some (66, true)), (.ln 70 none (.t 69))⟩,
    ⟨(some (66, true)), (.ar 71 .lss (.t 68) (.t 70))⟩,
    ⟨none, (.pick 72 (.t 66) (.t 71) (.v (.bool false)))⟩,
    ⟨none, (.mv (some 73) (.t 72))⟩,
    ⟨(some (73, true)), (.mv (some 74) (.t 0))⟩,
    ⟨(some (73, true)), (.mv (some 75) (.t 1))⟩,
    ⟨(some (73, true)), (.ar 76 .add (.t 75) (.v (.int .i64 1)))⟩,
    ⟨(some (73, true)), (.ix 77 (.t 74) (.t 76))⟩,
    ⟨(some (73, true)), (.ar 78 .geq (.t 77) (.v (.int .u8 128)))⟩,
    ⟨none, (.pick 79 (.t 73) (.t 78) (.v (.bool false)))⟩,
    ⟨none, (.mv (some 80) (.t 79))⟩,
    ⟨(some (80, true)), (.mv (some 81) (.t 0))⟩,
    ⟨(some (80, true)), (.mv (some 82) (.t 1))⟩,
    ⟨(some (80, true)), (.ar 83 .add (.t 82) (.v (.int .i64 1)))⟩,
    ⟨(some (80, true)), (.ix 84 (.t 81) (.t 83))⟩,
    ⟨(some (80, true)), (.ar 85 .lss (.t 84) (.v (.int .u8 192)))⟩,
    ⟨none, (.pick 86 (.t 80) (.t 85) (.v (.bool false)))⟩,
    ⟨none, (.mv (some 87) (.t 86))⟩,
    ⟨(some (87, true)), (.mv (some 88) (.t 0))⟩,
    ⟨(some (87, true)), (.mv (some 89) (.t 1))⟩,
    ⟨(some (87, true)), (.ar 90 .add (.t 89) (.v (.int .i64 2)))⟩,
    ⟨(some (87, true)), (.ix 91 (.t 88) (.t 90))⟩,
    ⟨(some (87, true)), (.ar 92 .geq (.t 91) (.v (.int .u8 128)))⟩,
    ⟨none, (.pick 93 (.t 87) (.t 92) (.v (.bool false)))⟩,
    ⟨none, (.mv (some 94) (.t 93))⟩,
    ⟨(some (94, true)), (.mv (some 95) (.t 0))⟩,
    ⟨(some (94, true)), (.mv (some 96) (.t 1))⟩,
    ⟨(some (94, true)), (.ar 97 .add (.t 96) (.v (.int .i64 2)))⟩,
    ⟨(some (94, true)), (.ix 98 (.t 95) (.t 97))⟩,
    ⟨(some (94, true)), (.ar 99 .lss (.t 98) (.v (.int .u8 192)))⟩,
    ⟨none, (.pick 100 (.t 94) (.t 99) (.v (.bool false)))⟩])
  (.cond (.t 100)
    (.seq (.reg [⟨none, (.mv (some 101) (.t 6))⟩,
    ⟨none, (.ar 102 .sub (.t 101) (.v (.int .i64 224)))⟩,
    ⟨none, (.ar 103 .mul (.t 102) (.v (.int .i64 4096)))⟩,
    ⟨none, (.mv (some 104) (.t 0))⟩,
    ⟨none, (.mv (some 105) (.t 1))⟩,
    ⟨none, (.ar 106 .add (.t 105) (.v (.int .i64 1)))⟩,
    ⟨none, (.ix 107 (.t 104) (.t 106))⟩,
    ⟨none, (.cvi 108 .i64 (.t 107))⟩,
    ⟨none, (.ar 109 .sub (.t 108) (.v (.int .i64 128)))⟩,
    ⟨none, (.ar 110 .mul (.t 109) (.v (.int .i64 64)))⟩,
    ⟨none, (.ar 111 .add (.t 103) (.t 110))⟩,
    ⟨none, (.mv (some 112) (.t 0))⟩,
    ⟨none, (.mv (some 113) (.t 1))⟩,
    ⟨none, (.ar 114 .add (.t 113) (.v (.int .i64 2)))⟩,
    ⟨none, (.ix 115 (.t 112) (.t 114))⟩,
    ⟨none, (.cvi 116 .i64 (.t 115))⟩,
    ⟨none, (.ar 117 .add (.t 111) (.t 116))⟩,
    ⟨none, (.ar 118 .sub (.t 117) (.v (.int .i64 128)))⟩,
    ⟨none, (.mv (some 8) (.t 118))⟩])
  (.seq (.reg [⟨none, (.mv (some 119) (.t 8))⟩,
    ⟨none, (.ar 120 .geq (.t 119) (.v (.int .i64 2048)))⟩,
    ⟨none, (.mv (some 121) (.t 120))⟩,
    ⟨(some (121, true)), (.mv (some 122) (.t 8))⟩,
    ⟨(some (121, true)), (.ar 123 .lss (.t 122) (.v (.int .i64 55296)))⟩,
    ⟨(some (121, true)), (.mv (some 124) (.t 123))⟩,
    ⟨(some (124, false)), (.mv (some 125) (.t 8))⟩,
    ⟨(some (124, false)), (.ar 126 .gtr (.t 125) (.v (.int .i64 57343)))⟩,
    ⟨(some (121, true)), (.pick 127 (.t 124) (.v (.bool true)) (.t 126))⟩,
    ⟨none, (.pick 128 (.t 121) (.t 127) (.v (.bool false)))⟩])
  (.cond (.t 128)
    (.seq (.reg [⟨none, (.mv (some 129) (.t 8))⟩,
    ⟨none, (.mv (some 4) (.t 129))⟩,
    ⟨none, (.mv (some 5) (.v (.int .i64 3)))⟩])
  .ret)
    .skip)))
    .skip))
  (.seq (.reg [⟨none, (.mv (some 4) (.v (.int .i64 0)))⟩,
    ⟨none, (.mv (some 5) (.v (.int .i64 0)))⟩])
  .ret))))))
noncomputable def ent70 : TEnt := ⟨70, [.str, (.int .i64)], (.tup (.pair (.int .i64) (.int .i64))), fun x => F70 x.1 x.2, .plain⟩
theorem eq70 (x : dens ent70.as) : ent70.F x = evF [] SHF dc70 [(.tmp 4), (.tmp 5)] ent70.as ent70.rs x := by kernel_rfl
/-- library/libraryref01.Valid -/
noncomputable def F55 (a0 : List UInt8) : Option (Bool) :=
  loopK (σ := Int) (fun p1 againp1 =>
    cond (decide (p1 < (List.length a0 : Int)))
      (bindO (F70 a0 p1) fun y2 =>
      cond (decide (y2.2 = (0 : Int)))
        (some false)
        (bnd (IntKind.wrap .i64 (p1 + y2.2)) fun x3 =>
        againp1 x3))
      (some true)) (0 : Int)
def dc55 : DC :=
  (.seq (.reg [⟨none, (.mv (some 2) (.v (.bool false)))⟩])
  (.seq (.reg [⟨none, (.mv (some 3) (.v (.int .i64 0)))⟩])
  (.seq (.block 0 (.loop ⟨[(3, (.lf (.int .i64)))], [], [2, 4, 5, 6, 7, 8, 9, 10, 11, 12, 13, 14, 15, 16, 17, 18, 19, 20].map .s⟩ (.seq (.seq (.reg [⟨none, (.mv (some 6) (.t 3))⟩,
    ⟨none, (.mv (some 7) (.t 0))⟩,
    ⟨none, (.ln 8 none (.t 7))⟩,
    ⟨none, (.ar 9 .lss (.t 6) (.t 8))⟩])
  (.cond (.t 9)
    .skip
    (.exit 0)))
  (.block 1 (.seq (.reg [⟨none, (.mv (some 11) (.t 0))⟩,
    ⟨none, (.mv (some 12) (.t 3))⟩,
    ⟨none, (.ca (some 13) 70 [(.t 11), (.t 12)])⟩,
    ⟨none, (.mv (some 10) (.t 13))⟩,
    ⟨none, (.ex 14 0 (.t 10))⟩,
    ⟨none, (.ex 15 1 (.t 10))⟩,
    ⟨none, (.mv (some 4) (.t 14))⟩,
    ⟨none, (.mv (some 5) (.t 15))⟩])
  (.seq (.seq (.reg [⟨none, (.mv (some 16) (.t 5))⟩,
    ⟨none, (.ar 17 .eql (.t 16) (.v (.int .i64 0)))⟩])
  (.cond (.t 17)
    (.seq (.reg [⟨none, (.mv (some 2) (.v (.bool false)))⟩])
  .ret)
    .skip))
  (.reg [⟨none, (.mv (some 18) (.t 3))⟩,
    ⟨none, (.mv (some 19) (.t 5))⟩,
    ⟨none, (.ar 20 .add (.t 18) (.t 19))⟩,
    ⟨none, (.mv (some 3) (.t 20))⟩])))))))
  (.seq (.reg [⟨none, (.mv (some 2) (.v (.bool true)))⟩])
  .ret))))
noncomputable def ent55 : TEnt := ⟨55, [.str], .bool, fun x => F55 x, .plain⟩
theorem eq55 (x : dens ent55.as) : ent55.F x = evF [ent70] SHF dc55 [(.tmp 2)] ent55.as ent55.rs x := by kernel_rfl
/-- library/libraryref07.Right -/
noncomputable def F27 (a0 : List UInt8 × List UInt8 × (List (UInt8 × List UInt8)) × Int) : Option (Int) :=
  bindO (F52 a0.1) fun y1 =>
  cond (!y1)
    (some (6 : Int))
    (jn (σ := Unit) (fun nextj2 =>
      cond (!decide ((List.length a0.2.1 : Int) = (2 : Int)))
        (some (3 : Int))
        (gd (0 ≤ (0 : Int) ∧ (0 : Int) < (List.length a0.2.1 : Int)) <|
        cond (!decide ((UInt8.toNat (List.getD a0.2.1 (Int.toNat (0 : Int)) 0) : Int) = (32 : Int)))
          (gd (0 ≤ (0 : Int) ∧ (0 : Int) < (List.length a0.2.1 : Int)) <|
          bindO (F53 (List.getD a0.2.1 (Int.toNat (0 : Int)) 0)) fun y3 =>
          cond (!y3)
            (some (3 : Int))
            (gd (0 ≤ (1 : Int) ∧ (1 : Int) < (List.length a0.2.1 : Int)) <|
            cond (!decide ((UInt8.toNat (List.getD a0.2.1 (Int.toNat (1 : Int)) 0) : Int) = (32 : Int)))
              (gd (0 ≤ (1 : Int) ∧ (1 : Int) < (List.length a0.2.1 : Int)) <|
              bindO (F53 (List.getD a0.2.1 (Int.toNat (1 : Int)) 0)) fun y4 =>
              cond (!y4)
                (some (3 : Int))
                (nextj2 ()))
              (nextj2 ())))
          (gd (0 ≤ (1 : Int) ∧ (1 : Int) < (List.length a0.2.1 : Int)) <|
          cond (!decide ((UInt8.toNat (List.getD a0.2.1 (Int.toNat (1 : Int)) 0) : Int) = (32 : Int)))
            (gd (0 ≤ (1 : Int) ∧ (1 : Int) < (List.length a0.2.1 : Int)) <|
            bindO (F53 (List.getD a0.2.1 (Int.toNat (1 : Int)) 0)) fun y5 =>
            cond (!y5)
              (some (3 : Int))
              (nextj2 ()))
            (nextj2 ())))) fun j2 =>
    cond (decide ((List.length a0.2.2.1 : Int) = (0 : Int)))
      (some (8 : Int))
      (cond (decide ((16 : Int) < (List.length a0.2.2.1 : Int)))
        (some (4 : Int))
        (loopK (σ := Int) (fun p6 againp6 =>
          cond (decide (p6 < (List.length a0.2.2.1 : Int)))
            (gd (0 ≤ p6 ∧ p6 < (List.length a0.2.2.1 : Int)) <|
            bindO (F54 ((List.getD a0.2.2.1 (Int.toNat p6) (0, [])).1)) fun y7 =>
            cond (!y7)
              (some (1 : Int))
              (cond (decide ((List.getD a0.2.2.1 (Int.toNat p6) (0, [])).2 = ([] : List UInt8)))
                (some (8 : Int))
                (bindO (F55 ((List.getD a0.2.2.1 (Int.toNat p6) (0, [])).2)) fun y8 =>
                cond (!y8)
                  (some (3 : Int))
                  (cond (decide ((200 : Int) < (List.length ((List.getD a0.2.2.1 (Int.toNat p6) (0, [])).2) : Int)))
                    (some (4 : Int))
                    (bnd (IntKind.wrap .i64 (p6 + (1 : Int))) fun x9 =>
                    againp6 x9)))))
            (cond (decide (a0.2.2.2 < (0 : Int)))
              (some (2 : Int))
              (cond (decide ((9999 : Int) < a0.2.2.2))
                (some (2 : Int))
                (some (0 : Int))))) (0 : Int))))
def dc27 : DC :=
  (.seq (.reg [⟨none, (.bx 1 (some 24) (.t 0))⟩,
    ⟨none, (.mv (some 2) (.v (.int .i64 0)))⟩])
  (.seq (.seq (.reg [⟨none, (.fa 5 24 0 (.t 1))⟩,
    ⟨none, (.ld 6 none (.t 5))⟩,
    ⟨none, (.ca (some 7) 52 [(.t 6)])⟩,
    ⟨none, (.un 8 .not (.t 7))⟩])
  (.cond (.t 8)
    (.seq (.reg [⟨none, (.mv (some 2) (.v (.int .i64 6)))⟩])
  .ret)
    .skip))
  (.jn ⟨[], [], [9, 10, 11, 12, 13, 14, 15, 16, 17, 18, 19, 20, 21, 22, 23, 24, 25, 26, 27, 28, 29, 30, 31, 32, 33, 34, 35, 36, 37, 38].map .s⟩ (.seq (.reg [⟨none, (.fa 9 24 1 (.t 1))⟩,
    ⟨none, (.ld 10 none (.t 9))⟩,
    ⟨none, (.ln 11 none (.t 10))⟩,
    ⟨none, (.ar 12 .neq (.t 11) (.v (.int .i64 2)))⟩,
    ⟨none, (.mv (some 13) (.t 12))⟩,
    ⟨(some (13, false)), (.fa 14 24 1 (.t 1))⟩,
    ⟨(some (13, false)), (.ld 15 none (.t 14))⟩,
    ⟨(some (13, false)), (.ix 16 (.t 15) (.v (.int .i64 0)))⟩,
    ⟨(some (13, false)), (.ar 17 .neq (.t 16) (.v (.int .u8 32)))⟩,
    ⟨(some (13, false)), (.mv (some 18) (.t 17))⟩,
    ⟨(some (18, true)), (.fa 19 24 1 (.t 1))⟩,
    ⟨(some (18, true)), (.ld 20 none (.t 19))⟩,
    ⟨(some (18, true)), (.ix 21 (.t 20) (.v (.int .i64 0)))⟩,
    ⟨(some (18, true)), (.ca (some 22) 53 [(.t 21)])⟩,
    ⟨(some (18, true)), (.un 23 .not (.t 22))⟩,
    ⟨(some (13, false)), (.pick 24 (.t 18) (.t 23) (.v (.bool false)))⟩,
    ⟨none, (.pick 25 (.t 13) (.v (.bool true)) (.t 24))⟩,
    ⟨none, (.mv (some 26) (.t 25))⟩,
    ⟨(some (26, false)), (.fa 27 24 1 (.t 1))⟩,
    ⟨(some (26, false)), (.ld 28 none (.t 27))⟩,
    ⟨(some (26, false)), (.ix 29 (.t 28) (.v (.int .i64 1)))⟩,
    ⟨(some (26, false)), (.ar 30 .neq (.t 29) (.v (.int .u8 32)))⟩,
    ⟨(some (26, false)), (.mv (some 31) (.t 30))⟩,
    ⟨(some (31, true)), (.fa 32 24 1 (.t 1))⟩,
    ⟨(some (31, true)), (.ld 33 none (.t 32))⟩,
    ⟨(some (31, true)), (.ix 34 (.t 33) (.v (.int .i64 1)))⟩,
    ⟨(some (31, true)), (.ca (some 35) 53 [(.t 34)])⟩,
    ⟨(some (31, true)), (.un 36 .not (.t 35))⟩,
    ⟨(some (26, false)), (.pick 37 (.t 31) (.t 36) (.v (.bool false)))⟩,
    ⟨none, (.pick 38 (.t 26) (.v (.bool true)) (.t 37))⟩])
  (.cond (.t 38)
    (.seq (.reg [⟨none, (.mv (some 2) (.v (.int .i64 3)))⟩])
  .ret)
    .skip))
  (.seq (.seq (.reg [⟨none, (.fa 39 24 2 (.t 1))⟩,
    ⟨none, (.ld 40 none (.t 39))⟩,
    ⟨none, (.ln 41 (some 46) (.t 40))⟩,
    ⟨none, (.ar 42 .eql (.t 41) (.v (.int .i64 0)))⟩])
  (.cond (.t 42)
    (.seq (.reg [⟨none, (.mv (some 2) (.v (.int .i64 8)))⟩])
  .ret)
    .skip))
  (.seq (.seq (.reg [⟨none, (.fa 43 24 2 (.t 1))⟩,
    ⟨none, (.ld 44 none (.t 43))⟩,
    ⟨none, (.ln 45 (some 46) (.t 44))⟩,
    ⟨none, (.ar 46 .gtr (.t 45) (.v (.int .i64 16)))⟩])
  (.cond (.t 46)
    (.seq (.reg [⟨none, (.mv (some 2) (.v (.int .i64 4)))⟩])
  .ret)
    .skip))
  (.seq (.seq (.reg [⟨none, (.mv (some 3) (.v (.int .i64 0)))⟩])
  (.block 0 (.loop ⟨[(3, (.lf (.int .i64)))], [], [2, 4, 47, 48, 49, 50, 51, 52, 53, 54, 55, 56, 57, 58, 59, 60, 61, 62, 63, 64, 65, 66, 67, 68, 69, 70, 71, 72, 73].map .s ++ [4].map .b⟩ (.seq (.seq (.reg [⟨none, (.mv (some 47) (.t 3))⟩,
    ⟨none, (.fa 48 24 2 (.t 1))⟩,
    ⟨none, (.ld 49 none (.t 48))⟩,
    ⟨none, (.ln 50 (some 46) (.t 49))⟩,
    ⟨none, (.ar 51 .lss (.t 47) (.t 50))⟩])
  (.cond (.t 51)
    .skip
    (.exit 0)))
  (.seq (.block 1 (.seq (.reg [⟨none, (.fa 54 24 2 (.t 1))⟩,
    ⟨none, (.ld 55 none (.t 54))⟩,
    ⟨none, (.mv (some 56) (.t 3))⟩,
    ⟨none, (.ea 57 46 (.t 55) (.t 56))⟩,
    ⟨none, (.ld 58 (some 46) (.t 57))⟩,
    ⟨none, (.al 4 (.agg 46 [(.int .u8 0), (.str [])]))⟩,
    ⟨none, (.st (some 46) (.t 4) (.t 58))⟩])
  (.seq (.seq (.reg [⟨none, (.fa 59 46 0 (.t 4))⟩,
    ⟨none, (.ld 60 none (.t 59))⟩,
    ⟨none, (.ca (some 61) 54 [(.t 60)])⟩,
    ⟨none, (.un 62 .not (.t 61))⟩])
  (.cond (.t 62)
    (.seq (.reg [⟨none, (.mv (some 2) (.v (.int .i64 1)))⟩])
  .ret)
    .skip))
  (.seq (.seq (.reg [⟨none, (.fa 63 46 1 (.t 4))⟩,
    ⟨none, (.ld 64 none (.t 63))⟩,
    ⟨none, (.ar 65 .eql (.t 64) (.v (.str [])))⟩])
  (.cond (.t 65)
    (.seq (.reg [⟨none, (.mv (some 2) (.v (.int .i64 8)))⟩])
  .ret)
    .skip))
  (.seq (.seq (.reg [⟨none, (.fa 66 46 1 (.t 4))⟩,
    ⟨none, (.ld 67 none (.t 66))⟩,
    ⟨none, (.ca (some 68) 55 [(.t 67)])⟩,
    ⟨none, (.un 69 .not (.t 68))⟩])
  (.cond (.t 69)
    (.seq (.reg [⟨none, (.mv (some 2) (.v (.int .i64 3)))⟩])
  .ret)
    .skip))
  (.seq (.reg [⟨none, (.fa 70 46 1 (.t 4))⟩,
    ⟨none, (.ld 71 none (.t 70))⟩,
    ⟨none, (.ln 72 none (.t 71))⟩,
    ⟨none, (.ar 73 .gtr (.t 72) (.v (.int .i64 200)))⟩])
  (.cond (.t 73)
    (.seq (.reg [⟨none, (.mv (some 2) (.v (.int .i64 4)))⟩])
  .ret)
    .skip)))))))
  (.reg [⟨none, (.mv (some 52) (.t 3))⟩,
    ⟨none, (.ar 53 .add (.t 52) (.v (.int .i64 1)))⟩,
    ⟨none, (.mv (some 3) (.t 53))⟩]))))))
  (.seq (.seq (.reg [⟨none, (.fa 74 24 3 (.t 1))⟩,
    ⟨none, (.ld 75 none (.t 74))⟩,
    ⟨none, (.ar 76 .lss (.t 75) (.v (.int .i64 0)))⟩,
    ⟨none, (.mv (some 77) (.t 76))⟩,
    ⟨(some (77, false)), (.fa 78 24 3 (.t 1))⟩,
    ⟨(some (77, false)), (.ld 79 none (.t 78))⟩,
    ⟨(some (77, false)), (.ar 80 .gtr (.t 79) (.v (.int .i64 9999)))⟩,
    ⟨none, (.pick 81 (.t 77) (.v (.bool true)) (.t 80))⟩])
  (.cond (.t 81)
    (.seq (.reg [⟨none, (.mv (some 2) (.v (.int .i64 2)))⟩])
  .ret)
    .skip))
  (.seq (.reg [⟨none, (.mv (some 2) (.v (.int .i64 0)))⟩])
  .ret))))))))
noncomputable def ent27 : TEnt := ⟨27, [(.agg 24 (.pair .str (.pair .str (.pair (.sl 46 (.agg 46 (.pair .byte .str))) (.int .i64)))))], (.int .i64), fun x => F27 x, .plain⟩
theorem eq27 (x : dens ent27.as) : ent27.F x = evF [ent52, ent53, ent54, ent55] SHF dc27 [(.tmp 2)] ent27.as ent27.rs x := by kernel_rfl
/-- library/libraryref07.Same -/
noncomputable def F19 (a0 : List UInt8 × List UInt8 × (List (UInt8 × List UInt8)) × Int) (a1 : List UInt8 × List UInt8 × (List (UInt8 × List UInt8)) × Int) : Option (Bool) :=
  cond (!decide (a0.1 = a1.1))
    (some false)
    (cond (!decide (a0.2.1 = a1.2.1))
      (some false)
      (cond (!decide (a0.2.2.2 = a1.2.2.2))
        (some false)
        (cond (!decide ((List.length a0.2.2.1 : Int) = (List.length a1.2.2.1 : Int)))
          (some false)
          (loopK (σ := Int) (fun p1 againp1 =>
            cond (decide (p1 < (List.length a0.2.2.1 : Int)))
              (gd (0 ≤ p1 ∧ p1 < (List.length a0.2.2.1 : Int)) <|
              gd (0 ≤ p1 ∧ p1 < (List.length a1.2.2.1 : Int)) <|
              cond (!(decide ((UInt8.toNat ((List.getD a0.2.2.1 (Int.toNat p1) (0, [])).1) : Int) = (UInt8.toNat ((List.getD a1.2.2.1 (Int.toNat p1) (0, [])).1) : Int)) && (decide ((List.getD a0.2.2.1 (Int.toNat p1) (0, [])).2 = (List.getD a1.2.2.1 (Int.toNat p1) (0, [])).2) && true)))
                (some false)
                (bnd (IntKind.wrap .i64 (p1 + (1 : Int))) fun x2 =>
                againp1 x2))
              (some true)) (0 : Int)))))
def dc19 : DC :=
  (.seq (.reg [⟨none, (.bx 2 (some 24) (.t 0))⟩,
    ⟨none, (.bx 3 (some 24) (.t 1))⟩,
    ⟨none, (.mv (some 4) (.v (.bool false)))⟩])
  (.seq (.seq (.reg [⟨none, (.fa 6 24 0 (.t 2))⟩,
    ⟨none, (.ld 7 none (.t 6))⟩,
    ⟨none, (.fa 8 24 0 (.t 3))⟩,
    ⟨none, (.ld 9 none (.t 8))⟩,
    ⟨none, (.ar 10 .neq (.t 7) (.t 9))⟩,
    ⟨none, (.mv (some 11) (.t 10))⟩,
    ⟨(some (11, false)), (.fa 12 24 1 (.t 2))⟩,
    ⟨(some (11, false)), (.ld 13 none (.t 12))⟩,
    ⟨(some (11, false)), (.fa 14 24 1 (.t 3))⟩,
    ⟨(some (11, false)), (.ld 15 none (.t 14))⟩,
    ⟨(some (11, false)), (.ar 16 .neq (.t 13) (.t 15))⟩,
    ⟨none, (.pick 17 (.t 11) (.v (.bool true)) (.t 16))⟩,
    ⟨none, (.mv (some 18) (.t 17))⟩,
    ⟨(some (18, false)), (.fa 19 24 3 (.t 2))⟩,
    ⟨(some (18, false)), (.ld 20 none (.t 19))⟩,
    ⟨(some (18, false)), (.fa 21 24 3 (.t 3))⟩,
    ⟨(some (18, false)), (.ld 22 none (.t 21))⟩,
    ⟨(some (18, false)), (.ar 23 .neq (.t 20) (.t 22))⟩,
    ⟨none, (.pick 24 (.t 18) (.v (.bool true)) (.t 23))⟩,
    ⟨none, (.mv (some 25) (.t 24))⟩,
    ⟨(some (25, false)), (.fa 26 24 2 (.t 2))⟩,
    ⟨(some (25, false)), (.ld 27 none (.t 26))⟩,
    ⟨(some (25, false)), (.ln 28 (some 46) (.t 27))⟩,
    ⟨(some (25, false)), (.fa 29 24 2 (.t 3))⟩,
    ⟨(some (25, false)), (.ld 30 none (.t 29))⟩,
    ⟨(some (25, false)), (.ln 31 (some 46) (.t 30))⟩,
    ⟨(some (25, false)), (.ar 32 .neq (.t 28) (.t 31))⟩,
    ⟨none, (.pick 33 (.t 25) (.v (.bool true)) (.t 32))⟩])
  (.cond (.t 33)
    (.seq (.reg [⟨none, (.mv (some 4) (.v (.bool false)))⟩])
  .ret)
    .skip))
  (.seq (.seq (.reg [⟨none, (.mv (some 5) (.v (.int .i64 0)))⟩])
  (.block 0 (.loop ⟨[(5, (.lf (.int .i64)))], [], [4, 34, 35, 36, 37, 38, 39, 40, 41, 42, 43, 44, 45, 46, 47, 48, 49, 50, 51].map .s⟩ (.seq (.seq (.reg [⟨none, (.mv (some 34) (.t 5))⟩,
    ⟨none, (.fa 35 24 2 (.t 2))⟩,
    ⟨none, (.ld 36 none (.t 35))⟩,
    ⟨none, (.ln 37 (some 46) (.t 36))⟩,
    ⟨none, (.ar 38 .lss (.t 34) (.t 37))⟩])
  (.cond (.t 38)
    .skip
    (.exit 0)))
  (.seq (.block 1 (.seq (.reg [⟨none, (.fa 41 24 2 (.t 2))⟩,
    ⟨none, (.ld 42 none (.t 41))⟩,
    ⟨none, (.mv (some 43) (.t 5))⟩,
    ⟨none, (.ea 44 46 (.t 42) (.t 43))⟩,
    ⟨none, (.ld 45 (some 46) (.t 44))⟩,
    ⟨none, (.fa 46 24 2 (.t 3))⟩,
    ⟨none, (.ld 47 none (.t 46))⟩,
    ⟨none, (.mv (some 48) (.t 5))⟩,
    ⟨none, (.ea 49 46 (.t 47) (.t 48))⟩,
    ⟨none, (.ld 50 (some 46) (.t 49))⟩,
    ⟨none, (.se 51 (.st [1, 2]) true (.t 45) (.t 50))⟩])
  (.cond (.t 51)
    (.seq (.reg [⟨none, (.mv (some 4) (.v (.bool false)))⟩])
  .ret)
    .skip)))
  (.reg [⟨none, (.mv (some 39) (.t 5))⟩,
    ⟨none, (.ar 40 .add (.t 39) (.v (.int .i64 1)))⟩,
    ⟨none, (.mv (some 5) (.t 40))⟩]))))))
  (.seq (.reg [⟨none, (.mv (some 4) (.v (.bool true)))⟩])
  .ret))))
noncomputable def ent19 : TEnt := ⟨19, [(.agg 24 (.pair .str (.pair .str (.pair (.sl 46 (.agg 46 (.pair .byte .str))) (.int .i64))))), (.agg 24 (.pair .str (.pair .str (.pair (.sl 46 (.agg 46 (.pair .byte .str))) (.int .i64)))))], .bool, fun x => F19 x.1 x.2, .plain⟩
theorem eq19 (x : dens ent19.as) : ent19.F x = evF [] SHF dc19 [(.tmp 4)] ent19.as ent19.rs x := by kernel_rfl
/-- library/libraryref07.Get -/
noncomputable def F13 (a0 : List UInt8 × List UInt8 × (List (UInt8 × List UInt8)) × Int) (a1 : UInt8) : Option (List UInt8 × Bool) :=
  loopK (σ := Int) (fun p1 againp1 =>
    cond (decide (p1 < (List.length a0.2.2.1 : Int)))
      (gd (0 ≤ p1 ∧ p1 < (List.length a0.2.2.1 : Int)) <|
      cond (decide ((UInt8.toNat ((List.getD a0.2.2.1 (Int.toNat p1) (0, [])).1) : Int) = (UInt8.toNat a1 : Int)))
        (gd (0 ≤ p1 ∧ p1 < (List.length a0.2.2.1 : Int)) <|
        some ((List.getD a0.2.2.1 (Int.toNat p1) (0, [])).2, true))
        (bnd (IntKind.wrap .i64 (p1 + (1 : Int))) fun x2 =>
        againp1 x2))
      (some (([] : List UInt8), false))) (0 : Int)
def dc13 : DC :=
  (.seq (.reg [⟨none, (.bx 2 (some 24) (.t 0))⟩,
    ⟨none, (.mv (some 4) (.v (.str [])))⟩,
    ⟨none, (.mv (some 5) (.v (.bool false)))⟩])
  (.seq (.seq (.reg [⟨none, (.mv (some 6) (.v (.int .i64 0)))⟩])
  (.block 0 (.loop ⟨[(6, (.lf (.int .i64)))], [], [4, 5, 7, 8, 9, 10, 11, 12, 13, 14, 15, 16, 17, 18, 19, 20, 21, 22, 23, 24, 25, 26, 27].map .s⟩ (.seq (.seq (.reg [⟨none, (.mv (some 7) (.t 6))⟩,
    ⟨none, (.fa 8 24 2 (.t 2))⟩,
    ⟨none, (.ld 9 none (.t 8))⟩,
    ⟨none, (.ln 10 (some 46) (.t 9))⟩,
    ⟨none, (.ar 11 .lss (.t 7) (.t 10))⟩])
  (.cond (.t 11)
    .skip
    (.exit 0)))
  (.seq (.block 1 (.seq (.reg [⟨none, (.fa 14 24 2 (.t 2))⟩,
    ⟨none, (.ld 15 none (.t 14))⟩,
    ⟨none, (.mv (some 16) (.t 6))⟩,
    ⟨none, (.ea 17 46 (.t 15) (.t 16))⟩,
    ⟨none, (.fa 18 46 0 (.t 17))⟩,
    ⟨none, (.ld 19 none (.t 18))⟩,
    ⟨none, (.mv (some 20) (.t 1))⟩,
    ⟨none, (.ar 21 .eql (.t 19) (.t 20))⟩])
  (.cond (.t 21)
    (.seq (.reg [⟨none, (.fa 22 24 2 (.t 2))⟩,
    ⟨none, (.ld 23 none (.t 22))⟩,
    ⟨none, (.mv (some 24) (.t 6))⟩,
    ⟨none, (.ea 25 46 (.t 23) (.t 24))⟩,
    ⟨none, (.fa 26 46 1 (.t 25))⟩,
    ⟨none, (.ld 27 none (.t 26))⟩,
    ⟨none, (.mv (some 4) (.t 27))⟩,
    ⟨none, (.mv (some 5) (.v (.bool true)))⟩])
  .ret)
    .skip)))
  (.reg [⟨none, (.mv (some 12) (.t 6))⟩,
    ⟨none, (.ar 13 .add (.t 12) (.v (.int .i64 1)))⟩,
    ⟨none, (.mv (some 6) (.t 13))⟩]))))))
  (.seq (.reg [⟨none, (.mv (some 4) (.v (.str [])))⟩,
    ⟨none, (.mv (some 5) (.v (.bool false)))⟩])
  .ret)))
noncomputable def ent13 : TEnt := ⟨13, [(.agg 24 (.pair .str (.pair .str (.pair (.sl 46 (.agg 46 (.pair .byte .str))) (.int .i64))))), .byte], (.tup (.pair .str .bool)), fun x => F13 x.1 x.2, .plain⟩
theorem eq13 (x : dens ent13.as) : ent13.F x = evF [] SHF dc13 [(.tmp 4), (.tmp 5)] ent13.as ent13.rs x := by kernel_rfl
/-- library/libraryref07.in -/
noncomputable def F32 (a0 : UInt8) (a1 : List UInt8) : Option (Bool) :=
  loopK (σ := Int) (fun p1 againp1 =>
    cond (decide (p1 < (List.length a1 : Int)))
      (gd (0 ≤ p1 ∧ p1 < (List.length a1 : Int)) <|
      cond (decide ((UInt8.toNat (List.getD a1 (Int.toNat p1) 0) : Int) = (UInt8.toNat a0 : Int)))
        (some true)
        (bnd (IntKind.wrap .i64 (p1 + (1 : Int))) fun x2 =>
        againp1 x2))
      (some (decide (a1 = ([] : List UInt8))))) (0 : Int)
def dc32 : DC :=
  (.seq (.reg [⟨none, (.mv (some 4) (.v (.bool false)))⟩])
  (.seq (.seq (.reg [⟨none, (.mv (some 5) (.v (.int .i64 0)))⟩])
  (.block 0 (.loop ⟨[(5, (.lf (.int .i64)))], [], [4, 6, 7, 8, 9, 10, 11, 12, 13, 14, 15, 16].map .s⟩ (.seq (.seq (.reg [⟨none, (.mv (some 6) (.t 5))⟩,
    ⟨none, (.mv (some 7) (.t 1))⟩,
    ⟨none, (.ln 8 none (.t 7))⟩,
    ⟨none, (.ar 9 .lss (.t 6) (.t 8))⟩])
  (.cond (.t 9)
    .skip
    (.exit 0)))
  (.seq (.block 1 (.seq (.reg [⟨none, (.mv (some 12) (.t 1))⟩,
    ⟨none, (.mv (some 13) (.t 5))⟩,
    ⟨none, (.ix 14 (.t 12) (.t 13))⟩,
    ⟨none, (.mv (some 15) (.t 0))⟩,
    ⟨none, (.ar 16 .eql (.t 14) (.t 15))⟩])
  (.cond (.t 16)
    (.seq (.reg [⟨none, (.mv (some 4) (.v (.bool true)))⟩])
  .ret)
    .skip)))
  (.reg [⟨none, (.mv (some 10) (.t 5))⟩,
    ⟨none, (.ar 11 .add (.t 10) (.v (.int .i64 1)))⟩,
    ⟨none, (.mv (some 5) (.t 11))⟩]))))))
  (.seq (.reg [⟨none, (.mv (some 17) (.t 1))⟩,
    ⟨none, (.ar 18 .eql (.t 17) (.v (.str [])))⟩,
    ⟨none, (.mv (some 4) (.t 18))⟩])
  .ret)))
noncomputable def ent32 : TEnt := ⟨32, [.byte, .str], .bool, fun x => F32 x.1 x.2, .plain⟩
theorem eq32 (x : dens ent32.as) : ent32.F x = evF [] SHF dc32 [(.tmp 4)] ent32.as ent32.rs x := by kernel_rfl
/-- library/libraryref07.All -/
noncomputable def F16 (a0 : List UInt8 × List UInt8 × (List (UInt8 × List UInt8)) × Int) (a1 : List UInt8) : Option (List (List UInt8)) :=
  gdN (List.length ([] : List (List UInt8))) (List.length ([] : List (List UInt8))) <|
  loopK (σ := List (List UInt8) × Int) (fun p1 againp1 =>
    cond (decide (p1.2 < (List.length a0.2.2.1 : Int)))
      (gd (0 ≤ p1.2 ∧ p1.2 < (List.length a0.2.2.1 : Int)) <|
      bindO (F32 ((List.getD a0.2.2.1 (Int.toNat p1.2) (0, [])).1) a1) fun y2 =>
      cond (y2)
        (gd (0 ≤ p1.2 ∧ p1.2 < (List.length a0.2.2.1 : Int)) <|
        gdN (List.length p1.1) (List.length p1.1) <|
        gd (List.length p1.1 + List.length [(List.getD a0.2.2.1 (Int.toNat p1.2) (0, [])).2] ≤ big) <|
        bnd (p1.1 ++ [(List.getD a0.2.2.1 (Int.toNat p1.2) (0, [])).2]) fun l3 =>
        bnd (IntKind.wrap .i64 (p1.2 + (1 : Int))) fun x4 =>
        gdN (List.length l3) (List.length l3) <|
        againp1 (l3, x4))
        (bnd (IntKind.wrap .i64 (p1.2 + (1 : Int))) fun x5 =>
        gdN (List.length p1.1) (List.length p1.1) <|
        againp1 (p1.1, x5)))
      (some p1.1)) (([] : List (List UInt8)), (0 : Int))
def dc16 : DC :=
  (.seq (.reg [⟨none, (.bx 2 (some 24) (.t 0))⟩,
    ⟨none, (.nl 4 9)⟩])
  (.seq (.reg [⟨none, (.nl 5 9)⟩])
  (.seq (.seq (.reg [⟨none, (.mv (some 6) (.v (.int .i64 0)))⟩])
  (.block 0 (.loop ⟨[(5, (.row 5 9 .str)), (6, (.lf (.int .i64)))], [], [7, 8, 9, 10, 11, 12, 13, 14, 15, 16, 17, 18, 19, 20, 21, 22, 23, 24, 25, 26, 27, 28, 29, 30].map .s ++ [29].map .f⟩ (.seq (.seq (.reg [⟨none, (.mv (some 7) (.t 6))⟩,
    ⟨none, (.fa 8 24 2 (.t 2))⟩,
    ⟨none, (.ld 9 none (.t 8))⟩,
    ⟨none, (.ln 10 (some 46) (.t 9))⟩,
    ⟨none, (.ar 11 .lss (.t 7) (.t 10))⟩])
  (.cond (.t 11)
    .skip
    (.exit 0)))
  (.seq (.block 1 (.seq (.reg [⟨none, (.fa 14 24 2 (.t 2))⟩,
    ⟨none, (.ld 15 none (.t 14))⟩,
    ⟨none, (.mv (some 16) (.t 6))⟩,
    ⟨none, (.ea 17 46 (.t 15) (.t 16))⟩,
    ⟨none, (.fa 18 46 0 (.t 17))⟩,
    ⟨none, (.ld 19 none (.t 18))⟩,
    ⟨none, (.mv (some 20) (.t 1))⟩,
    ⟨none, (.ca (some 21) 32 [(.t 19), (.t 20)])⟩])
  (.cond (.t 21)
    (.reg [⟨none, (.mv (some 22) (.t 5))⟩,
    ⟨none, (.fa 23 24 2 (.t 2))⟩,
    ⟨none, (.ld 24 none (.t 23))⟩,
    ⟨none, (.mv (some 25) (.t 6))⟩,
    ⟨none, (.ea 26 46 (.t 24) (.t 25))⟩,
    ⟨none, (.fa 27 46 1 (.t 26))⟩,
    ⟨none, (.ld 28 none (.t 27))⟩,
    ⟨none, (.bs 29 9 none [(.t 28)])⟩,
    ⟨none, (.ap 30 9 (.t 22) (.t 29))⟩,
    ⟨none, (.mv (some 5) (.t 30))⟩])
    .skip)))
  (.reg [⟨none, (.mv (some 12) (.t 6))⟩,
    ⟨none, (.ar 13 .add (.t 12) (.v (.int .i64 1)))⟩,
    ⟨none, (.mv (some 6) (.t 13))⟩]))))))
  (.seq (.reg [⟨none, (.mv (some 31) (.t 5))⟩,
    ⟨none, (.mv (some 4) (.t 31))⟩])
  .ret))))
noncomputable def ent16 : TEnt := ⟨16, [(.agg 24 (.pair .str (.pair .str (.pair (.sl 46 (.agg 46 (.pair .byte .str))) (.int .i64))))), .str], (.sl 9 .str), fun x => F16 x.1 x.2, .plain⟩
theorem eq16 (x : dens ent16.as) : ent16.F x = evF [ent32] SHF dc16 [(.tmp 4)] ent16.as ent16.rs x := by kernel_rfl
/-- library/libraryref01.Join -/
noncomputable def F34 (a0 : List (List UInt8)) (a1 : List UInt8) : Option (List UInt8) :=
  loopK (σ := List UInt8 × Int) (fun p1 againp1 =>
    cond (decide (p1.2 < (List.length a0 : Int)))
      (jn (σ := List UInt8) (fun nextj2 =>
        cond (decide ((0 : Int) < p1.2))
          (gd (List.length p1.1 + List.length a1 ≤ big) <|
          bnd (p1.1 ++ a1) fun x3 =>
          nextj2 x3)
          (nextj2 p1.1)) fun j2 =>
      gd (0 ≤ p1.2 ∧ p1.2 < (List.length a0 : Int)) <|
      gd (List.length j2 + List.length (List.getD a0 (Int.toNat p1.2) []) ≤ big) <|
      bnd (j2 ++ (List.getD a0 (Int.toNat p1.2) [])) fun x4 =>
      bnd (IntKind.wrap .i64 (p1.2 + (1 : Int))) fun x5 =>
      againp1 (x4, x5))
      (some p1.1)) (([] : List UInt8), (0 : Int))
def dc34 : DC :=
  (.seq (.reg [⟨none, (.mv (some 4) (.v (.str [])))⟩])
  (.seq (.reg [⟨none, (.mv (some 5) (.v (.str [])))⟩])
  (.seq (.seq (.reg [⟨none, (.mv (some 6) (.v (.int .i64 0)))⟩])
  (.block 0 (.loop ⟨[(5, (.lf .str)), (6, (.lf (.int .i64)))], [], [7, 8, 9, 10, 11, 12, 13, 14, 15, 16, 17, 18, 19, 20, 21, 22, 23].map .s⟩ (.seq (.seq (.reg [⟨none, (.mv (some 7) (.t 6))⟩,
    ⟨none, (.mv (some 8) (.t 0))⟩,
    ⟨none, (.ln 9 (some 9) (.t 8))⟩,
    ⟨none, (.ar 10 .lss (.t 7) (.t 9))⟩])
  (.cond (.t 10)
    .skip
    (.exit 0)))
  (.seq (.block 1 (.jn ⟨[(5, (.lf .str))], [], [13, 14, 15, 16, 17].map .s⟩ (.seq (.reg [⟨none, (.mv (some 13) (.t 6))⟩,
    ⟨none, (.ar 14 .gtr (.t 13) (.v (.int .i64 0)))⟩])
  (.cond (.t 14)
    (.reg [⟨none, (.mv (some 15) (.t 5))⟩,
    ⟨none, (.mv (some 16) (.t 1))⟩,
    ⟨none, (.ar 17 .add (.t 15) (.t 16))⟩,
    ⟨none, (.mv (some 5) (.t 17))⟩])
    .skip))
  (.reg [⟨none, (.mv (some 18) (.t 5))⟩,
    ⟨none, (.mv (some 19) (.t 0))⟩,
    ⟨none, (.mv (some 20) (.t 6))⟩,
    ⟨none, (.ea 21 9 (.t 19) (.t 20))⟩,
    ⟨none, (.ld 22 none (.t 21))⟩,
    ⟨none, (.ar 23 .add (.t 18) (.t 22))⟩,
    ⟨none, (.mv (some 5) (.t 23))⟩])))
  (.reg [⟨none, (.mv (some 11) (.t 6))⟩,
    ⟨none, (.ar 12 .add (.t 11) (.v (.int .i64 1)))⟩,
    ⟨none, (.mv (some 6) (.t 12))⟩]))))))
  (.seq (.reg [⟨none, (.mv (some 24) (.t 5))⟩,
    ⟨none, (.mv (some 4) (.t 24))⟩])
  .ret))))
noncomputable def ent34 : TEnt := ⟨34, [(.sl 9 .str), .str], .str, fun x => F34 x.1 x.2, .plain⟩
theorem eq34 (x : dens ent34.as) : ent34.F x = evF [] SHF dc34 [(.tmp 4)] ent34.as ent34.rs x := by kernel_rfl
/-- library/libraryref07.Plain -/
noncomputable def F18 (a0 : List UInt8 × List UInt8 × (List (UInt8 × List UInt8)) × Int) (a1 : List UInt8) : Option (List UInt8) :=
  bindO (F16 a0 a1) fun y1 =>
  bindO (F34 y1 ([32] : List UInt8)) fun y2 =>
  some y2
def dc18 : DC :=
  (.seq (.reg [⟨none, (.bx 2 (some 24) (.t 0))⟩,
    ⟨none, (.mv (some 4) (.v (.str [])))⟩])
  (.seq (.reg [⟨none, (.ld 5 (some 24) (.t 2))⟩,
    ⟨none, (.mv (some 6) (.t 1))⟩,
    ⟨none, (.ca (some 7) 16 [(.t 5), (.t 6)])⟩,
    ⟨none, (.ca (some 8) 34 [(.t 7), (.v (.str [32]))])⟩,
    ⟨none, (.mv (some 4) (.t 8))⟩])
  .ret))
noncomputable def ent18 : TEnt := ⟨18, [(.agg 24 (.pair .str (.pair .str (.pair (.sl 46 (.agg 46 (.pair .byte .str))) (.int .i64))))), .str], .str, fun x => F18 x.1 x.2, .plain⟩
theorem eq18 (x : dens ent18.as) : ent18.F x = evF [ent16, ent34] SHF dc18 [(.tmp 4)] ent18.as ent18.rs x := by kernel_rfl
/-- library/libraryref07.Set -/
noncomputable def F21 (a0 : List UInt8 × List UInt8 × (List (UInt8 × List UInt8)) × Int) (a1 : UInt8) (a2 : List UInt8) : Option (List UInt8 × List UInt8 × (List (UInt8 × List UInt8)) × Int) :=
  gdN (List.length ([] : List (UInt8 × List UInt8))) (List.length ([] : List (UInt8 × List UInt8))) <|
  loopK (σ := (List (UInt8 × List UInt8)) × Bool × Int) (fun p1 againp1 =>
    cond (decide (p1.2.2 < (List.length a0.2.2.1 : Int)))
      (gd (0 ≤ p1.2.2 ∧ p1.2.2 < (List.length a0.2.2.1 : Int)) <|
      cond (!decide ((UInt8.toNat ((List.getD a0.2.2.1 (Int.toNat p1.2.2) (0, [])).1) : Int) = (UInt8.toNat a1 : Int)))
        (gdN (List.length p1.1) (List.length p1.1) <|
        gd (List.length p1.1 + List.length [(List.getD a0.2.2.1 (Int.toNat p1.2.2) (0, []))] ≤ big) <|
        bnd (p1.1 ++ [(List.getD a0.2.2.1 (Int.toNat p1.2.2) (0, []))]) fun l2 =>
        bnd (IntKind.wrap .i64 (p1.2.2 + (1 : Int))) fun x3 =>
        gdN (List.length l2) (List.length l2) <|
        againp1 (l2, p1.2.1, x3))
        (jn (σ := Bool) (fun nextj4 =>
          cond (!decide (a2 = ([] : List UInt8)))
            (nextj4 p1.2.1)
            (nextj4 false)) fun j4 =>
        cond (j4)
          (gdN (List.length p1.1) (List.length p1.1) <|
          gd (List.length p1.1 + List.length [(List.getD a0.2.2.1 (Int.toNat p1.2.2) (0, []))] ≤ big) <|
          bnd (p1.1 ++ [(List.getD a0.2.2.1 (Int.toNat p1.2.2) (0, []))]) fun l5 =>
          bnd (IntKind.wrap .i64 (p1.2.2 + (1 : Int))) fun x6 =>
          gdN (List.length l5) (List.length l5) <|
          againp1 (l5, p1.2.1, x6))
          (cond (!decide (a2 = ([] : List UInt8)))
            (gdN (List.length p1.1) (List.length p1.1) <|
            gd (List.length p1.1 + List.length [(a1, a2)] ≤ big) <|
            bnd (p1.1 ++ [(a1, a2)]) fun l7 =>
            bnd (IntKind.wrap .i64 (p1.2.2 + (1 : Int))) fun x8 =>
            gdN (List.length l7) (List.length l7) <|
            againp1 (l7, true, x8))
            (bnd (IntKind.wrap .i64 (p1.2.2 + (1 : Int))) fun x9 =>
            gdN (List.length p1.1) (List.length p1.1) <|
            againp1 (p1.1, p1.2.1, x9)))))
      (cond (!p1.2.1)
        (gdN (List.length p1.1) (List.length p1.1) <|
        gd (List.length p1.1 + List.length [(a1, a2)] ≤ big) <|
        bnd (p1.1 ++ [(a1, a2)]) fun l10 =>
        some (a0.1, a0.2.1, l10, a0.2.2.2))
        (some (a0.1, a0.2.1, p1.1, a0.2.2.2)))) (([] : List (UInt8 × List UInt8)), decide (a2 = ([] : List UInt8)), (0 : Int))
def dc21 : DC :=
  (.seq (.reg [⟨none, (.bx 3 (some 24) (.t 0))⟩,
    ⟨none, (.al 6 (.agg 24 [(.str []), (.str []), (.sl none 46 []), (.int .i64 0)]))⟩])
  (.seq (.reg [⟨none, (.nl 7 46)⟩])
  (.seq (.reg [⟨none, (.mv (some 11) (.t 2))⟩,
    ⟨none, (.ar 12 .eql (.t 11) (.v (.str [])))⟩,
    ⟨none, (.mv (some 8) (.t 12))⟩])
  (.seq (.seq (.reg [⟨none, (.mv (some 9) (.v (.int .i64 0)))⟩])
  (.block 0 (.loop ⟨[(7, (.row 7 46 (.agg 46 (.pair .byte .str)))), (8, (.lf .bool)), (9, (.lf (.int .i64)))], [], [10, 13, 14, 15, 16, 17, 18, 19, 20, 21, 22, 23, 24, 25, 26, 27, 28, 29, 30, 31, 32, 33, 34, 35, 36, 37, 38, 39, 40, 41, 42, 43, 44, 45, 46, 47, 48, 49].map .s ++ [10].map .b ++ [31, 40, 48].map .f⟩ (.seq (.seq (.reg [⟨none, (.mv (some 13) (.t 9))⟩,
    ⟨none, (.fa 14 24 2 (.t 3))⟩,
    ⟨none, (.ld 15 none (.t 14))⟩,
    ⟨none, (.ln 16 (some 46) (.t 15))⟩,
    ⟨none, (.ar 17 .lss (.t 13) (.t 16))⟩])
  (.cond (.t 17)
    .skip
    (.exit 0)))
  (.seq (.block 1 (.seq (.reg [⟨none, (.fa 20 24 2 (.t 3))⟩,
    ⟨none, (.ld 21 none (.t 20))⟩,
    ⟨none, (.mv (some 22) (.t 9))⟩,
    ⟨none, (.ea 23 46 (.t 21) (.t 22))⟩,
    ⟨none, (.ld 24 (some 46) (.t 23))⟩,
    ⟨none, (.al 10 (.agg 46 [(.int .u8 0), (.str [])]))⟩,
    ⟨none, (.st (some 46) (.t 10) (.t 24))⟩])
  (.seq (.reg [⟨none, (.fa 25 46 0 (.t 10))⟩,
    ⟨none, (.ld 26 none (.t 25))⟩,
    ⟨none, (.mv (some 27) (.t 1))⟩,
    ⟨none, (.ar 28 .neq (.t 26) (.t 27))⟩])
  (.cond (.t 28)
    (.reg [⟨none, (.mv (some 29) (.t 7))⟩,
    ⟨none, (.ld 30 (some 46) (.t 10))⟩,
    ⟨none, (.bs 31 46 (some 46) [(.t 30)])⟩,
    ⟨none, (.ap 32 46 (.t 29) (.t 31))⟩,
    ⟨none, (.mv (some 7) (.t 32))⟩])
    (.jn ⟨[(37, (.lf .bool))], [], [33, 34, 35, 36].map .s⟩ (.reg [⟨none, (.mv (some 33) (.t 2))⟩,
    ⟨none, (.ar 34 .neq (.t 33) (.v (.str [])))⟩,
    ⟨none, (.mv (some 35) (.t 34))⟩,
    ⟨(some (35, true)), (.mv (some 36) (.t 8))⟩,
    ⟨none, (.pick 37 (.t 35) (.t 36) (.v (.bool false)))⟩])
  (.cond (.t 37)
    (.reg [⟨none, (.mv (some 38) (.t 7))⟩,
    ⟨none, (.ld 39 (some 46) (.t 10))⟩,
    ⟨none, (.bs 40 46 (some 46) [(.t 39)])⟩,
    ⟨none, (.ap 41 46 (.t 38) (.t 40))⟩,
    ⟨none, (.mv (some 7) (.t 41))⟩])
    (.seq (.reg [⟨none, (.mv (some 42) (.t 2))⟩,
    ⟨none, (.ar 43 .neq (.t 42) (.v (.str [])))⟩])
  (.cond (.t 43)
    (.seq (.reg [⟨none, (.mv (some 44) (.t 7))⟩,
    ⟨none, (.mv (some 45) (.t 1))⟩,
    ⟨none, (.mv (some 46) (.t 2))⟩,
    ⟨none, (.bd 47 46 [(.int .u8 0), (.str [])] [0, 1] [(.t 45), (.t 46)])⟩,
    ⟨none, (.bs 48 46 (some 46) [(.t 47)])⟩,
    ⟨none, (.ap 49 46 (.t 44) (.t 48))⟩,
    ⟨none, (.mv (some 7) (.t 49))⟩])
  (.reg [⟨none, (.mv (some 8) (.v (.bool true)))⟩]))
    .skip))))))))
  (.reg [⟨none, (.mv (some 18) (.t 9))⟩,
    ⟨none, (.ar 19 .add (.t 18) (.v (.int .i64 1)))⟩,
    ⟨none, (.mv (some 9) (.t 19))⟩]))))))
  (.seq (.seq (.reg [⟨none, (.mv (some 50) (.t 8))⟩,
    ⟨none, (.un 51 .not (.t 50))⟩])
  (.cond (.t 51)
    (.reg [⟨none, (.mv (some 52) (.t 7))⟩,
    ⟨none, (.mv (some 53) (.t 1))⟩,
    ⟨none, (.mv (some 54) (.t 2))⟩,
    ⟨none, (.bd 55 46 [(.int .u8 0), (.str [])] [0, 1] [(.t 53), (.t 54)])⟩,
    ⟨none, (.bs 56 46 (some 46) [(.t 55)])⟩,
    ⟨none, (.ap 57 46 (.t 52) (.t 56))⟩,
    ⟨none, (.mv (some 7) (.t 57))⟩])
    .skip))
  (.seq (.reg [⟨none, (.mv (some 58) (.t 7))⟩,
    ⟨none, (.fa 59 24 2 (.t 3))⟩,
    ⟨none, (.st none (.t 59) (.t 58))⟩])
  (.seq (.reg [⟨none, (.ld 60 (some 24) (.t 3))⟩,
    ⟨none, (.st (some 24) (.t 6) (.t 60))⟩])
  .ret)))))))
noncomputable def ent21 : TEnt := ⟨21, [(.agg 24 (.pair .str (.pair .str (.pair (.sl 46 (.agg 46 (.pair .byte .str))) (.int .i64))))), .byte, .str], (.agg 24 (.pair .str (.pair .str (.pair (.sl 46 (.agg 46 (.pair .byte .str))) (.int .i64))))), fun x => F21 x.1 x.2.1 x.2.2, .plain⟩
theorem eq21 (x : dens ent21.as) : ent21.F x = evF [] SHF dc21 [(.cell 6 (some 24))] ent21.as ent21.rs x := by kernel_rfl
/-- library/libraryref07.mark -/
noncomputable def F44 (a0 : UInt8) : Option (List UInt8) :=
  cond (decide ((UInt8.toNat a0 : Int) = (32 : Int)))
    (some ([35] : List UInt8))
    (some [a0])
def dc44 : DC :=
  (.seq (.reg [⟨none, (.mv (some 2) (.v (.str [])))⟩])
  (.seq (.seq (.reg [⟨none, (.mv (some 3) (.t 0))⟩,
    ⟨none, (.ar 4 .eql (.t 3) (.v (.int .u8 32)))⟩])
  (.cond (.t 4)
    (.seq (.reg [⟨none, (.mv (some 2) (.v (.str [35])))⟩])
  .ret)
    .skip))
  (.seq (.reg [⟨none, (.mv (some 5) (.t 0))⟩,
    ⟨none, (.bs 6 5 none [(.t 5)])⟩,
    ⟨none, (.cvb 7 (.t 6))⟩,
    ⟨none, (.mv (some 2) (.t 7))⟩])
  .ret)))
noncomputable def ent44 : TEnt := ⟨44, [.byte], .str, fun x => F44 x, .plain⟩
theorem eq44 (x : dens ent44.as) : ent44.F x = evF [] SHF dc44 [(.tmp 2)] ent44.as ent44.rs x := by kernel_rfl
/-- library/libraryref01.Digits -/
noncomputable def F43 (a0 : Int) (a1 : Int) : Option (List UInt8) :=
  loopK (σ := Int × List UInt8) (fun p1 againp1 =>
    jn (σ := Unit) (fun nextj2 =>
      cond (decide ((0 : Int) < p1.1))
        (nextj2 ())
        (cond (decide (p1.2 = ([] : List UInt8)))
          (nextj2 ())
          (loopK (σ := List UInt8) (fun p3 againp3 =>
            cond (decide ((List.length p3 : Int) < a1))
              (gd (List.length ([48] : List UInt8) + List.length p3 ≤ big) <|
              bnd (([48] : List UInt8) ++ p3) fun x4 =>
              againp3 x4)
              (some p3)) p1.2))) fun j2 =>
    gd ((10 : Int) ≠ 0) <|
    bnd (Int.tmod p1.1 (10 : Int)) fun x5 =>
    gd ((10 : Int) ≠ 0) <|
    bnd (Int.tmod p1.1 (10 : Int)) fun x6 =>
    bnd (IntKind.wrap .i64 (x6 + (1 : Int))) fun x7 =>
    gd (0 ≤ x5 ∧ x5 ≤ x7 ∧ x7 ≤ (List.length ([48, 49, 50, 51, 52, 53, 54, 55, 56, 57] : List UInt8) : Int)) <|
    bnd (List.drop (Int.toNat x5) (List.take (Int.toNat x7) ([48, 49, 50, 51, 52, 53, 54, 55, 56, 57] : List UInt8))) fun x8 =>
    gd (List.length x8 + List.length p1.2 ≤ big) <|
    bnd (x8 ++ p1.2) fun x9 =>
    gd ((10 : Int) ≠ 0) <|
    bnd (IntKind.wrap .i64 (Int.tdiv p1.1 (10 : Int))) fun x10 =>
    againp1 (x10, x9)) (a0, ([] : List UInt8))
def dc43 : DC :=
  (.seq (.reg [⟨none, (.mv (some 4) (.v (.str [])))⟩])
  (.seq (.reg [⟨none, (.mv (some 5) (.v (.str [48, 49, 50, 51, 52, 53, 54, 55, 56, 57])))⟩])
  (.seq (.reg [⟨none, (.mv (some 6) (.v (.str [])))⟩])
  (.seq (.block 0 (.loop ⟨[(0, (.lf (.int .i64))), (6, (.lf .str))], [], [7, 8, 9, 10, 11, 12, 13, 14, 15, 16, 17, 18, 19, 20, 21, 22, 23].map .s⟩ (.jn ⟨[], [], [7, 8, 9, 10, 11, 12].map .s⟩ (.seq (.reg [⟨none, (.mv (some 7) (.t 0))⟩,
    ⟨none, (.ar 8 .gtr (.t 7) (.v (.int .i64 0)))⟩,
    ⟨none, (.mv (some 9) (.t 8))⟩,
    ⟨(some (9, false)), (.mv (some 10) (.t 6))⟩,
    ⟨(some (9, false)), (.ar 11 .eql (.t 10) (.v (.str [])))⟩,
    ⟨none, (.pick 12 (.t 9) (.v (.bool true)) (.t 11))⟩])
  (.cond (.t 12)
    .skip
    (.exit 0)))
  (.block 1 (.seq (.reg [⟨none, (.mv (some 13) (.t 5))⟩,
    ⟨none, (.mv (some 14) (.t 0))⟩,
    ⟨none, (.ar 15 .rem (.t 14) (.v (.int .i64 10)))⟩,
    ⟨none, (.mv (some 16) (.t 0))⟩,
    ⟨none, (.ar 17 .rem (.t 16) (.v (.int .i64 10)))⟩,
    ⟨none, (.ar 18 .add (.t 17) (.v (.int .i64 1)))⟩,
    ⟨none, (.sc 19 none (.t 13) (some (.t 15)) (some (.t 18)))⟩,
    ⟨none, (.mv (some 20) (.t 6))⟩,
    ⟨none, (.ar 21 .add (.t 19) (.t 20))⟩,
    ⟨none, (.mv (some 6) (.t 21))⟩])
  (.reg [⟨none, (.mv (some 22) (.t 0))⟩,
    ⟨none, (.ar 23 .quo (.t 22) (.v (.int .i64 10)))⟩,
    ⟨none, (.mv (some 0) (.t 23))⟩]))))))
  (.seq (.block 2 (.loop ⟨[(6, (.lf .str))], [], [24, 25, 26, 27, 28, 29].map .s⟩ (.seq (.seq (.reg [⟨none, (.mv (some 24) (.t 6))⟩,
    ⟨none, (.ln 25 none (.t 24))⟩,
    ⟨none, (.mv (some 26) (.t 1))⟩,
    ⟨none, (.ar 27 .lss (.t 25) (.t 26))⟩])
  (.cond (.t 27)
    .skip
    (.exit 2)))
  (.block 3 (.reg [⟨none, (.mv (some 28) (.t 6))⟩,
    ⟨none, (.ar 29 .add (.v (.str [48])) (.t 28))⟩,
    ⟨none, (.mv (some 6) (.t 29))⟩])))))
  (.seq (.reg [⟨none, (.mv (some 30) (.t 6))⟩,
    ⟨none, (.mv (some 4) (.t 30))⟩])
  .ret))))))
noncomputable def ent43 : TEnt := ⟨43, [(.int .i64), (.int .i64)], .str, fun x => F43 x.1 x.2, .plain⟩
theorem eq43 (x : dens ent43.as) : ent43.F x = evF [] SHF dc43 [(.tmp 4)] ent43.as ent43.rs x := by kernel_rfl
/-- library/libraryref07.Print -/
noncomputable def F23 (a0 : List UInt8 × List UInt8 × (List (UInt8 × List UInt8)) × Int) : Option (List UInt8 × Int) :=
  bindO (F27 a0) fun y1 =>
  cond (!decide (y1 = (0 : Int)))
    (some (([] : List UInt8), y1))
    (jn (σ := List UInt8) (fun nextj2 =>
      cond (!decide (a0.2.2.2 = (0 : Int)))
        (gd (List.length a0.1 + List.length ([64] : List UInt8) ≤ big) <|
        bnd (a0.1 ++ ([64] : List UInt8)) fun x3 =>
        bindO (F43 a0.2.2.2 (1 : Int)) fun y4 =>
        gd (List.length x3 + List.length y4 ≤ big) <|
        bnd (x3 ++ y4) fun x5 =>
        nextj2 x5)
        (nextj2 a0.1)) fun j2 =>
    gd (List.length j2 + List.length ([32] : List UInt8) ≤ big) <|
    bnd (j2 ++ ([32] : List UInt8)) fun x6 =>
    gd (0 ≤ (0 : Int) ∧ (0 : Int) < (List.length a0.2.1 : Int)) <|
    bindO (F44 (List.getD a0.2.1 (Int.toNat (0 : Int)) 0)) fun y7 =>
    gd (List.length x6 + List.length y7 ≤ big) <|
    bnd (x6 ++ y7) fun x8 =>
    gd (0 ≤ (1 : Int) ∧ (1 : Int) < (List.length a0.2.1 : Int)) <|
    bindO (F44 (List.getD a0.2.1 (Int.toNat (1 : Int)) 0)) fun y9 =>
    gd (List.length x8 + List.length y9 ≤ big) <|
    bnd (x8 ++ y9) fun x10 =>
    gd (List.length x10 + List.length ([32] : List UInt8) ≤ big) <|
    bnd (x10 ++ ([32] : List UInt8)) fun x11 =>
    loopK (σ := List UInt8 × Int) (fun p12 againp12 =>
      cond (decide (p12.2 < (List.length a0.2.2.1 : Int)))
        (gd (List.length p12.1 + List.length ([36] : List UInt8) ≤ big) <|
        bnd (p12.1 ++ ([36] : List UInt8)) fun x13 =>
        gd (0 ≤ p12.2 ∧ p12.2 < (List.length a0.2.2.1 : Int)) <|
        gd (List.length x13 + List.length [(List.getD a0.2.2.1 (Int.toNat p12.2) (0, [])).1] ≤ big) <|
        bnd (x13 ++ [(List.getD a0.2.2.1 (Int.toNat p12.2) (0, [])).1]) fun x14 =>
        gd (0 ≤ p12.2 ∧ p12.2 < (List.length a0.2.2.1 : Int)) <|
        loopK (σ := List UInt8 × Int) (fun p15 againp15 =>
          cond (decide (p15.2 < (List.length ((List.getD a0.2.2.1 (Int.toNat p12.2) (0, [])).2) : Int)))
            (jn (σ := List UInt8) (fun nextj16 =>
              gd (0 ≤ p15.2 ∧ p15.2 < (List.length ((List.getD a0.2.2.1 (Int.toNat p12.2) (0, [])).2) : Int)) <|
              cond (decide ((UInt8.toNat (List.getD ((List.getD a0.2.2.1 (Int.toNat p12.2) (0, [])).2) (Int.toNat p15.2) 0) : Int) = (36 : Int)))
                (gd (List.length p15.1 + List.length ([36] : List UInt8) ≤ big) <|
                bnd (p15.1 ++ ([36] : List UInt8)) fun x17 =>
                nextj16 x17)
                (nextj16 p15.1)) fun j16 =>
            bnd (IntKind.wrap .i64 (p15.2 + (1 : Int))) fun x18 =>
            gd (0 ≤ p15.2 ∧ p15.2 ≤ x18 ∧ x18 ≤ (List.length ((List.getD a0.2.2.1 (Int.toNat p12.2) (0, [])).2) : Int)) <|
            bnd (List.drop (Int.toNat p15.2) (List.take (Int.toNat x18) ((List.getD a0.2.2.1 (Int.toNat p12.2) (0, [])).2))) fun x19 =>
            gd (List.length j16 + List.length x19 ≤ big) <|
            bnd (j16 ++ x19) fun x20 =>
            bnd (IntKind.wrap .i64 (p15.2 + (1 : Int))) fun x21 =>
            againp15 (x20, x21))
            (bnd (IntKind.wrap .i64 (p12.2 + (1 : Int))) fun x22 =>
            againp12 (p15.1, x22))) (x14, (0 : Int)))
        (some (p12.1, (0 : Int)))) (x11, (0 : Int)))
def dc23 : DC :=
  (.seq (.reg [⟨none, (.bx 1 (some 24) (.t 0))⟩,
    ⟨none, (.mv (some 2) (.v (.str [])))⟩,
    ⟨none, (.mv (some 3) (.v (.int .i64 0)))⟩])
  (.seq (.reg [⟨none, (.ld 9 (some 24) (.t 1))⟩,
    ⟨none, (.ca (some 10) 27 [(.t 9)])⟩,
    ⟨none, (.mv (some 4) (.t 10))⟩])
  (.seq (.seq (.reg [⟨none, (.mv (some 11) (.t 4))⟩,
    ⟨none, (.ar 12 .neq (.t 11) (.v (.int .i64 0)))⟩])
  (.cond (.t 12)
    (.seq (.reg [⟨none, (.mv (some 13) (.t 4))⟩,
    ⟨none, (.mv (some 2) (.v (.str [])))⟩,
    ⟨none, (.mv (some 3) (.t 13))⟩])
  .ret)
    .skip))
  (.seq (.reg [⟨none, (.fa 14 24 0 (.t 1))⟩,
    ⟨none, (.ld 15 none (.t 14))⟩,
    ⟨none, (.mv (some 5) (.t 15))⟩])
  (.jn ⟨[(5, (.lf .str))], [], [16, 17, 18, 19, 20, 21, 22, 23, 24].map .s⟩ (.seq (.reg [⟨none, (.fa 16 24 3 (.t 1))⟩,
    ⟨none, (.ld 17 none (.t 16))⟩,
    ⟨none, (.ar 18 .neq (.t 17) (.v (.int .i64 0)))⟩])
  (.cond (.t 18)
    (.reg [⟨none, (.mv (some 19) (.t 5))⟩,
    ⟨none, (.ar 20 .add (.t 19) (.v (.str [64])))⟩,
    ⟨none, (.fa 21 24 3 (.t 1))⟩,
    ⟨none, (.ld 22 none (.t 21))⟩,
    ⟨none, (.ca (some 23) 43 [(.t 22), (.v (.int .i64 1))])⟩,
    ⟨none, (.ar 24 .add (.t 20) (.t 23))⟩,
    ⟨none, (.mv (some 5) (.t 24))⟩])
    .skip))
  (.seq (.reg [⟨none, (.mv (some 25) (.t 5))⟩,
    ⟨none, (.ar 26 .add (.t 25) (.v (.str [32])))⟩,
    ⟨none, (.fa 27 24 1 (.t 1))⟩,
    ⟨none, (.ld 28 none (.t 27))⟩,
    ⟨none, (.ix 29 (.t 28) (.v (.int .i64 0)))⟩,
    ⟨none, (.ca (some 30) 44 [(.t 29)])⟩,
    ⟨none, (.ar 31 .add (.t 26) (.t 30))⟩,
    ⟨none, (.fa 32 24 1 (.t 1))⟩,
    ⟨none, (.ld 33 none (.t 32))⟩,
    ⟨none, (.ix 34 (.t 33) (.v (.int .i64 1)))⟩,
    ⟨none, (.ca (some 35) 44 [(.t 34)])⟩,
    ⟨none, (.ar 36 .add (.t 31) (.t 35))⟩,
    ⟨none, (.ar 37 .add (.t 36) (.v (.str [32])))⟩,
    ⟨none, (.mv (some 5) (.t 37))⟩])
  (.seq (.seq (.reg [⟨none, (.mv (some 6) (.v (.int .i64 0)))⟩])
  (.block 0 (.loop ⟨[(5, (.lf .str)), (6, (.lf (.int .i64)))], [], [7, 8, 38, 39, 40, 41, 42, 43, 44, 45, 46, 47, 48, 49, 50, 51, 52, 53, 54, 55, 56, 57, 58, 59, 60, 61, 62, 63, 64, 65, 66, 67, 68, 69, 70, 71, 72, 73, 74, 75, 76, 77, 78, 79, 80].map .s ++ [53].map .f⟩ (.seq (.seq (.reg [⟨none, (.mv (some 38) (.t 6))⟩,
    ⟨none, (.fa 39 24 2 (.t 1))⟩,
    ⟨none, (.ld 40 none (.t 39))⟩,
    ⟨none, (.ln 41 (some 46) (.t 40))⟩,
    ⟨none, (.ar 42 .lss (.t 38) (.t 41))⟩])
  (.cond (.t 42)
    .skip
    (.exit 0)))
  (.seq (.block 1 (.seq (.reg [⟨none, (.mv (some 45) (.t 5))⟩,
    ⟨none, (.ar 46 .add (.t 45) (.v (.str [36])))⟩,
    ⟨none, (.fa 47 24 2 (.t 1))⟩,
    ⟨none, (.ld 48 none (.t 47))⟩,
    ⟨none, (.mv (some 49) (.t 6))⟩,
    ⟨none, (.ea 50 46 (.t 48) (.t 49))⟩,
    ⟨none, (.fa 51 46 0 (.t 50))⟩,
    ⟨none, (.ld 52 none (.t 51))⟩,
    ⟨none, (.bs 53 5 none [(.t 52)])⟩,
    ⟨none, (.cvb 54 (.t 53))⟩,
    ⟨none, (.ar 55 .add (.t 46) (.t 54))⟩,
    ⟨none, (.mv (some 5) (.t 55))⟩])
  (.seq (.reg [⟨none, (.fa 56 24 2 (.t 1))⟩,
    ⟨none, (.ld 57 none (.t 56))⟩,
    ⟨none, (.mv (some 58) (.t 6))⟩,
    ⟨none, (.ea 59 46 (.t 57) (.t 58))⟩,
    ⟨none, (.fa 60 46 1 (.t 59))⟩,
    ⟨none, (.ld 61 none (.t 60))⟩,
    ⟨none, (.mv (some 7) (.t 61))⟩])
  (.seq (.reg [⟨none, (.mv (some 8) (.v (.int .i64 0)))⟩])
  (.block 2 (.loop ⟨[(5, (.lf .str)), (8, (.lf (.int .i64)))], [], [62, 63, 64, 65, 66, 67, 68, 69, 70, 71, 72, 73, 74, 75, 76, 77, 78, 79, 80].map .s⟩ (.seq (.seq (.reg [⟨none, (.mv (some 62) (.t 8))⟩,
    ⟨none, (.mv (some 63) (.t 7))⟩,
    ⟨none, (.ln 64 none (.t 63))⟩,
    ⟨none, (.ar 65 .lss (.t 62) (.t 64))⟩])
  (.cond (.t 65)
    .skip
    (.exit 2)))
  (.seq (.block 3 (.jn ⟨[(5, (.lf .str))], [], [68, 69, 70, 71, 72, 73].map .s⟩ (.seq (.reg [⟨none, (.mv (some 68) (.t 7))⟩,
    ⟨none, (.mv (some 69) (.t 8))⟩,
    ⟨none, (.ix 70 (.t 68) (.t 69))⟩,
    ⟨none, (.ar 71 .eql (.t 70) (.v (.int .u8 36)))⟩])
  (.cond (.t 71)
    (.reg [⟨none, (.mv (some 72) (.t 5))⟩,
    ⟨none, (.ar 73 .add (.t 72) (.v (.str [36])))⟩,
    ⟨none, (.mv (some 5) (.t 73))⟩])
    .skip))
  (.reg [⟨none, (.mv (some 74) (.t 5))⟩,
    ⟨none, (.mv (some 75) (.t 7))⟩,
    ⟨none, (.mv (some 76) (.t 8))⟩,
    ⟨none, (.mv (some 77) (.t 8))⟩,
    ⟨none, (.ar 78 .add (.t 77) (.v (.int .i64 1)))⟩,
    ⟨none, (.sc 79 none (.t 75) (some (.t 76)) (some (.t 78)))⟩,
    ⟨none, (.ar 80 .add (.t 74) (.t 79))⟩,
    ⟨none, (.mv (some 5) (.t 80))⟩])))
  (.reg [⟨none, (.mv (some 66) (.t 8))⟩,
    ⟨none, (.ar 67 .add (.t 66) (.v (.int .i64 1)))⟩,
    ⟨none, (.mv (some 8) (.t 67))⟩])))))))))
  (.reg [⟨none, (.mv (some 43) (.t 6))⟩,
    ⟨none, (.ar 44 .add (.t 43) (.v (.int .i64 1)))⟩,
    ⟨none, (.mv (some 6) (.t 44))⟩]))))))
  (.seq (.reg [⟨none, (.mv (some 81) (.t 5))⟩,
    ⟨none, (.mv (some 2) (.t 81))⟩,
    ⟨none, (.mv (some 3) (.v (.int .i64 0)))⟩])
  .ret))))))))
noncomputable def ent23 : TEnt := ⟨23, [(.agg 24 (.pair .str (.pair .str (.pair (.sl 46 (.agg 46 (.pair .byte .str))) (.int .i64)))))], (.tup (.pair .str (.int .i64))), fun x => F23 x, .plain⟩
theorem eq23 (x : dens ent23.as) : ent23.F x = evF [ent27, ent43, ent44] SHF dc23 [(.tmp 2), (.tmp 3)] ent23.as ent23.rs x := by kernel_rfl
/-- library/libraryref07.read -/
noncomputable def F49 (a0 : List UInt8) : Option ((List UInt8 × List UInt8 × (List (UInt8 × List UInt8)) × Int) × Bool) :=
  cond (decide ((List.length a0 : Int) < (8 : Int)))
    (some ((([] : List UInt8), ([] : List UInt8), ([] : List (UInt8 × List UInt8)), (0 : Int)), false))
    (gd (0 ≤ (3 : Int) ∧ (3 : Int) ≤ (List.length a0 : Int)) <|
    bnd (List.take (Int.toNat (3 : Int)) a0) fun x1 =>
    jn (σ := Int × (List UInt8 × List UInt8 × Unit × Int)) (fun nextj2 =>
      gd (0 ≤ (3 : Int) ∧ (3 : Int) < (List.length a0 : Int)) <|
      cond (decide ((UInt8.toNat (List.getD a0 (Int.toNat (3 : Int)) 0) : Int) = (64 : Int)))
        (bnd (IntKind.wrap .i64 ((3 : Int) + (1 : Int))) fun x3 =>
        loopK (σ := Int × (List UInt8 × List UInt8 × Unit × Int)) (fun p4 againp4 =>
          cond (decide (p4.1 < (List.length a0 : Int)))
            (gd (0 ≤ p4.1 ∧ p4.1 < (List.length a0 : Int)) <|
            bindO (F53 (List.getD a0 (Int.toNat p4.1) 0)) fun y5 =>
            cond (y5)
              (cond (decide (p4.2.2.2.2 ≤ (9999 : Int)))
                (bnd (IntKind.wrap .i64 (p4.2.2.2.2 * (10 : Int))) fun x6 =>
                gd (0 ≤ p4.1 ∧ p4.1 < (List.length a0 : Int)) <|
                bnd (IntKind.wrap .i64 (x6 + (IntKind.wrap .i64 (UInt8.toNat (List.getD a0 (Int.toNat p4.1) 0) : Int)))) fun x7 =>
                bnd (IntKind.wrap .i64 (x7 - (48 : Int))) fun x8 =>
                bnd (IntKind.wrap .i64 (p4.1 + (1 : Int))) fun x9 =>
                againp4 (x9, (p4.2.1, p4.2.2.1, (), x8)))
                (nextj2 (p4.1, (p4.2.1, p4.2.2.1, (), p4.2.2.2.2))))
              (nextj2 (p4.1, (p4.2.1, p4.2.2.1, (), p4.2.2.2.2))))
            (nextj2 (p4.1, (p4.2.1, p4.2.2.1, (), p4.2.2.2.2)))) (x3, (x1, ([] : List UInt8), (), (0 : Int))))
        (nextj2 ((3 : Int), (x1, ([] : List UInt8), (), (0 : Int))))) fun j2 =>
    bnd (IntKind.wrap .i64 (j2.1 + (4 : Int))) fun x10 =>
    cond (decide ((List.length a0 : Int) < x10))
      (some ((j2.2.1, j2.2.2.1, ([] : List (UInt8 × List UInt8)), j2.2.2.2.2), false))
      (gd (0 ≤ j2.1 ∧ j2.1 < (List.length a0 : Int)) <|
      cond (!decide ((UInt8.toNat (List.getD a0 (Int.toNat j2.1) 0) : Int) = (32 : Int)))
        (some ((j2.2.1, j2.2.2.1, ([] : List (UInt8 × List UInt8)), j2.2.2.2.2), false))
        (bnd (IntKind.wrap .i64 (j2.1 + (3 : Int))) fun x11 =>
        gd (0 ≤ x11 ∧ x11 < (List.length a0 : Int)) <|
        cond (!decide ((UInt8.toNat (List.getD a0 (Int.toNat x11) 0) : Int) = (32 : Int)))
          (some ((j2.2.1, j2.2.2.1, ([] : List (UInt8 × List UInt8)), j2.2.2.2.2), false))
          (bnd (IntKind.wrap .i64 (j2.1 + (1 : Int))) fun x12 =>
          gd (0 ≤ x12 ∧ x12 < (List.length a0 : Int)) <|
          bnd (IntKind.wrap .i64 (j2.1 + (2 : Int))) fun x13 =>
          gd (0 ≤ x13 ∧ x13 < (List.length a0 : Int)) <|
          gdN (List.length [(List.getD a0 (Int.toNat x12) 0), (List.getD a0 (Int.toNat x13) 0)]) (List.length [(List.getD a0 (Int.toNat x12) 0), (List.getD a0 (Int.toNat x13) 0)]) <|
          gd (0 < List.length [(List.getD a0 (Int.toNat x12) 0), (List.getD a0 (Int.toNat x13) 0)]) <|
          gdN (List.length [(List.getD a0 (Int.toNat x12) 0), (List.getD a0 (Int.toNat x13) 0)]) (List.length [(List.getD a0 (Int.toNat x12) 0), (List.getD a0 (Int.toNat x13) 0)]) <|
          loopK (σ := Int × (List UInt8 × List UInt8 × Unit × Int) × List (UInt8)) (fun p14 againp14 =>
            cond (decide (p14.1 < (2 : Int)))
              (gd (0 ≤ p14.1 ∧ p14.1 < (List.length p14.2.2 : Int)) <|
              gd ((Int.toNat p14.1) < List.length p14.2.2) <|
              cond (decide ((UInt8.toNat (List.getD p14.2.2 (Int.toNat p14.1) 0) : Int) = (35 : Int)))
                (gd (0 ≤ p14.1 ∧ p14.1 < (List.length p14.2.2 : Int)) <|
                gd ((Int.toNat p14.1) < List.length p14.2.2) <|
                gd ((0 : Int) ≤ (32 : Int) ∧ (32 : Int) < (256 : Int)) <|
                bnd (IntKind.wrap .i64 (p14.1 + (1 : Int))) fun x15 =>
                againp14 (x15, (p14.2.1.1, p14.2.1.2.1, (), p14.2.1.2.2.2), (List.set p14.2.2 (Int.toNat p14.1) (UInt8.ofNat (Int.toNat (32 : Int))))))
                (gd (0 ≤ p14.1 ∧ p14.1 < (List.length p14.2.2 : Int)) <|
                gd ((Int.toNat p14.1) < List.length p14.2.2) <|
                cond (decide ((UInt8.toNat (List.getD p14.2.2 (Int.toNat p14.1) 0) : Int) = (32 : Int)))
                  (some ((j2.2.1, j2.2.2.1, ([] : List (UInt8 × List UInt8)), j2.2.2.2.2), false))
                  (bnd (IntKind.wrap .i64 (p14.1 + (1 : Int))) fun x16 =>
                  againp14 (x16, (p14.2.1.1, p14.2.1.2.1, (), p14.2.1.2.2.2), p14.2.2))))
              (bnd (IntKind.wrap .i64 (j2.1 + (4 : Int))) fun x17 =>
              gdN (0) (List.length ([] : List (UInt8 × List UInt8))) <|
              loopK (σ := Int × (List UInt8 × List UInt8 × Unit × Int) × (List UInt8 × List UInt8 × (List (UInt8 × List UInt8)) × Int)) (fun p18 againp18 =>
                cond (decide (p18.1 < (List.length a0 : Int)))
                  (gd (0 ≤ p18.1 ∧ p18.1 < (List.length a0 : Int)) <|
                  cond (!decide ((UInt8.toNat (List.getD a0 (Int.toNat p18.1) 0) : Int) = (36 : Int)))
                    (some ((p18.2.2.1, p18.2.2.2.1, p18.2.2.2.2.1, p18.2.2.2.2.2), false))
                    (bnd (IntKind.wrap .i64 (p18.1 + (1 : Int))) fun x19 =>
                    cond (decide ((List.length a0 : Int) ≤ x19))
                      (some ((p18.2.2.1, p18.2.2.2.1, p18.2.2.2.2.1, p18.2.2.2.2.2), false))
                      (bnd (IntKind.wrap .i64 (p18.1 + (1 : Int))) fun x20 =>
                      gd (0 ≤ x20 ∧ x20 < (List.length a0 : Int)) <|
                      bnd (IntKind.wrap .i64 (p18.1 + (2 : Int))) fun x21 =>
                      jn (σ := Int × UInt8 × List UInt8) (fun nextj22 =>
                        loopK (σ := Int × Bool × UInt8 × List UInt8) (fun p23 againp23 =>
                          cond (p23.2.1)
                            (cond (decide (p23.1 < (List.length a0 : Int)))
                              (gd (0 ≤ p23.1 ∧ p23.1 < (List.length a0 : Int)) <|
                              cond (!decide ((UInt8.toNat (List.getD a0 (Int.toNat p23.1) 0) : Int) = (36 : Int)))
                                (bnd (IntKind.wrap .i64 (p23.1 + (1 : Int))) fun x24 =>
                                gd (0 ≤ p23.1 ∧ p23.1 ≤ x24 ∧ x24 ≤ (List.length a0 : Int)) <|
                                bnd (List.drop (Int.toNat p23.1) (List.take (Int.toNat x24) a0)) fun x25 =>
                                gd (List.length p23.2.2.2 + List.length x25 ≤ big) <|
                                bnd (p23.2.2.2 ++ x25) fun x26 =>
                                bnd (IntKind.wrap .i64 (p23.1 + (1 : Int))) fun x27 =>
                                againp23 (x27, p23.2.1, (p23.2.2.1, x26)))
                                (jn (σ := Bool) (fun nextj28 =>
                                  bnd (IntKind.wrap .i64 (p23.1 + (1 : Int))) fun x29 =>
                                  cond (decide (x29 < (List.length a0 : Int)))
                                    (bnd (IntKind.wrap .i64 (p23.1 + (1 : Int))) fun x30 =>
                                    gd (0 ≤ x30 ∧ x30 < (List.length a0 : Int)) <|
                                    nextj28 (decide ((UInt8.toNat (List.getD a0 (Int.toNat x30) 0) : Int) = (36 : Int))))
                                    (nextj28 false)) fun j28 =>
                                cond (j28)
                                  (gd (List.length p23.2.2.2 + List.length ([36] : List UInt8) ≤ big) <|
                                  bnd (p23.2.2.2 ++ ([36] : List UInt8)) fun x31 =>
                                  bnd (IntKind.wrap .i64 (p23.1 + (2 : Int))) fun x32 =>
                                  againp23 (x32, p23.2.1, (p23.2.2.1, x31)))
                                  (againp23 (p23.1, false, p23.2.2))))
                              (nextj22 (p23.1, p23.2.2)))
                            (nextj22 (p23.1, p23.2.2))) (x21, true, ((List.getD a0 (Int.toNat x20) 0), ([] : List UInt8)))) fun j22 =>
                      gdN (List.length p18.2.2.2.2.1) (List.length p18.2.2.2.2.1) <|
                      gd (List.length p18.2.2.2.2.1 + List.length [j22.2] ≤ big) <|
                      bnd (p18.2.2.2.2.1 ++ [j22.2]) fun l33 =>
                      gdN (List.length l33) (List.length l33) <|
                      againp18 (j22.1, (p18.2.1.1, p18.2.1.2.1, (), p18.2.1.2.2.2), (p18.2.2.1, p18.2.2.2.1, l33, p18.2.2.2.2.2)))))
                  (some ((p18.2.2.1, p18.2.2.2.1, p18.2.2.2.2.1, p18.2.2.2.2.2), true))) (x17, (p14.2.1.1, p14.2.1.2.1, (), p14.2.1.2.2.2), (j2.2.1, p14.2.2, ([] : List (UInt8 × List UInt8)), j2.2.2.2.2)))) ((0 : Int), (([] : List UInt8), ([] : List UInt8), (), (0 : Int)), [(List.getD a0 (Int.toNat x12) 0), (List.getD a0 (Int.toNat x13) 0)])))))
def dc49 : DC :=
  (.seq (.reg [⟨none, (.al 2 (.agg 24 [(.str []), (.str []), (.sl (some 5900000) 46 []), (.int .i64 0)]))⟩,
    ⟨none, (.mv (some 3) (.v (.bool false)))⟩])
  (.seq (.reg [⟨none, (.bd 10 24 [(.str []), (.str []), (.sl (some 5900000) 46 []), (.int .i64 0)] [] [])⟩,
    ⟨none, (.al 4 (.agg 24 [(.str []), (.str []), (.sl (some 5900000) 46 []), (.int .i64 0)]))⟩,
    ⟨none, (.st (some 24) (.t 4) (.t 10))⟩])
  (.seq (.seq (.reg [⟨none, (.mv (some 11) (.t 0))⟩,
    ⟨none, (.ln 12 none (.t 11))⟩,
    ⟨none, (.ar 13 .lss (.t 12) (.v (.int .i64 8)))⟩])
  (.cond (.t 13)
    (.seq (.reg [⟨none, (.ld 14 (some 24) (.t 4))⟩,
    ⟨none, (.st (some 24) (.t 2) (.t 14))⟩,
    ⟨none, (.mv (some 3) (.v (.bool false)))⟩])
  .ret)
    .skip))
  (.seq (.reg [⟨none, (.mv (some 15) (.t 0))⟩,
    ⟨none, (.sc 16 none (.t 15) none (some (.v (.int .i64 3))))⟩,
    ⟨none, (.fa 17 24 0 (.t 4))⟩,
    ⟨none, (.st none (.t 17) (.t 16))⟩])
  (.seq (.reg [⟨none, (.mv (some 5) (.v (.int .i64 3)))⟩])
  (.jn ⟨[(5, (.lf (.int .i64)))], [(4, (.agg 24 (.pair (.lf .str) (.pair (.lf .str) (.pair (.con (.sl (some 5900000) 46 [])) (.lf (.int .i64)))))))], [18, 19, 20, 21, 22, 23, 24, 25, 26, 27, 28, 29, 30, 31, 32, 33, 34, 35, 36, 37, 38, 39, 40, 41, 42, 43, 44, 45, 46, 47, 48, 49, 50].map .s⟩ (.seq (.reg [⟨none, (.mv (some 18) (.t 0))⟩,
    ⟨none, (.mv (some 19) (.t 5))⟩,
    ⟨none, (.ix 20 (.t 18) (.t 19))⟩,
    ⟨none, (.ar 21 .eql (.t 20) (.v (.int .u8 64)))⟩])
  (.cond (.t 21)
    (.seq (.reg [⟨none, (.mv (some 22) (.t 5))⟩,
    ⟨none, (.ar 23 .add (.t 22) (.v (.int .i64 1)))⟩,
    ⟨none, (.mv (some 5) (.t 23))⟩])
  (.block 0 (.loop ⟨[(5, (.lf (.int .i64)))], [(4, (.agg 24 (.pair (.lf .str) (.pair (.lf .str) (.pair (.con (.sl (some 5900000) 46 [])) (.lf (.int .i64)))))))], [24, 25, 26, 27, 28, 29, 30, 31, 32, 33, 34, 35, 36, 37, 38, 39, 40, 41, 42, 43, 44, 45, 46, 47, 48, 49, 50].map .s⟩ (.seq (.seq (.reg [⟨none, (.mv (some 24) (.t 5))⟩,
    ⟨none, (.mv (some 25) (.t 0))⟩,
    ⟨none, (.ln 26 none (.t 25))⟩,
    ⟨none, (.ar 27 .lss (.t 24) (.t 26))⟩,
    ⟨none, (.mv (some 28) (.t 27))⟩,
    ⟨(some (28, true)), (.mv (some 29) (.t 0))⟩,
    ⟨(some (28, true)), (.mv (some 30) (.t 5))⟩,
    ⟨(some (28, true)), (.ix 31 (.t 29) (.t 30))⟩,
    ⟨(some (28, true)), (.ca (some 32) 53 [(.t 31)])⟩,
    ⟨none, (.pick 33 (.t 28) (.t 32) (.v (.bool false)))⟩,
    ⟨none, (.mv (some 34) (.t 33))⟩,
    ⟨(some (34, true)), (.fa 35 24 3 (.t 4))⟩,
    ⟨(some (34, true)), (.ld 36 none (.t 35))⟩,
    ⟨(some (34, true)), (.ar 37 .leq (.t 36) (.v (.int .i64 9999)))⟩,
    ⟨none, (.pick 38 (.t 34) (.t 37) (.v (.bool false)))⟩])
  (.cond (.t 38)
    .skip
    (.exit 0)))
  (.block 1 (.seq (.reg [⟨none, (.fa 39 24 3 (.t 4))⟩,
    ⟨none, (.ld 40 none (.t 39))⟩,
    ⟨none, (.ar 41 .mul (.t 40) (.v (.int .i64 10)))⟩,
    ⟨none, (.mv (some 42) (.t 0))⟩,
    ⟨none, (.mv (some 43) (.t 5))⟩,
    ⟨none, (.ix 44 (.t 42) (.t 43))⟩,
    ⟨none, (.cvi 45 .i64 (.t 44))⟩,
    ⟨none, (.ar 46 .add (.t 41) (.t 45))⟩,
    ⟨none, (.ar 47 .sub (.t 46) (.v (.int .i64 48)))⟩,
    ⟨none, (.fa 48 24 3 (.t 4))⟩,
    ⟨none, (.st none (.t 48) (.t 47))⟩])
  (.reg [⟨none, (.mv (some 49) (.t 5))⟩,
    ⟨none, (.ar 50 .add (.t 49) (.v (.int .i64 1)))⟩,
    ⟨none, (.mv (some 5) (.t 50))⟩])))))))
    .skip))
  (.seq (.seq (.reg [⟨none, (.mv (some 51) (.t 5))⟩,
    ⟨none, (.ar 52 .add (.t 51) (.v (.int .i64 4)))⟩,
    ⟨none, (.mv (some 53) (.t 0))⟩,
    ⟨none, (.ln 54 none (.t 53))⟩,
    ⟨none, (.ar 55 .gtr (.t 52) (.t 54))⟩,
    ⟨none, (.mv (some 56) (.t 55))⟩,
    ⟨(some (56, false)), (.mv (some 57) (.t 0))⟩,
    ⟨(some (56, false)), (.mv (some 58) (.t 5))⟩,
    ⟨(some (56, false)), (.ix 59 (.t 57) (.t 58))⟩,
    ⟨(some (56, false)), (.ar 60 .neq (.t 59) (.v (.int .u8 32)))⟩,
    ⟨none, (.pick 61 (.t 56) (.v (.bool true)) (.t 60))⟩,
    ⟨none, (.mv (some 62) (.t 61))⟩,
    ⟨(some (62, false)), (.mv (some 63) (.t 0))⟩,
    ⟨(some (62, false)), (.mv (some 64) (.t 5))⟩,
    ⟨(some (62, false)), (.ar 65 .add (.t 64) (.v (.int .i64 3)))⟩,
    ⟨(some (62, false)), (.ix 66 (.t 63) (.t 65))⟩,
    ⟨(some (62, false)), (.ar 67 .neq (.t 66) (.v (.int .u8 32)))⟩,
    ⟨none, (.pick 68 (.t 62) (.v (.bool true)) (.t 67))⟩])
  (.cond (.t 68)
    (.seq (.reg [⟨none, (.ld 69 (some 24) (.t 4))⟩,
    ⟨none, (.st (some 24) (.t 2) (.t 69))⟩,
    ⟨none, (.mv (some 3) (.v (.bool false)))⟩])
  .ret)
    .skip))
  (.seq (.reg [⟨none, (.mv (some 70) (.t 0))⟩,
    ⟨none, (.mv (some 71) (.t 5))⟩,
    ⟨none, (.ar 72 .add (.t 71) (.v (.int .i64 1)))⟩,
    ⟨none, (.ix 73 (.t 70) (.t 72))⟩,
    ⟨none, (.mv (some 74) (.t 0))⟩,
    ⟨none, (.mv (some 75) (.t 5))⟩,
    ⟨none, (.ar 76 .add (.t 75) (.v (.int .i64 2)))⟩,
    ⟨none, (.ix 77 (.t 74) (.t 76))⟩,
    ⟨none, (.bs 78 5 none [(.t 73), (.t 77)])⟩,
    ⟨none, (.mv (some 6) (.t 78))⟩])
  (.seq (.seq (.reg [⟨none, (.mv (some 7) (.v (.int .i64 0)))⟩])
  (.seq (.gh 5000006 [6])
  (.block 2 (.loop ⟨[(7, (.lf (.int .i64)))], [(2, (.agg 24 (.pair (.lf .str) (.pair (.lf .str) (.pair (.con (.sl (some 5900000) 46 [])) (.lf (.int .i64))))))), (78, (.lf (.arr 1000005 .byte)))], [3, 79, 80, 81, 82, 83, 84, 85, 86, 87, 88, 89, 90, 91, 92, 93, 94, 95, 96].map .s⟩ (.seq (.seq (.reg [⟨none, (.mv (some 79) (.t 7))⟩,
    ⟨none, (.ar 80 .lss (.t 79) (.v (.int .i64 2)))⟩])
  (.cond (.t 80)
    .skip
    (.exit 2)))
  (.seq (.block 3 (.seq (.reg [⟨none, (.mv (some 83) (.t 6))⟩,
    ⟨none, (.mv (some 84) (.t 7))⟩,
    ⟨none, (.ea 85 5 (.t 83) (.t 84))⟩,
    ⟨none, (.ld 86 none (.t 85))⟩,
    ⟨none, (.ar 87 .eql (.t 86) (.v (.int .u8 35)))⟩])
  (.cond (.t 87)
    (.reg [⟨none, (.mv (some 88) (.t 6))⟩,
    ⟨none, (.mv (some 89) (.t 7))⟩,
    ⟨none, (.ea 90 5 (.t 88) (.t 89))⟩,
    ⟨none, (.st none (.t 90) (.v (.int .u8 32)))⟩])
    (.seq (.reg [⟨none, (.mv (some 91) (.t 6))⟩,
    ⟨none, (.mv (some 92) (.t 7))⟩,
    ⟨none, (.ea 93 5 (.t 91) (.t 92))⟩,
    ⟨none, (.ld 94 none (.t 93))⟩,
    ⟨none, (.ar 95 .eql (.t 94) (.v (.int .u8 32)))⟩])
  (.cond (.t 95)
    (.seq (.reg [⟨none, (.ld 96 (some 24) (.t 4))⟩,
    ⟨none, (.st (some 24) (.t 2) (.t 96))⟩,
    ⟨none, (.mv (some 3) (.v (.bool false)))⟩])
  .ret)
    .skip)))))
  (.reg [⟨none, (.mv (some 81) (.t 7))⟩,
    ⟨none, (.ar 82 .add (.t 81) (.v (.int .i64 1)))⟩,
    ⟨none, (.mv (some 7) (.t 82))⟩])))))))
  (.seq (.seq (.gh 78 [])
  (.reg [⟨none, (.mv (some 97) (.t 6))⟩,
    ⟨none, (.cvb 98 (.t 97))⟩,
    ⟨none, (.fa 99 24 1 (.t 4))⟩,
    ⟨none, (.st none (.t 99) (.t 98))⟩]))
  (.seq (.reg [⟨none, (.mv (some 100) (.t 5))⟩,
    ⟨none, (.ar 101 .add (.t 100) (.v (.int .i64 4)))⟩,
    ⟨none, (.mv (some 5) (.t 101))⟩])
  (.seq (.seq (.gh 6000402 [])
  (.block 4 (.loop ⟨[(5, (.lf (.int .i64)))], [(2, (.agg 24 (.pair (.lf .str) (.pair (.lf .str) (.pair (.con (.sl (some 5900000) 46 [])) (.lf (.int .i64))))))), (4, (.agg 24 (.pair (.lf .str) (.pair (.lf .str) (.pair (.row 6000402 46 (.agg 46 (.pair .byte .str))) (.lf (.int .i64)))))))], [3, 8, 9, 102, 103, 104, 105, 106, 107, 108, 109, 110, 111, 112, 113, 114, 115, 116, 117, 118, 119, 120, 121, 122, 123, 124, 125, 126, 127, 128, 129, 130, 131, 132, 133, 134, 135, 136, 137, 138, 139, 140, 141, 142, 143, 144, 145, 146, 147, 148, 149, 150, 151, 152, 153, 154, 155, 156, 157, 158, 159, 160, 161, 162, 163, 164, 165, 166, 167, 168, 169, 170].map .s ++ [8].map .b ++ [168].map .f⟩ (.seq (.seq (.reg [⟨none, (.mv (some 102) (.t 5))⟩,
    ⟨none, (.mv (some 103) (.t 0))⟩,
    ⟨none, (.ln 104 none (.t 103))⟩,
    ⟨none, (.ar 105 .lss (.t 102) (.t 104))⟩])
  (.cond (.t 105)
    .skip
    (.exit 4)))
  (.block 5 (.seq (.seq (.reg [⟨none, (.mv (some 106) (.t 0))⟩,
    ⟨none, (.mv (some 107) (.t 5))⟩,
    ⟨none, (.ix 108 (.t 106) (.t 107))⟩,
    ⟨none, (.ar 109 .neq (.t 108) (.v (.int .u8 36)))⟩,
    ⟨none, (.mv (some 110) (.t 109))⟩,
    ⟨(some (110, false)), (.mv (some 111) (.t 5))⟩,
    ⟨(some (110, false)), (.ar 112 .add (.t 111) (.v (.int .i64 1)))⟩,
    ⟨(some (110, false)), (.mv (some 113) (.t 0))⟩,
    ⟨(some (110, false)), (.ln 114 none (.t 113))⟩,
    ⟨(some (110, false)), (.ar 115 .geq (.t 112) (.t 114))⟩,
    ⟨none, (.pick 116 (.t 110) (.v (.bool true)) (.t 115))⟩])
  (.cond (.t 116)
    (.seq (.reg [⟨none, (.ld 117 (some 24) (.t 4))⟩,
    ⟨none, (.st (some 24) (.t 2) (.t 117))⟩,
    ⟨none, (.mv (some 3) (.v (.bool false)))⟩])
  .ret)
    .skip))
  (.seq (.reg [⟨none, (.mv (some 118) (.t 0))⟩,
    ⟨none, (.mv (some 119) (.t 5))⟩,
    ⟨none, (.ar 120 .add (.t 119) (.v (.int .i64 1)))⟩,
    ⟨none, (.ix 121 (.t 118) (.t 120))⟩,
    ⟨none, (.bd 122 46 [(.int .u8 0), (.str [])] [0] [(.t 121)])⟩,
    ⟨none, (.al 8 (.agg 46 [(.int .u8 0), (.str [])]))⟩,
    ⟨none, (.st (some 46) (.t 8) (.t 122))⟩])
  (.seq (.reg [⟨none, (.mv (some 123) (.t 5))⟩,
    ⟨none, (.ar 124 .add (.t 123) (.v (.int .i64 2)))⟩,
    ⟨none, (.mv (some 5) (.t 124))⟩])
  (.seq (.reg [⟨none, (.mv (some 9) (.v (.bool true)))⟩])
  (.jn ⟨[(5, (.lf (.int .i64)))], [(8, (.lf (.agg 46 (.pair .byte .str))))], [9, 125, 126, 127, 128, 129, 130, 131, 132, 133, 134, 135, 136, 137, 138, 139, 140, 141, 142, 143, 144, 145, 146, 147, 148, 149, 150, 151, 152, 153, 154, 155, 156, 157, 158, 159, 160, 161, 162, 163, 164].map .s⟩ (.block 6 (.loop ⟨[(5, (.lf (.int .i64))), (9, (.lf .bool))], [(8, (.lf (.agg 46 (.pair .byte .str))))], [125, 126, 127, 128, 129, 130, 131, 132, 133, 134, 135, 136, 137, 138, 139, 140, 141, 142, 143, 144, 145, 146, 147, 148, 149, 150, 151, 152, 153, 154, 155, 156, 157, 158, 159, 160, 161, 162, 163, 164].map .s⟩ (.seq (.seq (.reg [⟨none, (.mv (some 125) (.t 9))⟩,
    ⟨none, (.mv (some 126) (.t 125))⟩,
    ⟨(some (126, true)), (.mv (some 127) (.t 5))⟩,
    ⟨(some (126, true)), (.mv (some 128) (.t 0))⟩,
    ⟨(some (126, true)), (.ln 129 none (.t 128))⟩,
    ⟨(some (126, true)), (.ar 130 .lss (.t 127) (.t 129))⟩,
    ⟨none, (.pick 131 (.t 126) (.t 130) (.v (.bool false)))⟩])
  (.cond (.t 131)
    .skip
    (.exit 6)))
  (.block 7 (.seq (.reg [⟨none, (.mv (some 132) (.t 0))⟩,
    ⟨none, (.mv (some 133) (.t 5))⟩,
    ⟨none, (.ix 134 (.t 132) (.t 133))⟩,
    ⟨none, (.ar 135 .neq (.t 134) (.v (.int .u8 36)))⟩])
  (.cond (.t 135)
    (.seq (.reg [⟨none, (.fa 136 46 1 (.t 8))⟩,
    ⟨none, (.ld 137 none (.t 136))⟩,
    ⟨none, (.mv (some 138) (.t 0))⟩,
    ⟨none, (.mv (some 139) (.t 5))⟩,
    ⟨none, (.mv (some 140) (.t 5))⟩,
    ⟨none, (.ar 141 .add (.t 140) (.v (.int .i64 1)))⟩,
    ⟨none, (.sc 142 none (.t 138) (some (.t 139)) (some (.t 141)))⟩,
    ⟨none, (.ar 143 .add (.t 137) (.t 142))⟩,
    ⟨none, (.fa 144 46 1 (.t 8))⟩,
    ⟨none, (.st none (.t 144) (.t 143))⟩])
  (.reg [⟨none, (.mv (some 145) (.t 5))⟩,
    ⟨none, (.ar 146 .add (.t 145) (.v (.int .i64 1)))⟩,
    ⟨none, (.mv (some 5) (.t 146))⟩]))
    (.jn ⟨[(158, (.lf .bool))], [], [147, 148, 149, 150, 151, 152, 153, 154, 155, 156, 157].map .s⟩ (.reg [⟨none, (.mv (some 147) (.t 5))⟩,
    ⟨none, (.ar 148 .add (.t 147) (.v (.int .i64 1)))⟩,
    ⟨none, (.mv (some 149) (.t 0))⟩,
    ⟨none, (.ln 150 none (.t 149))⟩,
    ⟨none, (.ar 151 .lss (.t 148) (.t 150))⟩,
    ⟨none, (.mv (some 152) (.t 151))⟩,
    ⟨(some (152, true)), (.mv (some 153) (.t 0))⟩,
    ⟨(some (152, true)), (.mv (some 154) (.t 5))⟩,
    ⟨(some (152, true)), (.ar 155 .add (.t 154) (.v (.int .i64 1)))⟩,
    ⟨(some (152, true)), (.ix 156 (.t 153) (.t 155))⟩,
    ⟨(some (152, true)), (.ar 157 .eql (.t 156) (.v (.int .u8 36)))⟩,
    ⟨none, (.pick 158 (.t 152) (.t 157) (.v (.bool false)))⟩])
  (.cond (.t 158)
    (.seq (.reg [⟨none, (.fa 159 46 1 (.t 8))⟩,
    ⟨none, (.ld 160 none (.t 159))⟩,
    ⟨none, (.ar 161 .add (.t 160) (.v (.str [36])))⟩,
    ⟨none, (.fa 162 46 1 (.t 8))⟩,
    ⟨none, (.st none (.t 162) (.t 161))⟩])
  (.reg [⟨none, (.mv (some 163) (.t 5))⟩,
    ⟨none, (.ar 164 .add (.t 163) (.v (.int .i64 2)))⟩,
    ⟨none, (.mv (some 5) (.t 164))⟩]))
    (.reg [⟨none, (.mv (some 9) (.v (.bool false)))⟩])))))))))
  (.reg [⟨none, (.fa 165 24 2 (.t 4))⟩,
    ⟨none, (.ld 166 none (.t 165))⟩,
    ⟨none, (.ld 167 (some 46) (.t 8))⟩,
    ⟨none, (.bs 168 46 (some 46) [(.t 167)])⟩,
    ⟨none, (.ap 169 46 (.t 166) (.t 168))⟩,
    ⟨none, (.fa 170 24 2 (.t 4))⟩,
    ⟨none, (.st none (.t 170) (.t 169))⟩])))))))))))
  (.seq (.reg [⟨none, (.ld 171 (some 24) (.t 4))⟩,
    ⟨none, (.st (some 24) (.t 2) (.t 171))⟩,
    ⟨none, (.mv (some 3) (.v (.bool true)))⟩])
  .ret)))))))))))))
noncomputable def ent49 : TEnt := ⟨49, [.str], (.tup (.pair (.agg 24 (.pair .str (.pair .str (.pair (.sl 46 (.agg 46 (.pair .byte .str))) (.int .i64))))) .bool)), fun x => F49 x, .plain⟩
theorem eq49 (x : dens ent49.as) : ent49.F x = evF [ent53] SHF dc49 [(.cell 2 (some 24)), (.tmp 3)] ent49.as ent49.rs x := by kernel_rfl
/-- library/libraryref07.Parse -/
noncomputable def F25 (a0 : List UInt8) : Option ((List UInt8 × List UInt8 × (List (UInt8 × List UInt8)) × Int) × Int) :=
  bindO (F49 a0) fun y1 =>
  cond (!y1.2)
    (some ((([] : List UInt8), ([] : List UInt8), ([] : List (UInt8 × List UInt8)), (0 : Int)), (3 : Int)))
    (bindO (F23 y1.1) fun y2 =>
    cond (!decide (y2.2 = (0 : Int)))
      (some ((([] : List UInt8), ([] : List UInt8), ([] : List (UInt8 × List UInt8)), (0 : Int)), (3 : Int)))
      (cond (!decide (y2.1 = a0))
        (some ((([] : List UInt8), ([] : List UInt8), ([] : List (UInt8 × List UInt8)), (0 : Int)), (3 : Int)))
        (some (y1.1, (0 : Int)))))
def dc25 : DC :=
  (.seq (.reg [⟨none, (.al 2 (.agg 24 [(.str []), (.str []), (.sl none 46 []), (.int .i64 0)]))⟩,
    ⟨none, (.mv (some 3) (.v (.int .i64 0)))⟩])
  (.seq (.reg [⟨none, (.mv (some 9) (.t 0))⟩,
    ⟨none, (.ca (some 10) 49 [(.t 9)])⟩,
    ⟨none, (.mv (some 8) (.t 10))⟩,
    ⟨none, (.ex 11 0 (.t 8))⟩,
    ⟨none, (.ex 12 1 (.t 8))⟩,
    ⟨none, (.al 4 (.agg 24 [(.str []), (.str []), (.sl none 46 []), (.int .i64 0)]))⟩,
    ⟨none, (.st (some 24) (.t 4) (.t 11))⟩,
    ⟨none, (.mv (some 5) (.t 12))⟩])
  (.seq (.seq (.reg [⟨none, (.mv (some 13) (.t 5))⟩,
    ⟨none, (.un 14 .not (.t 13))⟩])
  (.cond (.t 14)
    (.seq (.reg [⟨none, (.bd 15 24 [(.str []), (.str []), (.sl none 46 []), (.int .i64 0)] [] [])⟩,
    ⟨none, (.st (some 24) (.t 2) (.t 15))⟩,
    ⟨none, (.mv (some 3) (.v (.int .i64 3)))⟩])
  .ret)
    .skip))
  (.seq (.reg [⟨none, (.ld 17 (some 24) (.t 4))⟩,
    ⟨none, (.ca (some 18) 23 [(.t 17)])⟩,
    ⟨none, (.mv (some 16) (.t 18))⟩,
    ⟨none, (.ex 19 0 (.t 16))⟩,
    ⟨none, (.ex 20 1 (.t 16))⟩,
    ⟨none, (.mv (some 6) (.t 19))⟩,
    ⟨none, (.mv (some 7) (.t 20))⟩])
  (.seq (.seq (.reg [⟨none, (.mv (some 21) (.t 7))⟩,
    ⟨none, (.ar 22 .neq (.t 21) (.v (.int .i64 0)))⟩,
    ⟨none, (.mv (some 23) (.t 22))⟩,
    ⟨(some (23, false)), (.mv (some 24) (.t 6))⟩,
    ⟨(some (23, false)), (.mv (some 25) (.t 0))⟩,
    ⟨(some (23, false)), (.ar 26 .neq (.t 24) (.t 25))⟩,
    ⟨none, (.pick 27 (.t 23) (.v (.bool true)) (.t 26))⟩])
  (.cond (.t 27)
    (.seq (.reg [⟨none, (.bd 28 24 [(.str []), (.str []), (.sl none 46 []), (.int .i64 0)] [] [])⟩,
    ⟨none, (.st (some 24) (.t 2) (.t 28))⟩,
    ⟨none, (.mv (some 3) (.v (.int .i64 3)))⟩])
  .ret)
    .skip))
  (.seq (.reg [⟨none, (.ld 29 (some 24) (.t 4))⟩,
    ⟨none, (.st (some 24) (.t 2) (.t 29))⟩,
    ⟨none, (.mv (some 3) (.v (.int .i64 0)))⟩])
  .ret))))))
noncomputable def ent25 : TEnt := ⟨25, [.str], (.tup (.pair (.agg 24 (.pair .str (.pair .str (.pair (.sl 46 (.agg 46 (.pair .byte .str))) (.int .i64))))) (.int .i64))), fun x => F25 x, .plain⟩
theorem eq25 (x : dens ent25.as) : ent25.F x = evF [ent23, ent49] SHF dc25 [(.cell 2 (some 24)), (.tmp 3)] ent25.as ent25.rs x := by kernel_rfl
/-- library/libraryref01.Texts -/
noncomputable def F14 (a0 : List (List UInt8)) (a1 : List (List UInt8)) : Option (Bool) :=
  cond (!decide ((List.length a0 : Int) = (List.length a1 : Int)))
    (some false)
    (loopK (σ := Int) (fun p1 againp1 =>
      cond (decide (p1 < (List.length a0 : Int)))
        (gd (0 ≤ p1 ∧ p1 < (List.length a0 : Int)) <|
        gd (0 ≤ p1 ∧ p1 < (List.length a1 : Int)) <|
        cond (!decide ((List.getD a0 (Int.toNat p1) []) = (List.getD a1 (Int.toNat p1) [])))
          (some false)
          (bnd (IntKind.wrap .i64 (p1 + (1 : Int))) fun x2 =>
          againp1 x2))
        (some true)) (0 : Int))
def dc14 : DC :=
  (.seq (.reg [⟨none, (.mv (some 4) (.v (.bool false)))⟩])
  (.seq (.seq (.reg [⟨none, (.mv (some 6) (.t 0))⟩,
    ⟨none, (.ln 7 (some 9) (.t 6))⟩,
    ⟨none, (.mv (some 8) (.t 1))⟩,
    ⟨none, (.ln 9 (some 9) (.t 8))⟩,
    ⟨none, (.ar 10 .neq (.t 7) (.t 9))⟩])
  (.cond (.t 10)
    (.seq (.reg [⟨none, (.mv (some 4) (.v (.bool false)))⟩])
  .ret)
    .skip))
  (.seq (.seq (.reg [⟨none, (.mv (some 5) (.v (.int .i64 0)))⟩])
  (.block 0 (.loop ⟨[(5, (.lf (.int .i64)))], [], [4, 11, 12, 13, 14, 15, 16, 17, 18, 19, 20, 21, 22, 23, 24, 25].map .s⟩ (.seq (.seq (.reg [⟨none, (.mv (some 11) (.t 5))⟩,
    ⟨none, (.mv (some 12) (.t 0))⟩,
    ⟨none, (.ln 13 (some 9) (.t 12))⟩,
    ⟨none, (.ar 14 .lss (.t 11) (.t 13))⟩])
  (.cond (.t 14)
    .skip
    (.exit 0)))
  (.seq (.block 1 (.seq (.reg [⟨none, (.mv (some 17) (.t 0))⟩,
    ⟨none, (.mv (some 18) (.t 5))⟩,
    ⟨none, (.ea 19 9 (.t 17) (.t 18))⟩,
    ⟨none, (.ld 20 none (.t 19))⟩,
    ⟨none, (.mv (some 21) (.t 1))⟩,
    ⟨none, (.mv (some 22) (.t 5))⟩,
    ⟨none, (.ea 23 9 (.t 21) (.t 22))⟩,
    ⟨none, (.ld 24 none (.t 23))⟩,
    ⟨none, (.ar 25 .neq (.t 20) (.t 24))⟩])
  (.cond (.t 25)
    (.seq (.reg [⟨none, (.mv (some 4) (.v (.bool false)))⟩])
  .ret)
    .skip)))
  (.reg [⟨none, (.mv (some 15) (.t 5))⟩,
    ⟨none, (.ar 16 .add (.t 15) (.v (.int .i64 1)))⟩,
    ⟨none, (.mv (some 5) (.t 16))⟩]))))))
  (.seq (.reg [⟨none, (.mv (some 4) (.v (.bool true)))⟩])
  .ret))))
noncomputable def ent14 : TEnt := ⟨14, [(.sl 9 .str), (.sl 9 .str)], .bool, fun x => F14 x.1 x.2, .plain⟩
theorem eq14 (x : dens ent14.as) : ent14.F x = evF [] SHF dc14 [(.tmp 4)] ent14.as ent14.rs x := by kernel_rfl
/-- library/librarylaw07.small -/
noncomputable def F11 (a0 : List UInt8 × List UInt8 × (List (UInt8 × List UInt8)) × Int) : Option (Bool) :=
  cond (decide ((30 : Int) < (List.length a0.2.2.1 : Int)))
    (some false)
    (cond (decide ((300 : Int) < (List.length a0.1 : Int)))
      (some false)
      (cond (decide ((300 : Int) < (List.length a0.2.1 : Int)))
        (some false)
        (loopK (σ := Int) (fun p1 againp1 =>
          cond (decide (p1 < (List.length a0.2.2.1 : Int)))
            (gd (0 ≤ p1 ∧ p1 < (List.length a0.2.2.1 : Int)) <|
            cond (decide ((300 : Int) < (List.length ((List.getD a0.2.2.1 (Int.toNat p1) (0, [])).2) : Int)))
              (some false)
              (bnd (IntKind.wrap .i64 (p1 + (1 : Int))) fun x2 =>
              againp1 x2))
            (some true)) (0 : Int))))
def dc11 : DC :=
  (.seq (.reg [⟨none, (.bx 1 (some 24) (.t 0))⟩,
    ⟨none, (.mv (some 2) (.v (.bool false)))⟩])
  (.seq (.seq (.reg [⟨none, (.fa 4 24 2 (.t 1))⟩,
    ⟨none, (.ld 5 none (.t 4))⟩,
    ⟨none, (.ln 6 (some 46) (.t 5))⟩,
    ⟨none, (.ar 7 .gtr (.t 6) (.v (.int .i64 30)))⟩,
    ⟨none, (.mv (some 8) (.t 7))⟩,
    ⟨(some (8, false)), (.fa 9 24 0 (.t 1))⟩,
    ⟨(some (8, false)), (.ld 10 none (.t 9))⟩,
    ⟨(some (8, false)), (.ln 11 none (.t 10))⟩,
    ⟨(some (8, false)), (.ar 12 .gtr (.t 11) (.v (.int .i64 300)))⟩,
    ⟨none, (.pick 13 (.t 8) (.v (.bool true)) (.t 12))⟩,
    ⟨none, (.mv (some 14) (.t 13))⟩,
    ⟨(some (14, false)), (.fa 15 24 1 (.t 1))⟩,
    ⟨(some (14, false)), (.ld 16 none (.t 15))⟩,
    ⟨(some (14, false)), (.ln 17 none (.t 16))⟩,
    ⟨(some (14, false)), (.ar 18 .gtr (.t 17) (.v (.int .i64 300)))⟩,
    ⟨none, (.pick 19 (.t 14) (.v (.bool true)) (.t 18))⟩])
  (.cond (.t 19)
    (.seq (.reg [⟨none, (.mv (some 2) (.v (.bool false)))⟩])
  .ret)
    .skip))
  (.seq (.seq (.reg [⟨none, (.mv (some 3) (.v (.int .i64 0)))⟩])
  (.block 0 (.loop ⟨[(3, (.lf (.int .i64)))], [], [2, 20, 21, 22, 23, 24, 25, 26, 27, 28, 29, 30, 31, 32, 33, 34].map .s⟩ (.seq (.seq (.reg [⟨none, (.mv (some 20) (.t 3))⟩,
    ⟨none, (.fa 21 24 2 (.t 1))⟩,
    ⟨none, (.ld 22 none (.t 21))⟩,
    ⟨none, (.ln 23 (some 46) (.t 22))⟩,
    ⟨none, (.ar 24 .lss (.t 20) (.t 23))⟩])
  (.cond (.t 24)
    .skip
    (.exit 0)))
  (.seq (.block 1 (.seq (.reg [⟨none, (.fa 27 24 2 (.t 1))⟩,
    ⟨none, (.ld 28 none (.t 27))⟩,
    ⟨none, (.mv (some 29) (.t 3))⟩,
    ⟨none, (.ea 30 46 (.t 28) (.t 29))⟩,
    ⟨none, (.fa 31 46 1 (.t 30))⟩,
    ⟨none, (.ld 32 none (.t 31))⟩,
    ⟨none, (.ln 33 none (.t 32))⟩,
    ⟨none, (.ar 34 .gtr (.t 33) (.v (.int .i64 300)))⟩])
  (.cond (.t 34)
    (.seq (.reg [⟨none, (.mv (some 2) (.v (.bool false)))⟩])
  .ret)
    .skip)))
  (.reg [⟨none, (.mv (some 25) (.t 3))⟩,
    ⟨none, (.ar 26 .add (.t 25) (.v (.int .i64 1)))⟩,
    ⟨none, (.mv (some 3) (.t 26))⟩]))))))
  (.seq (.reg [⟨none, (.mv (some 2) (.v (.bool true)))⟩])
  .ret))))
noncomputable def ent11 : TEnt := ⟨11, [(.agg 24 (.pair .str (.pair .str (.pair (.sl 46 (.agg 46 (.pair .byte .str))) (.int .i64)))))], .bool, fun x => F11 x, .plain⟩
theorem eq11 (x : dens ent11.as) : ent11.F x = evF [] SHF dc11 [(.tmp 2)] ent11.as ent11.rs x := by kernel_rfl
/-- library/librarylaw07.alive -/
noncomputable def F10 : Option (Bool) :=
  gd ((0 : Int) ≤ (97 : Int) ∧ (97 : Int) < (256 : Int)) <|
  gd ((0 : Int) ≤ (98 : Int) ∧ (98 : Int) < (256 : Int)) <|
  gd ((0 : Int) ≤ (97 : Int) ∧ (97 : Int) < (256 : Int)) <|
  bindO (F22 (([50, 52, 53] : List UInt8), ([49, 48] : List UInt8), [((UInt8.ofNat (Int.toNat (97 : Int))), ([68, 111, 103, 115] : List UInt8)), ((UInt8.ofNat (Int.toNat (98 : Int))), ([97, 110, 100, 32, 36, 53] : List UInt8)), ((UInt8.ofNat (Int.toNat (97 : Int))), ([120] : List UInt8))], (0 : Int))) fun y1 =>
  cond (!decide (y1.2 = (0 : Int)))
    (some false)
    (cond (!decide (y1.1 = ([50, 52, 53, 32, 49, 48, 32, 36, 97, 68, 111, 103, 115, 36, 98, 97, 110, 100, 32, 36, 36, 53, 36, 97, 120] : List UInt8)))
      (some false)
      (gd ((0 : Int) ≤ (97 : Int) ∧ (97 : Int) < (256 : Int)) <|
      bindO (F12 (([50, 52, 53] : List UInt8), ([49, 48] : List UInt8), [((UInt8.ofNat (Int.toNat (97 : Int))), ([68, 111, 103, 115] : List UInt8)), ((UInt8.ofNat (Int.toNat (98 : Int))), ([97, 110, 100, 32, 36, 53] : List UInt8)), ((UInt8.ofNat (Int.toNat (97 : Int))), ([120] : List UInt8))], (0 : Int)) (UInt8.ofNat (Int.toNat (97 : Int)))) fun y2 =>
      cond (!y2.2)
        (some false)
        (cond (!decide (y2.1 = ([68, 111, 103, 115] : List UInt8)))
          (some false)
          (bindO (F15 (([50, 52, 53] : List UInt8), ([49, 48] : List UInt8), [((UInt8.ofNat (Int.toNat (97 : Int))), ([68, 111, 103, 115] : List UInt8)), ((UInt8.ofNat (Int.toNat (98 : Int))), ([97, 110, 100, 32, 36, 53] : List UInt8)), ((UInt8.ofNat (Int.toNat (97 : Int))), ([120] : List UInt8))], (0 : Int)) ([97] : List UInt8)) fun y3 =>
          bindO (F14 y3 [([68, 111, 103, 115] : List UInt8), ([120] : List UInt8)]) fun y4 =>
          cond (!y4)
            (some false)
            (bindO (F17 (([50, 52, 53] : List UInt8), ([49, 48] : List UInt8), [((UInt8.ofNat (Int.toNat (97 : Int))), ([68, 111, 103, 115] : List UInt8)), ((UInt8.ofNat (Int.toNat (98 : Int))), ([97, 110, 100, 32, 36, 53] : List UInt8)), ((UInt8.ofNat (Int.toNat (97 : Int))), ([120] : List UInt8))], (0 : Int)) ([97, 98] : List UInt8)) fun y5 =>
            cond (!decide (y5 = ([68, 111, 103, 115, 32, 97, 110, 100, 32, 36, 53, 32, 120] : List UInt8)))
              (some false)
              (gd ((0 : Int) ≤ (97 : Int) ∧ (97 : Int) < (256 : Int)) <|
              bindO (fSet (([50, 52, 53] : List UInt8), ([49, 48] : List UInt8), [((UInt8.ofNat (Int.toNat (97 : Int))), ([68, 111, 103, 115] : List UInt8)), ((UInt8.ofNat (Int.toNat (98 : Int))), ([97, 110, 100, 32, 36, 53] : List UInt8)), ((UInt8.ofNat (Int.toNat (97 : Int))), ([120] : List UInt8))], (0 : Int)) (UInt8.ofNat (Int.toNat (97 : Int))) ([] : List UInt8)) fun y6 =>
              cond (!decide ((List.length y6.2.2.1 : Int) = (1 : Int)))
                (some false)
                (bindO (F24 ([54, 53, 48, 64, 51, 32, 35, 48, 32, 36, 97, 68, 111, 103, 115] : List UInt8)) fun y7 =>
                cond (!decide (y7.2 = (0 : Int)))
                  (some false)
                  (cond (!decide (y7.1.2.2.2 = (3 : Int)))
                    (some false)
                    (cond (!decide (y7.1.2.1 = ([32, 48] : List UInt8)))
                      (some false)
                      (bindO (F24 ([50, 52, 53, 32, 49, 48, 32, 36, 97] : List UInt8)) fun y8 =>
                      bindO (F26 (([48, 48, 57] : List UInt8), ([49, 48] : List UInt8), [((UInt8.ofNat (Int.toNat (97 : Int))), ([68, 111, 103, 115] : List UInt8)), ((UInt8.ofNat (Int.toNat (98 : Int))), ([97, 110, 100, 32, 36, 53] : List UInt8)), ((UInt8.ofNat (Int.toNat (97 : Int))), ([120] : List UInt8))], (0 : Int))) fun y9 =>
                      cond (decide (y9 = (6 : Int)))
                        (some (decide (y8.2 = (3 : Int))))
                        (some false)))))))))))
def dc10 : DC :=
  (.seq (.reg [⟨none, (.mv (some 0) (.v (.bool false)))⟩])
  (.seq (.reg [⟨none, (.bd 7 46 [(.int .u8 0), (.str [])] [0, 1] [(.v (.int .u8 97)), (.v (.str [68, 111, 103, 115]))])⟩,
    ⟨none, (.bd 8 46 [(.int .u8 0), (.str [])] [0, 1] [(.v (.int .u8 98)), (.v (.str [97, 110, 100, 32, 36, 53]))])⟩,
    ⟨none, (.bd 9 46 [(.int .u8 0), (.str [])] [0, 1] [(.v (.int .u8 97)), (.v (.str [120]))])⟩,
    ⟨none, (.bs 10 46 (some 46) [(.t 7), (.t 8), (.t 9)])⟩,
    ⟨none, (.bd 11 24 [(.str []), (.str []), (.sl none 46 []), (.int .i64 0)] [0, 1, 2] [(.v (.str [50, 52, 53])), (.v (.str [49, 48])), (.t 10)])⟩,
    ⟨none, (.al 1 (.agg 24 [(.str []), (.str []), (.sl none 46 []), (.int .i64 0)]))⟩,
    ⟨none, (.st (some 24) (.t 1) (.t 11))⟩])
  (.seq (.reg [⟨none, (.ld 13 (some 24) (.t 1))⟩,
    ⟨none, (.ca (some 14) 22 [(.t 13)])⟩,
    ⟨none, (.mv (some 12) (.t 14))⟩,
    ⟨none, (.ex 15 0 (.t 12))⟩,
    ⟨none, (.ex 16 1 (.t 12))⟩,
    ⟨none, (.mv (some 2) (.t 15))⟩,
    ⟨none, (.mv (some 3) (.t 16))⟩])
  (.seq (.seq (.reg [⟨none, (.mv (some 17) (.t 3))⟩,
    ⟨none, (.ar 18 .neq (.t 17) (.v (.int .i64 0)))⟩,
    ⟨none, (.mv (some 19) (.t 18))⟩,
    ⟨(some (19, false)), (.mv (some 20) (.t 2))⟩,
    ⟨(some (19, false)), (.ar 21 .neq (.t 20) (.v (.str [50, 52, 53, 32, 49, 48, 32, 36, 97, 68, 111, 103, 115, 36, 98, 97, 110, 100, 32, 36, 36, 53, 36, 97, 120])))⟩,
    ⟨none, (.pick 22 (.t 19) (.v (.bool true)) (.t 21))⟩])
  (.cond (.t 22)
    (.seq (.reg [⟨none, (.mv (some 0) (.v (.bool false)))⟩])
  .ret)
    .skip))
  (.seq (.reg [⟨none, (.ld 24 (some 24) (.t 1))⟩,
    ⟨none, (.ca (some 25) 12 [(.t 24), (.v (.int .u8 97))])⟩,
    ⟨none, (.mv (some 23) (.t 25))⟩,
    ⟨none, (.ex 26 0 (.t 23))⟩,
    ⟨none, (.ex 27 1 (.t 23))⟩,
    ⟨none, (.mv (some 4) (.t 26))⟩,
    ⟨none, (.mv (some 5) (.t 27))⟩])
  (.seq (.seq (.reg [⟨none, (.mv (some 28) (.t 5))⟩,
    ⟨none, (.un 29 .not (.t 28))⟩,
    ⟨none, (.mv (some 30) (.t 29))⟩,
    ⟨(some (30, false)), (.mv (some 31) (.t 4))⟩,
    ⟨(some (30, false)), (.ar 32 .neq (.t 31) (.v (.str [68, 111, 103, 115])))⟩,
    ⟨none, (.pick 33 (.t 30) (.v (.bool true)) (.t 32))⟩,
    ⟨none, (.mv (some 34) (.t 33))⟩,
    ⟨(some (34, false)), (.ld 35 (some 24) (.t 1))⟩,
    ⟨(some (34, false)), (.ca (some 36) 15 [(.t 35), (.v (.str [97]))])⟩,
    ⟨(some (34, false)), (.bs 37 9 none [(.v (.str [68, 111, 103, 115])), (.v (.str [120]))])⟩,
    ⟨(some (34, false)), (.ca (some 38) 14 [(.t 36), (.t 37)])⟩,
    ⟨(some (34, false)), (.un 39 .not (.t 38))⟩,
    ⟨none, (.pick 40 (.t 34) (.v (.bool true)) (.t 39))⟩,
    ⟨none, (.mv (some 41) (.t 40))⟩,
    ⟨(some (41, false)), (.ld 42 (some 24) (.t 1))⟩,
    ⟨(some (41, false)), (.ca (some 43) 17 [(.t 42), (.v (.str [97, 98]))])⟩,
    ⟨(some (41, false)), (.ar 44 .neq (.t 43) (.v (.str [68, 111, 103, 115, 32, 97, 110, 100, 32, 36, 53, 32, 120])))⟩,
    ⟨none, (.pick 45 (.t 41) (.v (.bool true)) (.t 44))⟩])
  (.cond (.t 45)
    (.seq (.reg [⟨none, (.mv (some 0) (.v (.bool false)))⟩])
  .ret)
    .skip))
  (.seq (.seq (.reg [⟨none, (.ld 46 (some 24) (.t 1))⟩,
    ⟨none, (.ca (some 47) 20 [(.t 46), (.v (.int .u8 97)), (.v (.str []))])⟩,
    ⟨none, (.fd 48 24 2 none (.t 47))⟩,
    ⟨none, (.ln 49 (some 46) (.t 48))⟩,
    ⟨none, (.ar 50 .neq (.t 49) (.v (.int .i64 1)))⟩])
  (.cond (.t 50)
    (.seq (.reg [⟨none, (.mv (some 0) (.v (.bool false)))⟩])
  .ret)
    .skip))
  (.seq (.reg [⟨none, (.ca (some 52) 24 [(.v (.str [54, 53, 48, 64, 51, 32, 35, 48, 32, 36, 97, 68, 111, 103, 115]))])⟩,
    ⟨none, (.mv (some 51) (.t 52))⟩,
    ⟨none, (.ex 53 0 (.t 51))⟩,
    ⟨none, (.ex 54 1 (.t 51))⟩,
    ⟨none, (.al 6 (.agg 24 [(.str []), (.str []), (.sl none 46 []), (.int .i64 0)]))⟩,
    ⟨none, (.st (some 24) (.t 6) (.t 53))⟩,
    ⟨none, (.mv (some 3) (.t 54))⟩])
  (.seq (.seq (.reg [⟨none, (.mv (some 55) (.t 3))⟩,
    ⟨none, (.ar 56 .neq (.t 55) (.v (.int .i64 0)))⟩,
    ⟨none, (.mv (some 57) (.t 56))⟩,
    ⟨(some (57, false)), (.fa 58 24 3 (.t 6))⟩,
    ⟨(some (57, false)), (.ld 59 none (.t 58))⟩,
    ⟨(some (57, false)), (.ar 60 .neq (.t 59) (.v (.int .i64 3)))⟩,
    ⟨none, (.pick 61 (.t 57) (.v (.bool true)) (.t 60))⟩,
    ⟨none, (.mv (some 62) (.t 61))⟩,
    ⟨(some (62, false)), (.fa 63 24 1 (.t 6))⟩,
    ⟨(some (62, false)), (.ld 64 none (.t 63))⟩,
    ⟨(some (62, false)), (.ar 65 .neq (.t 64) (.v (.str [32, 48])))⟩,
    ⟨none, (.pick 66 (.t 62) (.v (.bool true)) (.t 65))⟩])
  (.cond (.t 66)
    (.seq (.reg [⟨none, (.mv (some 0) (.v (.bool false)))⟩])
  .ret)
    .skip))
  (.seq (.reg [⟨none, (.fa 67 24 0 (.t 1))⟩,
    ⟨none, (.st none (.t 67) (.v (.str [48, 48, 57])))⟩])
  (.seq (.reg [⟨none, (.ca (some 69) 24 [(.v (.str [50, 52, 53, 32, 49, 48, 32, 36, 97]))])⟩,
    ⟨none, (.mv (some 68) (.t 69))⟩,
    ⟨none, (.ex 70 0 (.t 68))⟩,
    ⟨none, (.ex 71 1 (.t 68))⟩,
    ⟨none, (.mv (some 3) (.t 71))⟩])
  (.seq (.reg [⟨none, (.ld 72 (some 24) (.t 1))⟩,
    ⟨none, (.ca (some 73) 26 [(.t 72)])⟩,
    ⟨none, (.ar 74 .eql (.t 73) (.v (.int .i64 6)))⟩,
    ⟨none, (.mv (some 75) (.t 74))⟩,
    ⟨(some (75, true)), (.mv (some 76) (.t 3))⟩,
    ⟨(some (75, true)), (.ar 77 .eql (.t 76) (.v (.int .i64 3)))⟩,
    ⟨none, (.pick 78 (.t 75) (.t 77) (.v (.bool false)))⟩,
    ⟨none, (.mv (some 0) (.t 78))⟩])
  .ret))))))))))))
noncomputable def ent10 : TEnt := ⟨10, [], .bool, fun _ => F10, .plain⟩
theorem eq10 (x : dens ent10.as) : ent10.F x = evF [ent12, ent14, ent15, ent17, entSet, ent22, ent24, ent26] SHF dc10 [(.tmp 0)] ent10.as ent10.rs x := by kernel_rfl
/-- library/librarylaw07.FieldReads -/
noncomputable def F3 (a0 : List UInt8 × List UInt8 × (List (UInt8 × List UInt8)) × Int) (a1 : UInt8) (a2 : List UInt8) : Option (Bool) :=
  bindO (F10) fun y1 =>
  cond (!y1)
    (some false)
    (bindO (F11 a0) fun y2 =>
    cond (!y2)
      (some true)
      (cond (decide ((300 : Int) < (List.length a2 : Int)))
        (some true)
        (bindO (F12 a0 a1) fun y3 =>
        bindO (F13 a0 a1) fun y4 =>
        cond (decide (y3.1 = y4.1))
          (cond ((y3.2 == y4.2))
            (bindO (F15 a0 a2) fun y5 =>
            bindO (F16 a0 a2) fun y6 =>
            bindO (F14 y5 y6) fun y7 =>
            cond (y7)
              (bindO (F17 a0 a2) fun y8 =>
              bindO (F18 a0 a2) fun y9 =>
              some (decide (y8 = y9)))
              (some false))
            (some false))
          (some false))))
def dc3 : DC :=
  (.seq (.reg [⟨none, (.bx 3 (some 24) (.t 0))⟩,
    ⟨none, (.mv (some 6) (.v (.bool false)))⟩])
  (.seq (.seq (.reg [⟨none, (.ca (some 11) 10 [])⟩,
    ⟨none, (.un 12 .not (.t 11))⟩])
  (.cond (.t 12)
    (.seq (.reg [⟨none, (.mv (some 6) (.v (.bool false)))⟩])
  .ret)
    .skip))
  (.seq (.seq (.reg [⟨none, (.ld 13 (some 24) (.t 3))⟩,
    ⟨none, (.ca (some 14) 11 [(.t 13)])⟩,
    ⟨none, (.un 15 .not (.t 14))⟩,
    ⟨none, (.mv (some 16) (.t 15))⟩,
    ⟨(some (16, false)), (.mv (some 17) (.t 2))⟩,
    ⟨(some (16, false)), (.ln 18 none (.t 17))⟩,
    ⟨(some (16, false)), (.ar 19 .gtr (.t 18) (.v (.int .i64 300)))⟩,
    ⟨none, (.pick 20 (.t 16) (.v (.bool true)) (.t 19))⟩])
  (.cond (.t 20)
    (.seq (.reg [⟨none, (.mv (some 6) (.v (.bool true)))⟩])
  .ret)
    .skip))
  (.seq (.reg [⟨none, (.ld 22 (some 24) (.t 3))⟩,
    ⟨none, (.mv (some 23) (.t 1))⟩,
    ⟨none, (.ca (some 24) 12 [(.t 22), (.t 23)])⟩,
    ⟨none, (.mv (some 21) (.t 24))⟩,
    ⟨none, (.ex 25 0 (.t 21))⟩,
    ⟨none, (.ex 26 1 (.t 21))⟩,
    ⟨none, (.mv (some 7) (.t 25))⟩,
    ⟨none, (.mv (some 8) (.t 26))⟩])
  (.seq (.reg [⟨none, (.ld 28 (some 24) (.t 3))⟩,
    ⟨none, (.mv (some 29) (.t 1))⟩,
    ⟨none, (.ca (some 30) 13 [(.t 28), (.t 29)])⟩,
    ⟨none, (.mv (some 27) (.t 30))⟩,
    ⟨none, (.ex 31 0 (.t 27))⟩,
    ⟨none, (.ex 32 1 (.t 27))⟩,
    ⟨none, (.mv (some 9) (.t 31))⟩,
    ⟨none, (.mv (some 10) (.t 32))⟩])
  (.seq (.reg [⟨none, (.mv (some 33) (.t 7))⟩,
    ⟨none, (.mv (some 34) (.t 9))⟩,
    ⟨none, (.ar 35 .eql (.t 33) (.t 34))⟩,
    ⟨none, (.mv (some 36) (.t 35))⟩,
    ⟨(some (36, true)), (.mv (some 37) (.t 8))⟩,
    ⟨(some (36, true)), (.mv (some 38) (.t 10))⟩,
    ⟨(some (36, true)), (.eb 39 false (.t 37) (.t 38))⟩,
    ⟨none, (.pick 40 (.t 36) (.t 39) (.v (.bool false)))⟩,
    ⟨none, (.mv (some 41) (.t 40))⟩,
    ⟨(some (41, true)), (.ld 42 (some 24) (.t 3))⟩,
    ⟨(some (41, true)), (.mv (some 43) (.t 2))⟩,
    ⟨(some (41, true)), (.ca (some 44) 15 [(.t 42), (.t 43)])⟩,
    ⟨(some (41, true)), (.ld 45 (some 24) (.t 3))⟩,
    ⟨(some (41, true)), (.mv (some 46) (.t 2))⟩,
    ⟨(some (41, true)), (.ca (some 47) 16 [(.t 45), (.t 46)])⟩,
    ⟨(some (41, true)), (.ca (some 48) 14 [(.t 44), (.t 47)])⟩,
    ⟨none, (.pick 49 (.t 41) (.t 48) (.v (.bool false)))⟩,
    ⟨none, (.mv (some 50) (.t 49))⟩,
    ⟨(some (50, true)), (.ld 51 (some 24) (.t 3))⟩,
    ⟨(some (50, true)), (.mv (some 52) (.t 2))⟩,
    ⟨(some (50, true)), (.ca (some 53) 17 [(.t 51), (.t 52)])⟩,
    ⟨(some (50, true)), (.ld 54 (some 24) (.t 3))⟩,
    ⟨(some (50, true)), (.mv (some 55) (.t 2))⟩,
    ⟨(some (50, true)), (.ca (some 56) 18 [(.t 54), (.t 55)])⟩,
    ⟨(some (50, true)), (.ar 57 .eql (.t 53) (.t 56))⟩,
    ⟨none, (.pick 58 (.t 50) (.t 57) (.v (.bool false)))⟩,
    ⟨none, (.mv (some 6) (.t 58))⟩])
  .ret))))))
noncomputable def ent3 : TEnt := ⟨3, [(.agg 24 (.pair .str (.pair .str (.pair (.sl 46 (.agg 46 (.pair .byte .str))) (.int .i64))))), .byte, .str], .bool, fun x => F3 x.1 x.2.1 x.2.2, .plain⟩
theorem eq3 (x : dens ent3.as) : ent3.F x = evF [ent10, ent11, ent12, ent13, ent14, ent15, ent16, ent17, ent18] SHF dc3 [(.tmp 6)] ent3.as ent3.rs x := by kernel_rfl
/-- library/librarylaw07.FieldSets -/
noncomputable def F4 (a0 : List UInt8 × List UInt8 × (List (UInt8 × List UInt8)) × Int) (a1 : UInt8) (a2 : List UInt8) : Option (Bool) :=
  bindO (F10) fun y1 =>
  cond (!y1)
    (some false)
    (bindO (F11 a0) fun y2 =>
    cond (!y2)
      (some true)
      (cond (decide ((300 : Int) < (List.length a2 : Int)))
        (some true)
        (bindO (fSet a0 a1 a2) fun y3 =>
        bindO (F21 a0 a1 a2) fun y4 =>
        bindO (F19 y3 y4) fun y5 =>
        some y5)))
def dc4 : DC :=
  (.seq (.reg [⟨none, (.bx 3 (some 24) (.t 0))⟩,
    ⟨none, (.mv (some 6) (.v (.bool false)))⟩])
  (.seq (.seq (.reg [⟨none, (.ca (some 7) 10 [])⟩,
    ⟨none, (.un 8 .not (.t 7))⟩])
  (.cond (.t 8)
    (.seq (.reg [⟨none, (.mv (some 6) (.v (.bool false)))⟩])
  .ret)
    .skip))
  (.seq (.seq (.reg [⟨none, (.ld 9 (some 24) (.t 3))⟩,
    ⟨none, (.ca (some 10) 11 [(.t 9)])⟩,
    ⟨none, (.un 11 .not (.t 10))⟩,
    ⟨none, (.mv (some 12) (.t 11))⟩,
    ⟨(some (12, false)), (.mv (some 13) (.t 2))⟩,
    ⟨(some (12, false)), (.ln 14 none (.t 13))⟩,
    ⟨(some (12, false)), (.ar 15 .gtr (.t 14) (.v (.int .i64 300)))⟩,
    ⟨none, (.pick 16 (.t 12) (.v (.bool true)) (.t 15))⟩])
  (.cond (.t 16)
    (.seq (.reg [⟨none, (.mv (some 6) (.v (.bool true)))⟩])
  .ret)
    .skip))
  (.seq (.reg [⟨none, (.ld 17 (some 24) (.t 3))⟩,
    ⟨none, (.mv (some 18) (.t 1))⟩,
    ⟨none, (.mv (some 19) (.t 2))⟩,
    ⟨none, (.ca (some 20) 20 [(.t 17), (.t 18), (.t 19)])⟩,
    ⟨none, (.ld 21 (some 24) (.t 3))⟩,
    ⟨none, (.mv (some 22) (.t 1))⟩,
    ⟨none, (.mv (some 23) (.t 2))⟩,
    ⟨none, (.ca (some 24) 21 [(.t 21), (.t 22), (.t 23)])⟩,
    ⟨none, (.ca (some 25) 19 [(.t 20), (.t 24)])⟩,
    ⟨none, (.mv (some 6) (.t 25))⟩])
  .ret))))
noncomputable def ent4 : TEnt := ⟨4, [(.agg 24 (.pair .str (.pair .str (.pair (.sl 46 (.agg 46 (.pair .byte .str))) (.int .i64))))), .byte, .str], .bool, fun x => F4 x.1 x.2.1 x.2.2, .plain⟩
theorem eq4 (x : dens ent4.as) : ent4.F x = evF [ent10, ent11, ent19, entSet, ent21] SHF dc4 [(.tmp 6)] ent4.as ent4.rs x := by kernel_rfl
/-- library/librarylaw07.FieldPrints -/
noncomputable def F5 (a0 : List UInt8 × List UInt8 × (List (UInt8 × List UInt8)) × Int) : Option (Bool) :=
  bindO (F10) fun y1 =>
  cond (!y1)
    (some false)
    (bindO (F11 a0) fun y2 =>
    cond (!y2)
      (some true)
      (bindO (F22 a0) fun y3 =>
      bindO (F23 a0) fun y4 =>
      cond (decide (y3.1 = y4.1))
        (some (decide (y3.2 = y4.2)))
        (some false)))
def dc5 : DC :=
  (.seq (.reg [⟨none, (.bx 1 (some 24) (.t 0))⟩,
    ⟨none, (.mv (some 2) (.v (.bool false)))⟩])
  (.seq (.seq (.reg [⟨none, (.ca (some 7) 10 [])⟩,
    ⟨none, (.un 8 .not (.t 7))⟩])
  (.cond (.t 8)
    (.seq (.reg [⟨none, (.mv (some 2) (.v (.bool false)))⟩])
  .ret)
    .skip))
  (.seq (.seq (.reg [⟨none, (.ld 9 (some 24) (.t 1))⟩,
    ⟨none, (.ca (some 10) 11 [(.t 9)])⟩,
    ⟨none, (.un 11 .not (.t 10))⟩])
  (.cond (.t 11)
    (.seq (.reg [⟨none, (.mv (some 2) (.v (.bool true)))⟩])
  .ret)
    .skip))
  (.seq (.reg [⟨none, (.ld 13 (some 24) (.t 1))⟩,
    ⟨none, (.ca (some 14) 22 [(.t 13)])⟩,
    ⟨none, (.mv (some 12) (.t 14))⟩,
    ⟨none, (.ex 15 0 (.t 12))⟩,
    ⟨none, (.ex 16 1 (.t 12))⟩,
    ⟨none, (.mv (some 3) (.t 15))⟩,
    ⟨none, (.mv (some 4) (.t 16))⟩])
  (.seq (.reg [⟨none, (.ld 18 (some 24) (.t 1))⟩,
    ⟨none, (.ca (some 19) 23 [(.t 18)])⟩,
    ⟨none, (.mv (some 17) (.t 19))⟩,
    ⟨none, (.ex 20 0 (.t 17))⟩,
    ⟨none, (.ex 21 1 (.t 17))⟩,
    ⟨none, (.mv (some 5) (.t 20))⟩,
    ⟨none, (.mv (some 6) (.t 21))⟩])
  (.seq (.reg [⟨none, (.mv (some 22) (.t 3))⟩,
    ⟨none, (.mv (some 23) (.t 5))⟩,
    ⟨none, (.ar 24 .eql (.t 22) (.t 23))⟩,
    ⟨none, (.mv (some 25) (.t 24))⟩,
    ⟨(some (25, true)), (.mv (some 26) (.t 4))⟩,
    ⟨(some (25, true)), (.mv (some 27) (.t 6))⟩,
    ⟨(some (25, true)), (.ar 28 .eql (.t 26) (.t 27))⟩,
    ⟨none, (.pick 29 (.t 25) (.t 28) (.v (.bool false)))⟩,
    ⟨none, (.mv (some 2) (.t 29))⟩])
  .ret))))))
noncomputable def ent5 : TEnt := ⟨5, [(.agg 24 (.pair .str (.pair .str (.pair (.sl 46 (.agg 46 (.pair .byte .str))) (.int .i64)))))], .bool, fun x => F5 x, .plain⟩
theorem eq5 (x : dens ent5.as) : ent5.F x = evF [ent10, ent11, ent22, ent23] SHF dc5 [(.tmp 2)] ent5.as ent5.rs x := by kernel_rfl
/-- library/librarylaw07.FieldParses -/
noncomputable def F6 (a0 : List UInt8) : Option (Bool) :=
  bindO (F10) fun y1 =>
  cond (!y1)
    (some false)
    (cond (decide ((1000 : Int) < (List.length a0 : Int)))
      (some true)
      (bindO (F24 a0) fun y2 =>
      bindO (F25 a0) fun y3 =>
      cond (decide (y2.2 = y3.2))
        (bindO (F19 y2.1 y3.1) fun y4 =>
        some y4)
        (some false)))
def dc6 : DC :=
  (.seq (.reg [⟨none, (.mv (some 2) (.v (.bool false)))⟩])
  (.seq (.seq (.reg [⟨none, (.ca (some 7) 10 [])⟩,
    ⟨none, (.un 8 .not (.t 7))⟩])
  (.cond (.t 8)
    (.seq (.reg [⟨none, (.mv (some 2) (.v (.bool false)))⟩])
  .ret)
    .skip))
  (.seq (.seq (.reg [⟨none, (.mv (some 9) (.t 0))⟩,
    ⟨none, (.ln 10 none (.t 9))⟩,
    ⟨none, (.ar 11 .gtr (.t 10) (.v (.int .i64 1000)))⟩])
  (.cond (.t 11)
    (.seq (.reg [⟨none, (.mv (some 2) (.v (.bool true)))⟩])
  .ret)
    .skip))
  (.seq (.reg [⟨none, (.mv (some 13) (.t 0))⟩,
    ⟨none, (.ca (some 14) 24 [(.t 13)])⟩,
    ⟨none, (.mv (some 12) (.t 14))⟩,
    ⟨none, (.ex 15 0 (.t 12))⟩,
    ⟨none, (.ex 16 1 (.t 12))⟩,
    ⟨none, (.al 3 (.agg 24 [(.str []), (.str []), (.sl none 46 []), (.int .i64 0)]))⟩,
    ⟨none, (.st (some 24) (.t 3) (.t 15))⟩,
    ⟨none, (.mv (some 4) (.t 16))⟩])
  (.seq (.reg [⟨none, (.mv (some 18) (.t 0))⟩,
    ⟨none, (.ca (some 19) 25 [(.t 18)])⟩,
    ⟨none, (.mv (some 17) (.t 19))⟩,
    ⟨none, (.ex 20 0 (.t 17))⟩,
    ⟨none, (.ex 21 1 (.t 17))⟩,
    ⟨none, (.al 5 (.agg 24 [(.str []), (.str []), (.sl none 46 []), (.int .i64 0)]))⟩,
    ⟨none, (.st (some 24) (.t 5) (.t 20))⟩,
    ⟨none, (.mv (some 6) (.t 21))⟩])
  (.seq (.reg [⟨none, (.mv (some 22) (.t 4))⟩,
    ⟨none, (.mv (some 23) (.t 6))⟩,
    ⟨none, (.ar 24 .eql (.t 22) (.t 23))⟩,
    ⟨none, (.mv (some 25) (.t 24))⟩,
    ⟨(some (25, true)), (.ld 26 (some 24) (.t 3))⟩,
    ⟨(some (25, true)), (.ld 27 (some 24) (.t 5))⟩,
    ⟨(some (25, true)), (.ca (some 28) 19 [(.t 26), (.t 27)])⟩,
    ⟨none, (.pick 29 (.t 25) (.t 28) (.v (.bool false)))⟩,
    ⟨none, (.mv (some 2) (.t 29))⟩])
  .ret))))))
noncomputable def ent6 : TEnt := ⟨6, [.str], .bool, fun x => F6 x, .plain⟩
theorem eq6 (x : dens ent6.as) : ent6.F x = evF [ent10, ent19, ent24, ent25] SHF dc6 [(.tmp 2)] ent6.as ent6.rs x := by kernel_rfl
/-- library/librarylaw07.FieldKeeps -/
noncomputable def F7 (a0 : List UInt8 × List UInt8 × (List (UInt8 × List UInt8)) × Int) (a1 : UInt8) (a2 : List UInt8) (a3 : UInt8) : Option (Bool) :=
  bindO (F10) fun y1 =>
  cond (!y1)
    (some false)
    (bindO (F11 a0) fun y2 =>
    cond (!y2)
      (some true)
      (cond (decide ((300 : Int) < (List.length a2 : Int)))
        (some true)
        (bindO (fSet a0 a1 a2) fun y3 =>
        bindO (F12 y3 a1) fun y4 =>
        cond (!decide (y4.1 = a2))
          (some false)
          (cond (!(y4.2 == (!decide (a2 = ([] : List UInt8)))))
            (some false)
            (cond (decide ((UInt8.toNat a3 : Int) = (UInt8.toNat a1 : Int)))
              (some true)
              (bindO (F15 a0 [a3]) fun y5 =>
              bindO (F15 y3 [a3]) fun y6 =>
              bindO (F14 y5 y6) fun y7 =>
              some y7))))))
def dc7 : DC :=
  (.seq (.reg [⟨none, (.bx 4 (some 24) (.t 0))⟩,
    ⟨none, (.mv (some 8) (.v (.bool false)))⟩])
  (.seq (.seq (.reg [⟨none, (.ca (some 13) 10 [])⟩,
    ⟨none, (.un 14 .not (.t 13))⟩])
  (.cond (.t 14)
    (.seq (.reg [⟨none, (.mv (some 8) (.v (.bool false)))⟩])
  .ret)
    .skip))
  (.seq (.seq (.reg [⟨none, (.ld 15 (some 24) (.t 4))⟩,
    ⟨none, (.ca (some 16) 11 [(.t 15)])⟩,
    ⟨none, (.un 17 .not (.t 16))⟩,
    ⟨none, (.mv (some 18) (.t 17))⟩,
    ⟨(some (18, false)), (.mv (some 19) (.t 2))⟩,
    ⟨(some (18, false)), (.ln 20 none (.t 19))⟩,
    ⟨(some (18, false)), (.ar 21 .gtr (.t 20) (.v (.int .i64 300)))⟩,
    ⟨none, (.pick 22 (.t 18) (.v (.bool true)) (.t 21))⟩])
  (.cond (.t 22)
    (.seq (.reg [⟨none, (.mv (some 8) (.v (.bool true)))⟩])
  .ret)
    .skip))
  (.seq (.reg [⟨none, (.ld 23 (some 24) (.t 4))⟩,
    ⟨none, (.mv (some 24) (.t 1))⟩,
    ⟨none, (.mv (some 25) (.t 2))⟩,
    ⟨none, (.ca (some 26) 20 [(.t 23), (.t 24), (.t 25)])⟩,
    ⟨none, (.al 9 (.agg 24 [(.str []), (.str []), (.sl none 46 []), (.int .i64 0)]))⟩,
    ⟨none, (.st (some 24) (.t 9) (.t 26))⟩])
  (.seq (.reg [⟨none, (.ld 28 (some 24) (.t 9))⟩,
    ⟨none, (.mv (some 29) (.t 1))⟩,
    ⟨none, (.ca (some 30) 12 [(.t 28), (.t 29)])⟩,
    ⟨none, (.mv (some 27) (.t 30))⟩,
    ⟨none, (.ex 31 0 (.t 27))⟩,
    ⟨none, (.ex 32 1 (.t 27))⟩,
    ⟨none, (.mv (some 10) (.t 31))⟩,
    ⟨none, (.mv (some 11) (.t 32))⟩])
  (.seq (.seq (.reg [⟨none, (.mv (some 33) (.t 10))⟩,
    ⟨none, (.mv (some 34) (.t 2))⟩,
    ⟨none, (.ar 35 .neq (.t 33) (.t 34))⟩,
    ⟨none, (.mv (some 36) (.t 35))⟩,
    ⟨(some (36, false)), (.mv (some 37) (.t 11))⟩,
    ⟨(some (36, false)), (.mv (some 38) (.t 2))⟩,
    ⟨(some (36, false)), (.ar 39 .neq (.t 38) (.v (.str [])))⟩,
    ⟨(some (36, false)), (.eb 40 true (.t 37) (.t 39))⟩,
    ⟨none, (.pick 41 (.t 36) (.v (.bool true)) (.t 40))⟩])
  (.cond (.t 41)
    (.seq (.reg [⟨none, (.mv (some 8) (.v (.bool false)))⟩])
  .ret)
    .skip))
  (.seq (.reg [⟨none, (.mv (some 42) (.t 3))⟩,
    ⟨none, (.bs 43 5 none [(.t 42)])⟩,
    ⟨none, (.cvb 44 (.t 43))⟩,
    ⟨none, (.mv (some 12) (.t 44))⟩])
  (.seq (.reg [⟨none, (.mv (some 45) (.t 3))⟩,
    ⟨none, (.mv (some 46) (.t 1))⟩,
    ⟨none, (.ar 47 .eql (.t 45) (.t 46))⟩,
    ⟨none, (.mv (some 48) (.t 47))⟩,
    ⟨(some (48, false)), (.ld 49 (some 24) (.t 4))⟩,
    ⟨(some (48, false)), (.mv (some 50) (.t 12))⟩,
    ⟨(some (48, false)), (.ca (some 51) 15 [(.t 49), (.t 50)])⟩,
    ⟨(some (48, false)), (.ld 52 (some 24) (.t 9))⟩,
    ⟨(some (48, false)), (.mv (some 53) (.t 12))⟩,
    ⟨(some (48, false)), (.ca (some 54) 15 [(.t 52), (.t 53)])⟩,
    ⟨(some (48, false)), (.ca (some 55) 14 [(.t 51), (.t 54)])⟩,
    ⟨none, (.pick 56 (.t 48) (.v (.bool true)) (.t 55))⟩,
    ⟨none, (.mv (some 8) (.t 56))⟩])
  .ret))))))))
noncomputable def ent7 : TEnt := ⟨7, [(.agg 24 (.pair .str (.pair .str (.pair (.sl 46 (.agg 46 (.pair .byte .str))) (.int .i64))))), .byte, .str, .byte], .bool, fun x => F7 x.1 x.2.1 x.2.2.1 x.2.2.2, .plain⟩
theorem eq7 (x : dens ent7.as) : ent7.F x = evF [ent10, ent11, ent12, ent14, ent15, entSet] SHF dc7 [(.tmp 8)] ent7.as ent7.rs x := by kernel_rfl
/-- library/librarylaw07.FieldChecks -/
noncomputable def F8 (a0 : List UInt8 × List UInt8 × (List (UInt8 × List UInt8)) × Int) (a1 : List UInt8 × List UInt8 × (List (UInt8 × List UInt8)) × Int) : Option (Bool) :=
  bindO (F10) fun y1 =>
  cond (!y1)
    (some false)
    (bindO (F11 a0) fun y2 =>
    cond (!y2)
      (some true)
      (bindO (F11 a1) fun y3 =>
      cond (!y3)
        (some true)
        (bindO (F26 a0) fun y4 =>
        bindO (F27 a0) fun y5 =>
        cond (decide (y4 = y5))
          (bindO (F28 a0 a1) fun y6 =>
          bindO (F19 a0 a1) fun y7 =>
          cond ((y6 == y7))
            (bindO (F28 a0 a0) fun y8 =>
            some y8)
            (some false))
          (some false))))
def dc8 : DC :=
  (.seq (.reg [⟨none, (.bx 2 (some 24) (.t 0))⟩,
    ⟨none, (.bx 3 (some 24) (.t 1))⟩,
    ⟨none, (.mv (some 4) (.v (.bool false)))⟩])
  (.seq (.seq (.reg [⟨none, (.ca (some 5) 10 [])⟩,
    ⟨none, (.un 6 .not (.t 5))⟩])
  (.cond (.t 6)
    (.seq (.reg [⟨none, (.mv (some 4) (.v (.bool false)))⟩])
  .ret)
    .skip))
  (.seq (.seq (.reg [⟨none, (.ld 7 (some 24) (.t 2))⟩,
    ⟨none, (.ca (some 8) 11 [(.t 7)])⟩,
    ⟨none, (.un 9 .not (.t 8))⟩,
    ⟨none, (.mv (some 10) (.t 9))⟩,
    ⟨(some (10, false)), (.ld 11 (some 24) (.t 3))⟩,
    ⟨(some (10, false)), (.ca (some 12) 11 [(.t 11)])⟩,
    ⟨(some (10, false)), (.un 13 .not (.t 12))⟩,
    ⟨none, (.pick 14 (.t 10) (.v (.bool true)) (.t 13))⟩])
  (.cond (.t 14)
    (.seq (.reg [⟨none, (.mv (some 4) (.v (.bool true)))⟩])
  .ret)
    .skip))
  (.seq (.reg [⟨none, (.ld 15 (some 24) (.t 2))⟩,
    ⟨none, (.ca (some 16) 26 [(.t 15)])⟩,
    ⟨none, (.ld 17 (some 24) (.t 2))⟩,
    ⟨none, (.ca (some 18) 27 [(.t 17)])⟩,
    ⟨none, (.ar 19 .eql (.t 16) (.t 18))⟩,
    ⟨none, (.mv (some 20) (.t 19))⟩,
    ⟨(some (20, true)), (.ld 21 (some 24) (.t 2))⟩,
    ⟨(some (20, true)), (.ld 22 (some 24) (.t 3))⟩,
    ⟨(some (20, true)), (.ca (some 23) 28 [(.t 21), (.t 22)])⟩,
    ⟨(some (20, true)), (.ld 24 (some 24) (.t 2))⟩,
    ⟨(some (20, true)), (.ld 25 (some 24) (.t 3))⟩,
    ⟨(some (20, true)), (.ca (some 26) 19 [(.t 24), (.t 25)])⟩,
    ⟨(some (20, true)), (.eb 27 false (.t 23) (.t 26))⟩,
    ⟨none, (.pick 28 (.t 20) (.t 27) (.v (.bool false)))⟩,
    ⟨none, (.mv (some 29) (.t 28))⟩,
    ⟨(some (29, true)), (.ld 30 (some 24) (.t 2))⟩,
    ⟨(some (29, true)), (.ld 31 (some 24) (.t 2))⟩,
    ⟨(some (29, true)), (.ca (some 32) 28 [(.t 30), (.t 31)])⟩,
    ⟨none, (.pick 33 (.t 29) (.t 32) (.v (.bool false)))⟩,
    ⟨none, (.mv (some 4) (.t 33))⟩])
  .ret))))
noncomputable def ent8 : TEnt := ⟨8, [(.agg 24 (.pair .str (.pair .str (.pair (.sl 46 (.agg 46 (.pair .byte .str))) (.int .i64))))), (.agg 24 (.pair .str (.pair .str (.pair (.sl 46 (.agg 46 (.pair .byte .str))) (.int .i64)))))], .bool, fun x => F8 x.1 x.2, .plain⟩
theorem eq8 (x : dens ent8.as) : ent8.F x = evF [ent10, ent11, ent19, ent26, ent27, ent28] SHF dc8 [(.tmp 4)] ent8.as ent8.rs x := by kernel_rfl
/-- library/librarylaw07.FieldBack -/
noncomputable def F9 (a0 : List UInt8 × List UInt8 × (List (UInt8 × List UInt8)) × Int) (a1 : List UInt8 × List UInt8 × (List (UInt8 × List UInt8)) × Int) : Option (Bool) :=
  bindO (F10) fun y1 =>
  cond (!y1)
    (some false)
    (bindO (F11 a0) fun y2 =>
    cond (!y2)
      (some true)
      (bindO (F11 a1) fun y3 =>
      cond (!y3)
        (some true)
        (bindO (F26 a0) fun y4 =>
        cond (!decide (y4 = (0 : Int)))
          (some true)
          (bindO (F26 a1) fun y5 =>
          cond (!decide (y5 = (0 : Int)))
            (some true)
            (bindO (F22 a0) fun y6 =>
            bindO (F22 a1) fun y7 =>
            bindO (F24 y6.1) fun y8 =>
            cond (decide (y6.2 = (0 : Int)))
              (cond (decide (y7.2 = (0 : Int)))
                (cond (decide (y8.2 = (0 : Int)))
                  (bindO (F28 y8.1 a0) fun y9 =>
                  cond (y9)
                    (bindO (F28 a0 a1) fun y10 =>
                    some ((decide (y6.1 = y7.1)) == y10))
                    (some false))
                  (some false))
                (some false))
              (some false))))))
def dc9 : DC :=
  (.seq (.reg [⟨none, (.bx 2 (some 24) (.t 0))⟩,
    ⟨none, (.bx 3 (some 24) (.t 1))⟩,
    ⟨none, (.mv (some 4) (.v (.bool false)))⟩])
  (.seq (.seq (.reg [⟨none, (.ca (some 11) 10 [])⟩,
    ⟨none, (.un 12 .not (.t 11))⟩])
  (.cond (.t 12)
    (.seq (.reg [⟨none, (.mv (some 4) (.v (.bool false)))⟩])
  .ret)
    .skip))
  (.seq (.seq (.reg [⟨none, (.ld 13 (some 24) (.t 2))⟩,
    ⟨none, (.ca (some 14) 11 [(.t 13)])⟩,
    ⟨none, (.un 15 .not (.t 14))⟩,
    ⟨none, (.mv (some 16) (.t 15))⟩,
    ⟨(some (16, false)), (.ld 17 (some 24) (.t 3))⟩,
    ⟨(some (16, false)), (.ca (some 18) 11 [(.t 17)])⟩,
    ⟨(some (16, false)), (.un 19 .not (.t 18))⟩,
    ⟨none, (.pick 20 (.t 16) (.v (.bool true)) (.t 19))⟩,
    ⟨none, (.mv (some 21) (.t 20))⟩,
    ⟨(some (21, false)), (.ld 22 (some 24) (.t 2))⟩,
    ⟨(some (21, false)), (.ca (some 23) 26 [(.t 22)])⟩,
    ⟨(some (21, false)), (.ar 24 .neq (.t 23) (.v (.int .i64 0)))⟩,
    ⟨none, (.pick 25 (.t 21) (.v (.bool true)) (.t 24))⟩,
    ⟨none, (.mv (some 26) (.t 25))⟩,
    ⟨(some (26, false)), (.ld 27 (some 24) (.t 3))⟩,
    ⟨(some (26, false)), (.ca (some 28) 26 [(.t 27)])⟩,
    ⟨(some (26, false)), (.ar 29 .neq (.t 28) (.v (.int .i64 0)))⟩,
    ⟨none, (.pick 30 (.t 26) (.v (.bool true)) (.t 29))⟩])
  (.cond (.t 30)
    (.seq (.reg [⟨none, (.mv (some 4) (.v (.bool true)))⟩])
  .ret)
    .skip))
  (.seq (.reg [⟨none, (.ld 32 (some 24) (.t 2))⟩,
    ⟨none, (.ca (some 33) 22 [(.t 32)])⟩,
    ⟨none, (.mv (some 31) (.t 33))⟩,
    ⟨none, (.ex 34 0 (.t 31))⟩,
    ⟨none, (.ex 35 1 (.t 31))⟩,
    ⟨none, (.mv (some 5) (.t 34))⟩,
    ⟨none, (.mv (some 6) (.t 35))⟩])
  (.seq (.reg [⟨none, (.ld 37 (some 24) (.t 3))⟩,
    ⟨none, (.ca (some 38) 22 [(.t 37)])⟩,
    ⟨none, (.mv (some 36) (.t 38))⟩,
    ⟨none, (.ex 39 0 (.t 36))⟩,
    ⟨none, (.ex 40 1 (.t 36))⟩,
    ⟨none, (.mv (some 7) (.t 39))⟩,
    ⟨none, (.mv (some 8) (.t 40))⟩])
  (.seq (.reg [⟨none, (.mv (some 42) (.t 5))⟩,
    ⟨none, (.ca (some 43) 24 [(.t 42)])⟩,
    ⟨none, (.mv (some 41) (.t 43))⟩,
    ⟨none, (.ex 44 0 (.t 41))⟩,
    ⟨none, (.ex 45 1 (.t 41))⟩,
    ⟨none, (.al 9 (.agg 24 [(.str []), (.str []), (.sl none 46 []), (.int .i64 0)]))⟩,
    ⟨none, (.st (some 24) (.t 9) (.t 44))⟩,
    ⟨none, (.mv (some 10) (.t 45))⟩])
  (.seq (.reg [⟨none, (.mv (some 46) (.t 6))⟩,
    ⟨none, (.ar 47 .eql (.t 46) (.v (.int .i64 0)))⟩,
    ⟨none, (.mv (some 48) (.t 47))⟩,
    ⟨(some (48, true)), (.mv (some 49) (.t 8))⟩,
    ⟨(some (48, true)), (.ar 50 .eql (.t 49) (.v (.int .i64 0)))⟩,
    ⟨none, (.pick 51 (.t 48) (.t 50) (.v (.bool false)))⟩,
    ⟨none, (.mv (some 52) (.t 51))⟩,
    ⟨(some (52, true)), (.mv (some 53) (.t 10))⟩,
    ⟨(some (52, true)), (.ar 54 .eql (.t 53) (.v (.int .i64 0)))⟩,
    ⟨none, (.pick 55 (.t 52) (.t 54) (.v (.bool false)))⟩,
    ⟨none, (.mv (some 56) (.t 55))⟩,
    ⟨(some (56, true)), (.ld 57 (some 24) (.t 9))⟩,
    ⟨(some (56, true)), (.ld 58 (some 24) (.t 2))⟩,
    ⟨(some (56, true)), (.ca (some 59) 28 [(.t 57), (.t 58)])⟩,
    ⟨none, (.pick 60 (.t 56) (.t 59) (.v (.bool false)))⟩,
    ⟨none, (.mv (some 61) (.t 60))⟩,
    ⟨(some (61, true)), (.mv (some 62) (.t 5))⟩,
    ⟨(some (61, true)), (.mv (some 63) (.t 7))⟩,
    ⟨(some (61, true)), (.ar 64 .eql (.t 62) (.t 63))⟩,
    ⟨(some (61, true)), (.ld 65 (some 24) (.t 2))⟩,
    ⟨(some (61, true)), (.ld 66 (some 24) (.t 3))⟩,
    ⟨(some (61, true)), (.ca (some 67) 28 [(.t 65), (.t 66)])⟩,
    ⟨(some (61, true)), (.eb 68 false (.t 64) (.t 67))⟩,
    ⟨none, (.pick 69 (.t 61) (.t 68) (.v (.bool false)))⟩,
    ⟨none, (.mv (some 4) (.t 69))⟩])
  .ret)))))))
noncomputable def ent9 : TEnt := ⟨9, [(.agg 24 (.pair .str (.pair .str (.pair (.sl 46 (.agg 46 (.pair .byte .str))) (.int .i64))))), (.agg 24 (.pair .str (.pair .str (.pair (.sl 46 (.agg 46 (.pair .byte .str))) (.int .i64)))))], .bool, fun x => F9 x.1 x.2, .plain⟩
theorem eq9 (x : dens ent9.as) : ent9.F x = evF [ent10, ent11, ent22, ent24, ent26, ent28] SHF dc9 [(.tmp 4)] ent9.as ent9.rs x := by kernel_rfl
theorem mixedF : Tryz.prog.follows .mixedOrders = true := by kernel_rfl
section
variable {G : World → Prop} (hG : Keeps G)
include hG in
theorem ok50 (h67 : TEnt.Ok Tryz.prog G entTrim) : TEnt.Ok Tryz.prog G ent50 :=
  ent_ok hG mixedF (fn := Tryz.f50) (d := dc50) (crs := [(.tmp 2)]) (hint := []) (TT := [entTrim]) (SH := SHF) rfl rfl (by kernel_rfl) (by decide) rfl ⟨h67, trivial⟩ eq50
include hG in
theorem ok68 : TEnt.Ok Tryz.prog G ent68 :=
  ent_ok hG mixedF (fn := Tryz.f68) (d := dc68) (crs := [(.tmp 2)]) (hint := []) (TT := []) (SH := SHF) rfl rfl (by kernel_rfl) (by decide) rfl trivial eq68
include hG in
theorem ok69 (h93 : TEnt.Ok Tryz.prog G entVal) : TEnt.Ok Tryz.prog G ent69 :=
  ent_ok hG mixedF (fn := Tryz.f69) (d := dc69) (crs := [(.tmp 2)]) (hint := []) (TT := [entVal]) (SH := SHF) rfl rfl (by kernel_rfl) (by decide) rfl ⟨h93, trivial⟩ eq69
include hG in
theorem ok51 (h68 : TEnt.Ok Tryz.prog G ent68) (h69 : TEnt.Ok Tryz.prog G ent69) : TEnt.Ok Tryz.prog G ent51 :=
  ent_ok hG mixedF (fn := Tryz.f51) (d := dc51) (crs := [(.tmp 2)]) (hint := []) (TT := [ent68, ent69]) (SH := SHF) rfl rfl (by kernel_rfl) (by decide) rfl ⟨h68, h69, trivial⟩ eq51
include hG in
theorem ok26 (h40 : TEnt.Ok Tryz.prog G entRepl) (h50 : TEnt.Ok Tryz.prog G ent50) (h51 : TEnt.Ok Tryz.prog G ent51) : TEnt.Ok Tryz.prog G ent26 :=
  ent_ok hG mixedF (fn := Tryz.f26) (d := dc26) (crs := [(.tmp 2)]) (hint := []) (TT := [entRepl, ent50, ent51]) (SH := SHF) rfl rfl (by kernel_rfl) (by decide) rfl ⟨h40, h50, h51, trivial⟩ eq26
include hG in
theorem ok56 : TEnt.Ok Tryz.prog G ent56 :=
  ent_ok hG mixedF (fn := Tryz.f56) (d := dc56) (crs := [(.tmp 4)]) (hint := []) (TT := []) (SH := SHF) rfl rfl (by kernel_rfl) (by decide) rfl trivial eq56
include hG in
theorem ok28 (h56 : TEnt.Ok Tryz.prog G ent56) : TEnt.Ok Tryz.prog G ent28 :=
  ent_ok hG mixedF (fn := Tryz.f28) (d := dc28) (crs := [(.tmp 4)]) (hint := []) (TT := [ent56]) (SH := SHF) rfl rfl (by kernel_rfl) (by decide) rfl ⟨h56, trivial⟩ eq28
include hG in
theorem ok30 : TEnt.Ok Tryz.prog G ent30 :=
  ent_ok hG mixedF (fn := Tryz.f30) (d := dc30) (crs := [(.tmp 3)]) (hint := []) (TT := []) (SH := SHF) rfl rfl (by kernel_rfl) (by decide) rfl trivial eq30
include hG in
theorem ok29 (h30 : TEnt.Ok Tryz.prog G ent30) : TEnt.Ok Tryz.prog G ent29 :=
  ent_ok hG mixedF (fn := Tryz.f29) (d := dc29) (crs := [(.tmp 4)]) (hint := []) (TT := [ent30]) (SH := SHF) rfl rfl (by kernel_rfl) (by decide) rfl ⟨h30, trivial⟩ eq29
include hG in
theorem ok12 (h29 : TEnt.Ok Tryz.prog G ent29) : TEnt.Ok Tryz.prog G ent12 :=
  ent_ok hG mixedF (fn := Tryz.f12) (d := dc12) (crs := [(.tmp 4), (.tmp 5)]) (hint := [(1, 3)]) (TT := [ent29]) (SH := SHF) rfl rfl (by kernel_rfl) (by decide) rfl ⟨h29, trivial⟩ eq12
include hG in
theorem ok15 (h31 : TEnt.Ok Tryz.prog G entIdxB) : TEnt.Ok Tryz.prog G ent15 :=
  ent_ok hG mixedF (fn := Tryz.f15) (d := dc15) (crs := [(.tmp 4)]) (hint := []) (TT := [entIdxB]) (SH := SHF) rfl rfl (by kernel_rfl) (by decide) rfl ⟨h31, trivial⟩ eq15
include hG in
theorem ok17 (h15 : TEnt.Ok Tryz.prog G ent15) (h33 : TEnt.Ok Tryz.prog G entJoin) : TEnt.Ok Tryz.prog G ent17 :=
  ent_ok hG mixedF (fn := Tryz.f17) (d := dc17) (crs := [(.tmp 4)]) (hint := []) (TT := [ent15, entJoin]) (SH := SHF) rfl rfl (by kernel_rfl) (by decide) rfl ⟨h15, h33, trivial⟩ eq17
include hG in
theorem ok22 (h26 : TEnt.Ok Tryz.prog G ent26) (h38 : TEnt.Ok Tryz.prog G entWriteString) (h39 : TEnt.Ok Tryz.prog G entItoa) (h40 : TEnt.Ok Tryz.prog G entRepl) (h41 : TEnt.Ok Tryz.prog G entWriteByte) (h42 : TEnt.Ok Tryz.prog G entString) : TEnt.Ok Tryz.prog G ent22 :=
  ent_ok hG mixedF (fn := Tryz.f22) (d := dc22) (crs := [(.tmp 2), (.tmp 3)]) (hint := []) (TT := [ent26, entWriteString, entItoa, entRepl, entWriteByte, entString]) (SH := SHF) rfl rfl (by kernel_rfl) (by decide) rfl ⟨h26, h38, h39, h40, h41, h42, trivial⟩ eq22
include hG in
theorem ok48 (h41 : TEnt.Ok Tryz.prog G entWriteByte) (h42 : TEnt.Ok Tryz.prog G entString) (h66 : TEnt.Ok Tryz.prog G entHas) : TEnt.Ok Tryz.prog G ent48 :=
  ent_ok hG mixedF (fn := Tryz.f48) (d := dc48) (crs := [(.tmp 2)]) (hint := []) (TT := [entWriteByte, entString, entHas]) (SH := SHF) rfl rfl (by kernel_rfl) (by decide) rfl ⟨h41, h42, h66, trivial⟩ eq48
include hG in
theorem ok24 (h22 : TEnt.Ok Tryz.prog G ent22) (h40 : TEnt.Ok Tryz.prog G entRepl) (h45 : TEnt.Ok Tryz.prog G entSplitN) (h46 : TEnt.Ok Tryz.prog G entCut) (h47 : TEnt.Ok Tryz.prog G entAtoi) (h48 : TEnt.Ok Tryz.prog G ent48) : TEnt.Ok Tryz.prog G ent24 :=
  ent_ok hG mixedF (fn := Tryz.f24) (d := dc24) (crs := [(.cell 2 (some 24)), (.tmp 3)]) (hint := []) (TT := [ent22, entRepl, entSplitN, entCut, entAtoi, ent48]) (SH := SHF) rfl rfl (by kernel_rfl) (by decide) rfl ⟨h22, h40, h45, h46, h47, h48, trivial⟩ eq24
include hG in
theorem ok53 : TEnt.Ok Tryz.prog G ent53 :=
  ent_ok hG mixedF (fn := Tryz.f53) (d := dc53) (crs := [(.tmp 2)]) (hint := []) (TT := []) (SH := SHF) rfl rfl (by kernel_rfl) (by decide) rfl trivial eq53
include hG in
theorem ok54 (h53 : TEnt.Ok Tryz.prog G ent53) : TEnt.Ok Tryz.prog G ent54 :=
  ent_ok hG mixedF (fn := Tryz.f54) (d := dc54) (crs := [(.tmp 2)]) (hint := []) (TT := [ent53]) (SH := SHF) rfl rfl (by kernel_rfl) (by decide) rfl ⟨h53, trivial⟩ eq54
include hG in
theorem ok52 (h53 : TEnt.Ok Tryz.prog G ent53) : TEnt.Ok Tryz.prog G ent52 :=
  ent_ok hG mixedF (fn := Tryz.f52) (d := dc52) (crs := [(.tmp 2)]) (hint := []) (TT := [ent53]) (SH := SHF) rfl rfl (by kernel_rfl) (by decide) rfl ⟨h53, trivial⟩ eq52
include hG in
theorem ok70 : TEnt.Ok Tryz.prog G ent70 :=
  ent_ok hG mixedF (fn := Tryz.f70) (d := dc70) (crs := [(.tmp 4), (.tmp 5)]) (hint := []) (TT := []) (SH := SHF) rfl rfl (by kernel_rfl) (by decide) rfl trivial eq70
include hG in
theorem ok55 (h70 : TEnt.Ok Tryz.prog G ent70) : TEnt.Ok Tryz.prog G ent55 :=
  ent_ok hG mixedF (fn := Tryz.f55) (d := dc55) (crs := [(.tmp 2)]) (hint := []) (TT := [ent70]) (SH := SHF) rfl rfl (by kernel_rfl) (by decide) rfl ⟨h70, trivial⟩ eq55
include hG in
theorem ok27 (h52 : TEnt.Ok Tryz.prog G ent52) (h53 : TEnt.Ok Tryz.prog G ent53) (h54 : TEnt.Ok Tryz.prog G ent54) (h55 : TEnt.Ok Tryz.prog G ent55) : TEnt.Ok Tryz.prog G ent27 :=
  ent_ok hG mixedF (fn := Tryz.f27) (d := dc27) (crs := [(.tmp 2)]) (hint := []) (TT := [ent52, ent53, ent54, ent55]) (SH := SHF) rfl rfl (by kernel_rfl) (by decide) rfl ⟨h52, h53, h54, h55, trivial⟩ eq27
include hG in
theorem ok19 : TEnt.Ok Tryz.prog G ent19 :=
  ent_ok hG mixedF (fn := Tryz.f19) (d := dc19) (crs := [(.tmp 4)]) (hint := []) (TT := []) (SH := SHF) rfl rfl (by kernel_rfl) (by decide) rfl trivial eq19
include hG in
theorem ok13 : TEnt.Ok Tryz.prog G ent13 :=
  ent_ok hG mixedF (fn := Tryz.f13) (d := dc13) (crs := [(.tmp 4), (.tmp 5)]) (hint := []) (TT := []) (SH := SHF) rfl rfl (by kernel_rfl) (by decide) rfl trivial eq13
include hG in
theorem ok32 : TEnt.Ok Tryz.prog G ent32 :=
  ent_ok hG mixedF (fn := Tryz.f32) (d := dc32) (crs := [(.tmp 4)]) (hint := []) (TT := []) (SH := SHF) rfl rfl (by kernel_rfl) (by decide) rfl trivial eq32
include hG in
theorem ok16 (h32 : TEnt.Ok Tryz.prog G ent32) : TEnt.Ok Tryz.prog G ent16 :=
  ent_ok hG mixedF (fn := Tryz.f16) (d := dc16) (crs := [(.tmp 4)]) (hint := []) (TT := [ent32]) (SH := SHF) rfl rfl (by kernel_rfl) (by decide) rfl ⟨h32, trivial⟩ eq16
include hG in
theorem ok34 : TEnt.Ok Tryz.prog G ent34 :=
  ent_ok hG mixedF (fn := Tryz.f34) (d := dc34) (crs := [(.tmp 4)]) (hint := []) (TT := []) (SH := SHF) rfl rfl (by kernel_rfl) (by decide) rfl trivial eq34
include hG in
theorem ok18 (h16 : TEnt.Ok Tryz.prog G ent16) (h34 : TEnt.Ok Tryz.prog G ent34) : TEnt.Ok Tryz.prog G ent18 :=
  ent_ok hG mixedF (fn := Tryz.f18) (d := dc18) (crs := [(.tmp 4)]) (hint := []) (TT := [ent16, ent34]) (SH := SHF) rfl rfl (by kernel_rfl) (by decide) rfl ⟨h16, h34, trivial⟩ eq18
include hG in
theorem ok21 : TEnt.Ok Tryz.prog G ent21 :=
  ent_ok hG mixedF (fn := Tryz.f21) (d := dc21) (crs := [(.cell 6 (some 24))]) (hint := []) (TT := []) (SH := SHF) rfl rfl (by kernel_rfl) (by decide) rfl trivial eq21
include hG in
theorem ok44 : TEnt.Ok Tryz.prog G ent44 :=
  ent_ok hG mixedF (fn := Tryz.f44) (d := dc44) (crs := [(.tmp 2)]) (hint := []) (TT := []) (SH := SHF) rfl rfl (by kernel_rfl) (by decide) rfl trivial eq44
include hG in
theorem ok43 : TEnt.Ok Tryz.prog G ent43 :=
  ent_ok hG mixedF (fn := Tryz.f43) (d := dc43) (crs := [(.tmp 4)]) (hint := []) (TT := []) (SH := SHF) rfl rfl (by kernel_rfl) (by decide) rfl trivial eq43
include hG in
theorem ok23 (h27 : TEnt.Ok Tryz.prog G ent27) (h43 : TEnt.Ok Tryz.prog G ent43) (h44 : TEnt.Ok Tryz.prog G ent44) : TEnt.Ok Tryz.prog G ent23 :=
  ent_ok hG mixedF (fn := Tryz.f23) (d := dc23) (crs := [(.tmp 2), (.tmp 3)]) (hint := []) (TT := [ent27, ent43, ent44]) (SH := SHF) rfl rfl (by kernel_rfl) (by decide) rfl ⟨h27, h43, h44, trivial⟩ eq23
include hG in
theorem ok49 (h53 : TEnt.Ok Tryz.prog G ent53) : TEnt.Ok Tryz.prog G ent49 :=
  ent_ok hG mixedF (fn := Tryz.f49) (d := dc49) (crs := [(.cell 2 (some 24)), (.tmp 3)]) (hint := [(30000000, 24), (10000004, 6000402), (10000002, 5000006), (21, 78)]) (TT := [ent53]) (SH := SHF) rfl rfl (by kernel_rfl) (by decide) rfl ⟨h53, trivial⟩ eq49
include hG in
theorem ok25 (h23 : TEnt.Ok Tryz.prog G ent23) (h49 : TEnt.Ok Tryz.prog G ent49) : TEnt.Ok Tryz.prog G ent25 :=
  ent_ok hG mixedF (fn := Tryz.f25) (d := dc25) (crs := [(.cell 2 (some 24)), (.tmp 3)]) (hint := []) (TT := [ent23, ent49]) (SH := SHF) rfl rfl (by kernel_rfl) (by decide) rfl ⟨h23, h49, trivial⟩ eq25
include hG in
theorem ok14 : TEnt.Ok Tryz.prog G ent14 :=
  ent_ok hG mixedF (fn := Tryz.f14) (d := dc14) (crs := [(.tmp 4)]) (hint := []) (TT := []) (SH := SHF) rfl rfl (by kernel_rfl) (by decide) rfl trivial eq14
include hG in
theorem ok11 : TEnt.Ok Tryz.prog G ent11 :=
  ent_ok hG mixedF (fn := Tryz.f11) (d := dc11) (crs := [(.tmp 2)]) (hint := []) (TT := []) (SH := SHF) rfl rfl (by kernel_rfl) (by decide) rfl trivial eq11
include hG in
theorem ok10 (h12 : TEnt.Ok Tryz.prog G ent12) (h14 : TEnt.Ok Tryz.prog G ent14) (h15 : TEnt.Ok Tryz.prog G ent15) (h17 : TEnt.Ok Tryz.prog G ent17) (h20 : TEnt.Ok Tryz.prog G entSet) (h22 : TEnt.Ok Tryz.prog G ent22) (h24 : TEnt.Ok Tryz.prog G ent24) (h26 : TEnt.Ok Tryz.prog G ent26) : TEnt.Ok Tryz.prog G ent10 :=
  ent_ok hG mixedF (fn := Tryz.f10) (d := dc10) (crs := [(.tmp 0)]) (hint := []) (TT := [ent12, ent14, ent15, ent17, entSet, ent22, ent24, ent26]) (SH := SHF) rfl rfl (by kernel_rfl) (by decide) rfl ⟨h12, h14, h15, h17, h20, h22, h24, h26, trivial⟩ eq10
include hG in
theorem ok3 (h10 : TEnt.Ok Tryz.prog G ent10) (h11 : TEnt.Ok Tryz.prog G ent11) (h12 : TEnt.Ok Tryz.prog G ent12) (h13 : TEnt.Ok Tryz.prog G ent13) (h14 : TEnt.Ok Tryz.prog G ent14) (h15 : TEnt.Ok Tryz.prog G ent15) (h16 : TEnt.Ok Tryz.prog G ent16) (h17 : TEnt.Ok Tryz.prog G ent17) (h18 : TEnt.Ok Tryz.prog G ent18) : TEnt.Ok Tryz.prog G ent3 :=
  ent_ok hG mixedF (fn := Tryz.f3) (d := dc3) (crs := [(.tmp 6)]) (hint := []) (TT := [ent10, ent11, ent12, ent13, ent14, ent15, ent16, ent17, ent18]) (SH := SHF) rfl rfl (by kernel_rfl) (by decide) rfl ⟨h10, h11, h12, h13, h14, h15, h16, h17, h18, trivial⟩ eq3
include hG in
theorem ok4 (h10 : TEnt.Ok Tryz.prog G ent10) (h11 : TEnt.Ok Tryz.prog G ent11) (h19 : TEnt.Ok Tryz.prog G ent19) (h20 : TEnt.Ok Tryz.prog G entSet) (h21 : TEnt.Ok Tryz.prog G ent21) : TEnt.Ok Tryz.prog G ent4 :=
  ent_ok hG mixedF (fn := Tryz.f4) (d := dc4) (crs := [(.tmp 6)]) (hint := []) (TT := [ent10, ent11, ent19, entSet, ent21]) (SH := SHF) rfl rfl (by kernel_rfl) (by decide) rfl ⟨h10, h11, h19, h20, h21, trivial⟩ eq4
include hG in
theorem ok5 (h10 : TEnt.Ok Tryz.prog G ent10) (h11 : TEnt.Ok Tryz.prog G ent11) (h22 : TEnt.Ok Tryz.prog G ent22) (h23 : TEnt.Ok Tryz.prog G ent23) : TEnt.Ok Tryz.prog G ent5 :=
  ent_ok hG mixedF (fn := Tryz.f5) (d := dc5) (crs := [(.tmp 2)]) (hint := []) (TT := [ent10, ent11, ent22, ent23]) (SH := SHF) rfl rfl (by kernel_rfl) (by decide) rfl ⟨h10, h11, h22, h23, trivial⟩ eq5
include hG in
theorem ok6 (h10 : TEnt.Ok Tryz.prog G ent10) (h19 : TEnt.Ok Tryz.prog G ent19) (h24 : TEnt.Ok Tryz.prog G ent24) (h25 : TEnt.Ok Tryz.prog G ent25) : TEnt.Ok Tryz.prog G ent6 :=
  ent_ok hG mixedF (fn := Tryz.f6) (d := dc6) (crs := [(.tmp 2)]) (hint := []) (TT := [ent10, ent19, ent24, ent25]) (SH := SHF) rfl rfl (by kernel_rfl) (by decide) rfl ⟨h10, h19, h24, h25, trivial⟩ eq6
include hG in
theorem ok7 (h10 : TEnt.Ok Tryz.prog G ent10) (h11 : TEnt.Ok Tryz.prog G ent11) (h12 : TEnt.Ok Tryz.prog G ent12) (h14 : TEnt.Ok Tryz.prog G ent14) (h15 : TEnt.Ok Tryz.prog G ent15) (h20 : TEnt.Ok Tryz.prog G entSet) : TEnt.Ok Tryz.prog G ent7 :=
  ent_ok hG mixedF (fn := Tryz.f7) (d := dc7) (crs := [(.tmp 8)]) (hint := []) (TT := [ent10, ent11, ent12, ent14, ent15, entSet]) (SH := SHF) rfl rfl (by kernel_rfl) (by decide) rfl ⟨h10, h11, h12, h14, h15, h20, trivial⟩ eq7
include hG in
theorem ok8 (h10 : TEnt.Ok Tryz.prog G ent10) (h11 : TEnt.Ok Tryz.prog G ent11) (h19 : TEnt.Ok Tryz.prog G ent19) (h26 : TEnt.Ok Tryz.prog G ent26) (h27 : TEnt.Ok Tryz.prog G ent27) (h28 : TEnt.Ok Tryz.prog G ent28) : TEnt.Ok Tryz.prog G ent8 :=
  ent_ok hG mixedF (fn := Tryz.f8) (d := dc8) (crs := [(.tmp 4)]) (hint := []) (TT := [ent10, ent11, ent19, ent26, ent27, ent28]) (SH := SHF) rfl rfl (by kernel_rfl) (by decide) rfl ⟨h10, h11, h19, h26, h27, h28, trivial⟩ eq8
include hG in
theorem ok9 (h10 : TEnt.Ok Tryz.prog G ent10) (h11 : TEnt.Ok Tryz.prog G ent11) (h22 : TEnt.Ok Tryz.prog G ent22) (h24 : TEnt.Ok Tryz.prog G ent24) (h26 : TEnt.Ok Tryz.prog G ent26) (h28 : TEnt.Ok Tryz.prog G ent28) : TEnt.Ok Tryz.prog G ent9 :=
  ent_ok hG mixedF (fn := Tryz.f9) (d := dc9) (crs := [(.tmp 4)]) (hint := []) (TT := [ent10, ent11, ent22, ent24, ent26, ent28]) (SH := SHF) rfl rfl (by kernel_rfl) (by decide) rfl ⟨h10, h11, h22, h24, h26, h28, trivial⟩ eq9
end
end Go.Proofs.YtggdnnjabdcgjaaGreatDoor
