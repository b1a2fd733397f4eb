/-
  THE FUNCTIONS AS PLAIN ONES (printed by a program of ours), and that they are what the code's runs give.
-/
import Derived.Test.YtdffccmlfhdkpaaDoorE
namespace Go.Proofs.YtdffccmlfhdkpaaDoor
open Go Go.Nu
set_option maxRecDepth 100000
set_option linter.unusedVariables false
def SHF : List (TypeId × Sh) := [(5, .byte), (9, .str), (36, (.agg 36 (.pair (.int .i64) (.int .i64)))), (40, (.arr 40 (.int .i64))), (60, (.agg 60 (.pair (.int .i64) (.pair (.int .i64) .bool)))), (65, (.arr 65 .bool)), (80, (.arr 80 .bool)), (81, (.arr 81 .bool)), (99, (.arr 99 .byte)), (119, (.arr 119 (.int .u64))), (121, (.arr 121 .byte)), (125, (.arr 125 .byte)), (128, (.arr 128 (.agg 127 (.pair .byte .byte)))), (140, (.arr 140 .byte)), (141, (.arr 141 .byte))]
/-- library/holding.volume -/
noncomputable def F32 (a0 : Int) : Option (Bool) :=
  cond (decide ((1 : Int) ≤ a0))
    (some (decide (a0 ≤ (9999 : Int))))
    (some false)
def dc32 : DC :=
  (.seq (.reg [⟨none, (.mv (some 2) (.v (.bool false)))⟩])
  (.seq (.reg [⟨none, (.mv (some 3) (.t 0))⟩,
    ⟨none, (.ar 4 .geq (.t 3) (.v (.int .i64 1)))⟩,
    ⟨none, (.mv (some 5) (.t 4))⟩,
    ⟨(some (5, true)), (.mv (some 6) (.t 0))⟩,
    ⟨(some (5, true)), (.ar 7 .leq (.t 6) (.v (.int .i64 9999)))⟩,
    ⟨none, (.pick 8 (.t 5) (.t 7) (.v (.bool false)))⟩,
    ⟨none, (.mv (some 2) (.t 8))⟩])
  .ret))
noncomputable def ent32 : TEnt := ⟨32, [(.int .i64)], .bool, fun x => F32 x, .plain⟩
theorem eq32 (x : dens ent32.as) : ent32.F x = evF [] SHF dc32 [(.tmp 2)] ent32.as ent32.rs x := by kernel_rfl
/-- library/holding.Right -/
noncomputable def F12 (a0 : List (Int × Int)) : Option (Bool) :=
  cond (decide ((32 : Int) < (List.length a0 : Int)))
    (some false)
    (loopK (σ := Int) (fun p1 againp1 =>
      cond (decide (p1 < (List.length a0 : Int)))
        (gd (0 ≤ p1 ∧ p1 < (List.length a0 : Int)) <|
        bnd (IntKind.wrap .i64 ((List.length a0 : Int) - (1 : Int))) fun x2 =>
        jn (σ := Int × Bool × Bool × Bool) (fun nextj3 =>
          bindO (F32 ((List.getD a0 (Int.toNat p1) (0, 0)).1)) fun y4 =>
          cond (!y4)
            (some false)
            (cond (decide ((0 : Int) < p1))
              (bnd (IntKind.wrap .i64 (p1 - (1 : Int))) fun x5 =>
              gd (0 ≤ x5 ∧ x5 < (List.length a0 : Int)) <|
              bnd (IntKind.wrap .i64 ((List.getD a0 (Int.toNat x5) (0, 0)).2 + (2 : Int))) fun x6 =>
              cond (decide ((List.getD a0 (Int.toNat p1) (0, 0)).1 < x6))
                (some false)
                (nextj3 (p1, decide ((0 : Int) < p1), true, decide ((List.getD a0 (Int.toNat p1) (0, 0)).1 < x6))))
              (nextj3 (p1, decide ((0 : Int) < p1), false, false)))) fun j3 =>
        cond (decide (p1 = x2))
          (cond (!(decide ((List.getD a0 (Int.toNat p1) (0, 0)).2 = (0 : Int))))
            (cond (decide ((List.getD a0 (Int.toNat p1) (0, 0)).2 < (List.getD a0 (Int.toNat p1) (0, 0)).1))
              (some false)
              (cond (decide ((9999 : Int) < (List.getD a0 (Int.toNat p1) (0, 0)).2))
                (some false)
                (bnd (IntKind.wrap .i64 (p1 + (1 : Int))) fun x7 =>
                againp1 x7)))
            (bnd (IntKind.wrap .i64 (p1 + (1 : Int))) fun x8 =>
            againp1 x8))
          (cond (decide ((List.getD a0 (Int.toNat p1) (0, 0)).2 < (List.getD a0 (Int.toNat p1) (0, 0)).1))
            (some false)
            (cond (decide ((9999 : Int) < (List.getD a0 (Int.toNat p1) (0, 0)).2))
              (some false)
              (bnd (IntKind.wrap .i64 (p1 + (1 : Int))) fun x9 =>
              againp1 x9))))
        (some true)) (0 : Int))
def dc12 : DC :=
  (.seq (.reg [⟨none, (.mv (some 2) (.v (.bool false)))⟩])
  (.seq (.seq (.reg [⟨none, (.mv (some 6) (.t 0))⟩,
    ⟨none, (.ln 7 (some 36) (.t 6))⟩,
    ⟨none, (.ar 8 .gtr (.t 7) (.v (.int .i64 32)))⟩])
  (.cond (.t 8)
    (.seq (.reg [⟨none, (.mv (some 2) (.v (.bool false)))⟩])
  .ret)
    .skip))
  (.seq (.seq (.reg [⟨none, (.mv (some 9) (.t 0))⟩,
    ⟨none, (.ln 10 (some 36) (.t 9))⟩,
    ⟨none, (.mv (some 11) (.v (.int .i64 0)))⟩])
  (.block 0 (.loop ⟨[(11, (.lf (.int .i64)))], [], [2, 3, 4, 5, 12, 13, 14, 15, 16, 17, 18, 19, 20, 21, 22, 23, 24, 25, 26, 27, 28, 29, 30, 31, 32, 33, 34, 35, 36, 37, 38, 39, 40, 41, 42, 43, 44, 45, 46, 47, 48, 49, 50, 51, 52, 53, 54, 55, 56, 57, 58, 59, 60].map .s ++ [4].map .b⟩ (.seq (.reg [⟨none, (.ar 12 .lss (.t 11) (.t 10))⟩])
  (.seq (.cond (.t 12)
    .skip
    (.exit 0))
  (.seq (.block 1 (.seq (.reg [⟨none, (.mv (some 13) (.t 11))⟩,
    ⟨none, (.ea 14 36 (.t 9) (.t 11))⟩,
    ⟨none, (.ld 15 (some 36) (.t 14))⟩,
    ⟨none, (.al 4 (.agg 36 [(.int .i64 0), (.int .i64 0)]))⟩,
    ⟨none, (.mv (some 3) (.t 13))⟩,
    ⟨none, (.st (some 36) (.t 4) (.t 15))⟩])
  (.seq (.reg [⟨none, (.mv (some 16) (.t 3))⟩,
    ⟨none, (.mv (some 17) (.t 0))⟩,
    ⟨none, (.ln 18 (some 36) (.t 17))⟩,
    ⟨none, (.ar 19 .sub (.t 18) (.v (.int .i64 1)))⟩,
    ⟨none, (.ar 20 .eql (.t 16) (.t 19))⟩,
    ⟨none, (.mv (some 5) (.t 20))⟩])
  (.jn ⟨[(26, (.lf (.int .i64))), (27, (.lf .bool)), (28, (.lf .bool)), (39, (.lf .bool))], [], [21, 22, 23, 24, 25, 29, 30, 31, 32, 33, 34, 35, 36, 37, 38, 40].map .s⟩ (.seq (.reg [⟨none, (.fa 21 36 0 (.t 4))⟩,
    ⟨none, (.ld 22 none (.t 21))⟩,
    ⟨none, (.ca (some 23) 32 [(.t 22)])⟩,
    ⟨none, (.un 24 .not (.t 23))⟩,
    ⟨none, (.mv (some 25) (.t 24))⟩,
    ⟨(some (25, false)), (.mv (some 26) (.t 3))⟩,
    ⟨(some (25, false)), (.ar 27 .gtr (.t 26) (.v (.int .i64 0)))⟩,
    ⟨(some (25, false)), (.mv (some 28) (.t 27))⟩,
    ⟨(some (28, true)), (.fa 29 36 0 (.t 4))⟩,
    ⟨(some (28, true)), (.ld 30 none (.t 29))⟩,
    ⟨(some (28, true)), (.mv (some 31) (.t 0))⟩,
    ⟨(some (28, true)), (.mv (some 32) (.t 3))⟩,
    ⟨(some (28, true)), (.ar 33 .sub (.t 32) (.v (.int .i64 1)))⟩,
    ⟨(some (28, true)), (.ea 34 36 (.t 31) (.t 33))⟩,
    ⟨(some (28, true)), (.fa 35 36 1 (.t 34))⟩,
    ⟨(some (28, true)), (.ld 36 none (.t 35))⟩,
    ⟨(some (28, true)), (.ar 37 .add (.t 36) (.v (.int .i64 2)))⟩,
    ⟨(some (28, true)), (.ar 38 .lss (.t 30) (.t 37))⟩,
    ⟨(some (25, false)), (.pick 39 (.t 28) (.t 38) (.v (.bool false)))⟩,
    ⟨none, (.pick 40 (.t 25) (.v (.bool true)) (.t 39))⟩])
  (.cond (.t 40)
    (.seq (.reg [⟨none, (.mv (some 2) (.v (.bool false)))⟩])
  .ret)
    .skip))
  (.seq (.reg [⟨none, (.mv (some 41) (.t 5))⟩,
    ⟨none, (.mv (some 42) (.t 41))⟩,
    ⟨(some (42, true)), (.fa 43 36 1 (.t 4))⟩,
    ⟨(some (42, true)), (.ld 44 none (.t 43))⟩,
    ⟨(some (42, true)), (.ar 45 .eql (.t 44) (.v (.int .i64 0)))⟩,
    ⟨none, (.pick 46 (.t 42) (.t 45) (.v (.bool false)))⟩,
    ⟨none, (.un 47 .not (.t 46))⟩,
    ⟨none, (.mv (some 48) (.t 47))⟩,
    ⟨(some (48, true)), (.fa 49 36 1 (.t 4))⟩,
    ⟨(some (48, true)), (.ld 50 none (.t 49))⟩,
    ⟨(some (48, true)), (.fa 51 36 0 (.t 4))⟩,
    ⟨(some (48, true)), (.ld 52 none (.t 51))⟩,
    ⟨(some (48, true)), (.ar 53 .lss (.t 50) (.t 52))⟩,
    ⟨(some (48, true)), (.mv (some 54) (.t 53))⟩,
    ⟨(some (54, false)), (.fa 55 36 1 (.t 4))⟩,
    ⟨(some (54, false)), (.ld 56 none (.t 55))⟩,
    ⟨(some (54, false)), (.ar 57 .gtr (.t 56) (.v (.int .i64 9999)))⟩,
    ⟨(some (48, true)), (.pick 58 (.t 54) (.v (.bool true)) (.t 57))⟩,
    ⟨none, (.pick 59 (.t 48) (.t 58) (.v (.bool false)))⟩])
  (.cond (.t 59)
    (.seq (.reg [⟨none, (.mv (some 2) (.v (.bool false)))⟩])
  .ret)
    .skip))))))
  (.reg [⟨none, (.ar 60 .add (.t 11) (.v (.int .i64 1)))⟩,
    ⟨none, (.mv (some 11) (.t 60))⟩])))))))
  (.seq (.reg [⟨none, (.mv (some 2) (.v (.bool true)))⟩])
  .ret))))
noncomputable def ent12 : TEnt := ⟨12, [(.sl 36 (.agg 36 (.pair (.int .i64) (.int .i64))))], .bool, fun x => F12 x, .plain⟩
theorem eq12 (x : dens ent12.as) : ent12.F x = evF [ent32] SHF dc12 [(.tmp 2)] ent12.as ent12.rs x := by kernel_rfl
/-- library/libraryref17.Right -/
noncomputable def F13 (a0 : List (Int × Int)) : Option (Bool) :=
  cond (decide ((32 : Int) < (List.length a0 : Int)))
    (some false)
    (loopK (σ := Int) (fun p1 againp1 =>
      cond (decide (p1 < (List.length a0 : Int)))
        (gd (0 ≤ p1 ∧ p1 < (List.length a0 : Int)) <|
        cond (decide ((List.getD a0 (Int.toNat p1) (0, 0)).1 < (1 : Int)))
          (some false)
          (cond (decide ((9999 : Int) < (List.getD a0 (Int.toNat p1) (0, 0)).1))
            (some false)
            (jn (σ := Unit) (fun nextj2 =>
              cond (decide ((List.getD a0 (Int.toNat p1) (0, 0)).2 = (0 : Int)))
                (bnd (IntKind.wrap .i64 ((List.length a0 : Int) - (1 : Int))) fun x3 =>
                cond (!decide (p1 = x3))
                  (some false)
                  (nextj2 ()))
                (nextj2 ())) fun j2 =>
            jn (σ := Unit) (fun nextj4 =>
              cond (!decide ((List.getD a0 (Int.toNat p1) (0, 0)).2 = (0 : Int)))
                (cond (decide ((List.getD a0 (Int.toNat p1) (0, 0)).2 < (List.getD a0 (Int.toNat p1) (0, 0)).1))
                  (some false)
                  (cond (decide ((9999 : Int) < (List.getD a0 (Int.toNat p1) (0, 0)).2))
                    (some false)
                    (nextj4 ())))
                (nextj4 ())) fun j4 =>
            cond (decide ((0 : Int) < p1))
              (bnd (IntKind.wrap .i64 (p1 - (1 : Int))) fun x5 =>
              gd (0 ≤ x5 ∧ x5 < (List.length a0 : Int)) <|
              bnd (IntKind.wrap .i64 ((List.getD a0 (Int.toNat x5) (0, 0)).2 + (2 : Int))) fun x6 =>
              cond (decide ((List.getD a0 (Int.toNat p1) (0, 0)).1 < x6))
                (some false)
                (bnd (IntKind.wrap .i64 (p1 + (1 : Int))) fun x7 =>
                againp1 x7))
              (bnd (IntKind.wrap .i64 (p1 + (1 : Int))) fun x8 =>
              againp1 x8))))
        (some true)) (0 : Int))
def dc13 : DC :=
  (.seq (.reg [⟨none, (.mv (some 2) (.v (.bool false)))⟩])
  (.seq (.seq (.reg [⟨none, (.mv (some 5) (.t 0))⟩,
    ⟨none, (.ln 6 (some 36) (.t 5))⟩,
    ⟨none, (.ar 7 .gtr (.t 6) (.v (.int .i64 32)))⟩])
  (.cond (.t 7)
    (.seq (.reg [⟨none, (.mv (some 2) (.v (.bool false)))⟩])
  .ret)
    .skip))
  (.seq (.seq (.reg [⟨none, (.mv (some 3) (.v (.int .i64 0)))⟩])
  (.block 0 (.loop ⟨[(3, (.lf (.int .i64)))], [], [2, 4, 8, 9, 10, 11, 12, 13, 14, 15, 16, 17, 18, 19, 20, 21, 22, 23, 24, 25, 26, 27, 28, 29, 30, 31, 32, 33, 34, 35, 36, 37, 38, 39, 40, 41, 42, 43, 44, 45, 46, 47, 48, 49, 50, 51, 52, 53, 54, 55, 56, 57, 58, 59, 60, 61, 62, 63, 64].map .s ++ [4].map .b⟩ (.seq (.seq (.reg [⟨none, (.mv (some 8) (.t 3))⟩,
    ⟨none, (.mv (some 9) (.t 0))⟩,
    ⟨none, (.ln 10 (some 36) (.t 9))⟩,
    ⟨none, (.ar 11 .lss (.t 8) (.t 10))⟩])
  (.cond (.t 11)
    .skip
    (.exit 0)))
  (.seq (.block 1 (.seq (.reg [⟨none, (.mv (some 14) (.t 0))⟩,
    ⟨none, (.mv (some 15) (.t 3))⟩,
    ⟨none, (.ea 16 36 (.t 14) (.t 15))⟩,
    ⟨none, (.ld 17 (some 36) (.t 16))⟩,
    ⟨none, (.al 4 (.agg 36 [(.int .i64 0), (.int .i64 0)]))⟩,
    ⟨none, (.st (some 36) (.t 4) (.t 17))⟩])
  (.seq (.seq (.reg [⟨none, (.fa 18 36 0 (.t 4))⟩,
    ⟨none, (.ld 19 none (.t 18))⟩,
    ⟨none, (.ar 20 .lss (.t 19) (.v (.int .i64 1)))⟩,
    ⟨none, (.mv (some 21) (.t 20))⟩,
    ⟨(some (21, false)), (.fa 22 36 0 (.t 4))⟩,
    ⟨(some (21, false)), (.ld 23 none (.t 22))⟩,
    ⟨(some (21, false)), (.ar 24 .gtr (.t 23) (.v (.int .i64 9999)))⟩,
    ⟨none, (.pick 25 (.t 21) (.v (.bool true)) (.t 24))⟩])
  (.cond (.t 25)
    (.seq (.reg [⟨none, (.mv (some 2) (.v (.bool false)))⟩])
  .ret)
    .skip))
  (.jn ⟨[], [], [26, 27, 28, 29, 30, 31, 32, 33, 34, 35].map .s⟩ (.seq (.reg [⟨none, (.fa 26 36 1 (.t 4))⟩,
    ⟨none, (.ld 27 none (.t 26))⟩,
    ⟨none, (.ar 28 .eql (.t 27) (.v (.int .i64 0)))⟩,
    ⟨none, (.mv (some 29) (.t 28))⟩,
    ⟨(some (29, true)), (.mv (some 30) (.t 3))⟩,
    ⟨(some (29, true)), (.mv (some 31) (.t 0))⟩,
    ⟨(some (29, true)), (.ln 32 (some 36) (.t 31))⟩,
    ⟨(some (29, true)), (.ar 33 .sub (.t 32) (.v (.int .i64 1)))⟩,
    ⟨(some (29, true)), (.ar 34 .neq (.t 30) (.t 33))⟩,
    ⟨none, (.pick 35 (.t 29) (.t 34) (.v (.bool false)))⟩])
  (.cond (.t 35)
    (.seq (.reg [⟨none, (.mv (some 2) (.v (.bool false)))⟩])
  .ret)
    .skip))
  (.jn ⟨[], [], [36, 37, 38, 39, 40, 41, 42, 43, 44, 45, 46, 47, 48, 49, 50].map .s⟩ (.seq (.reg [⟨none, (.fa 36 36 1 (.t 4))⟩,
    ⟨none, (.ld 37 none (.t 36))⟩,
    ⟨none, (.ar 38 .neq (.t 37) (.v (.int .i64 0)))⟩,
    ⟨none, (.mv (some 39) (.t 38))⟩,
    ⟨(some (39, true)), (.fa 40 36 1 (.t 4))⟩,
    ⟨(some (39, true)), (.ld 41 none (.t 40))⟩,
    ⟨(some (39, true)), (.fa 42 36 0 (.t 4))⟩,
    ⟨(some (39, true)), (.ld 43 none (.t 42))⟩,
    ⟨(some (39, true)), (.ar 44 .lss (.t 41) (.t 43))⟩,
    ⟨(some (39, true)), (.mv (some 45) (.t 44))⟩,
    ⟨(some (45, false)), (.fa 46 36 1 (.t 4))⟩,
    ⟨(some (45, false)), (.ld 47 none (.t 46))⟩,
    ⟨(some (45, false)), (.ar 48 .gtr (.t 47) (.v (.int .i64 9999)))⟩,
    ⟨(some (39, true)), (.pick 49 (.t 45) (.v (.bool true)) (.t 48))⟩,
    ⟨none, (.pick 50 (.t 39) (.t 49) (.v (.bool false)))⟩])
  (.cond (.t 50)
    (.seq (.reg [⟨none, (.mv (some 2) (.v (.bool false)))⟩])
  .ret)
    .skip))
  (.seq (.reg [⟨none, (.mv (some 51) (.t 3))⟩,
    ⟨none, (.ar 52 .gtr (.t 51) (.v (.int .i64 0)))⟩,
    ⟨none, (.mv (some 53) (.t 52))⟩,
    ⟨(some (53, true)), (.fa 54 36 0 (.t 4))⟩,
    ⟨(some (53, true)), (.ld 55 none (.t 54))⟩,
    ⟨(some (53, true)), (.mv (some 56) (.t 0))⟩,
    ⟨(some (53, true)), (.mv (some 57) (.t 3))⟩,
    ⟨(some (53, true)), (.ar 58 .sub (.t 57) (.v (.int .i64 1)))⟩,
    ⟨(some (53, true)), (.ea 59 36 (.t 56) (.t 58))⟩,
    ⟨(some (53, true)), (.fa 60 36 1 (.t 59))⟩,
    ⟨(some (53, true)), (.ld 61 none (.t 60))⟩,
    ⟨(some (53, true)), (.ar 62 .add (.t 61) (.v (.int .i64 2)))⟩,
    ⟨(some (53, true)), (.ar 63 .lss (.t 55) (.t 62))⟩,
    ⟨none, (.pick 64 (.t 53) (.t 63) (.v (.bool false)))⟩])
  (.cond (.t 64)
    (.seq (.reg [⟨none, (.mv (some 2) (.v (.bool false)))⟩])
  .ret)
    .skip)))))))
  (.reg [⟨none, (.mv (some 12) (.t 3))⟩,
    ⟨none, (.ar 13 .add (.t 12) (.v (.int .i64 1)))⟩,
    ⟨none, (.mv (some 3) (.t 13))⟩]))))))
  (.seq (.reg [⟨none, (.mv (some 2) (.v (.bool true)))⟩])
  .ret))))
noncomputable def ent13 : TEnt := ⟨13, [(.sl 36 (.agg 36 (.pair (.int .i64) (.int .i64))))], .bool, fun x => F13 x, .plain⟩
theorem eq13 (x : dens ent13.as) : ent13.F x = evF [] SHF dc13 [(.tmp 2)] ent13.as ent13.rs x := by kernel_rfl
/-- library/libraryref17.Range -/
noncomputable def F31 (a0 : Int) (a1 : Int) : Option (Bool) :=
  cond (decide ((1 : Int) ≤ a0))
    (cond (decide (a0 ≤ (9999 : Int)))
      (cond (decide (a1 = (0 : Int)))
        (some true)
        (cond (decide (a0 ≤ a1))
          (some (decide (a1 ≤ (9999 : Int))))
          (some false)))
      (some false))
    (some false)
def dc31 : DC :=
  (.seq (.reg [⟨none, (.mv (some 4) (.v (.bool false)))⟩])
  (.seq (.reg [⟨none, (.mv (some 5) (.t 0))⟩,
    ⟨none, (.ar 6 .geq (.t 5) (.v (.int .i64 1)))⟩,
    ⟨none, (.mv (some 7) (.t 6))⟩,
    ⟨(some (7, true)), (.mv (some 8) (.t 0))⟩,
    ⟨(some (7, true)), (.ar 9 .leq (.t 8) (.v (.int .i64 9999)))⟩,
    ⟨none, (.pick 10 (.t 7) (.t 9) (.v (.bool false)))⟩,
    ⟨none, (.mv (some 11) (.t 10))⟩,
    ⟨(some (11, true)), (.mv (some 12) (.t 1))⟩,
    ⟨(some (11, true)), (.ar 13 .eql (.t 12) (.v (.int .i64 0)))⟩,
    ⟨(some (11, true)), (.mv (some 14) (.t 13))⟩,
    ⟨(some (14, false)), (.mv (some 15) (.t 1))⟩,
    ⟨(some (14, false)), (.mv (some 16) (.t 0))⟩,
    ⟨(some (14, false)), (.ar 17 .geq (.t 15) (.t 16))⟩,
    ⟨(some (14, false)), (.mv (some 18) (.t 17))⟩,
    ⟨(some (18, true)), (.mv (some 19) (.t 1))⟩,
    ⟨(some (18, true)), (.ar 20 .leq (.t 19) (.v (.int .i64 9999)))⟩,
    ⟨(some (14, false)), (.pick 21 (.t 18) (.t 20) (.v (.bool false)))⟩,
    ⟨(some (11, true)), (.pick 22 (.t 14) (.v (.bool true)) (.t 21))⟩,
    ⟨none, (.pick 23 (.t 11) (.t 22) (.v (.bool false)))⟩,
    ⟨none, (.mv (some 4) (.t 23))⟩])
  .ret))
noncomputable def ent31 : TEnt := ⟨31, [(.int .i64), (.int .i64)], .bool, fun x => F31 x.1 x.2, .plain⟩
theorem eq31 (x : dens ent31.as) : ent31.F x = evF [] SHF dc31 [(.tmp 4)] ent31.as ent31.rs x := by kernel_rfl
/-- library/libraryref17.ends -/
noncomputable def F45 (a0 : List (Int × Int)) : Option (List (Int × Int)) :=
  gdN (List.length ([] : List (Int × Int))) (List.length ([] : List (Int × Int))) <|
  loopK (σ := (List (Int × Int)) × Int) (fun p1 againp1 =>
    cond (decide (p1.2 < (List.length a0 : Int)))
      (gd (0 ≤ p1.2 ∧ p1.2 < (List.length a0 : Int)) <|
      cond (decide ((List.getD a0 (Int.toNat p1.2) (0, 0)).2 = (0 : Int)))
        (gdN (List.length p1.1) (List.length p1.1) <|
        gd (List.length p1.1 + List.length [((List.getD a0 (Int.toNat p1.2) (0, 0)).1, (10000 : Int))] ≤ big) <|
        bnd (p1.1 ++ [((List.getD a0 (Int.toNat p1.2) (0, 0)).1, (10000 : Int))]) fun l2 =>
        bnd (IntKind.wrap .i64 (p1.2 + (1 : Int))) fun x3 =>
        gdN (List.length l2) (List.length l2) <|
        againp1 (l2, x3))
        (gdN (List.length p1.1) (List.length p1.1) <|
        gd (List.length p1.1 + List.length [(List.getD a0 (Int.toNat p1.2) (0, 0))] ≤ big) <|
        bnd (p1.1 ++ [(List.getD a0 (Int.toNat p1.2) (0, 0))]) fun l4 =>
        bnd (IntKind.wrap .i64 (p1.2 + (1 : Int))) fun x5 =>
        gdN (List.length l4) (List.length l4) <|
        againp1 (l4, x5)))
      (some p1.1)) (([] : List (Int × Int)), (0 : Int))
def dc45 : DC :=
  (.seq (.reg [⟨none, (.nl 2 36)⟩])
  (.seq (.reg [⟨none, (.bs 6 36 (some 36) [])⟩,
    ⟨none, (.mv (some 3) (.t 6))⟩])
  (.seq (.seq (.reg [⟨none, (.mv (some 4) (.v (.int .i64 0)))⟩])
  (.block 0 (.loop ⟨[(3, (.row 6 36 (.agg 36 (.pair (.int .i64) (.int .i64))))), (4, (.lf (.int .i64)))], [], [5, 7, 8, 9, 10, 11, 12, 13, 14, 15, 16, 17, 18, 19, 20, 21, 22, 23, 24, 25, 26].map .s ++ [5].map .b ++ [25].map .f⟩ (.seq (.seq (.reg [⟨none, (.mv (some 7) (.t 4))⟩,
    ⟨none, (.mv (some 8) (.t 0))⟩,
    ⟨none, (.ln 9 (some 36) (.t 8))⟩,
    ⟨none, (.ar 10 .lss (.t 7) (.t 9))⟩])
  (.cond (.t 10)
    .skip
    (.exit 0)))
  (.seq (.block 1 (.seq (.reg [⟨none, (.mv (some 13) (.t 0))⟩,
    ⟨none, (.mv (some 14) (.t 4))⟩,
    ⟨none, (.ea 15 36 (.t 13) (.t 14))⟩,
    ⟨none, (.ld 16 (some 36) (.t 15))⟩,
    ⟨none, (.al 5 (.agg 36 [(.int .i64 0), (.int .i64 0)]))⟩,
    ⟨none, (.st (some 36) (.t 5) (.t 16))⟩])
  (.seq (.seq (.reg [⟨none, (.fa 17 36 1 (.t 5))⟩,
    ⟨none, (.ld 18 none (.t 17))⟩,
    ⟨none, (.ar 19 .eql (.t 18) (.v (.int .i64 0)))⟩])
  (.cond (.t 19)
    (.reg [⟨none, (.fa 20 36 0 (.t 5))⟩,
    ⟨none, (.ld 21 none (.t 20))⟩,
    ⟨none, (.bd 22 36 [(.int .i64 0), (.int .i64 0)] [0, 1] [(.t 21), (.v (.int .i64 10000))])⟩,
    ⟨none, (.st (some 36) (.t 5) (.t 22))⟩])
    .skip))
  (.reg [⟨none, (.mv (some 23) (.t 3))⟩,
    ⟨none, (.ld 24 (some 36) (.t 5))⟩,
    ⟨none, (.bs 25 36 (some 36) [(.t 24)])⟩,
    ⟨none, (.ap 26 36 (.t 23) (.t 25))⟩,
    ⟨none, (.mv (some 3) (.t 26))⟩]))))
  (.reg [⟨none, (.mv (some 11) (.t 4))⟩,
    ⟨none, (.ar 12 .add (.t 11) (.v (.int .i64 1)))⟩,
    ⟨none, (.mv (some 4) (.t 12))⟩]))))))
  (.seq (.reg [⟨none, (.mv (some 27) (.t 3))⟩,
    ⟨none, (.mv (some 2) (.t 27))⟩])
  .ret))))
noncomputable def ent45 : TEnt := ⟨45, [(.sl 36 (.agg 36 (.pair (.int .i64) (.int .i64))))], (.sl 36 (.agg 36 (.pair (.int .i64) (.int .i64)))), fun x => F45 x, .plain⟩
theorem eq45 (x : dens ent45.as) : ent45.F x = evF [] SHF dc45 [(.tmp 2)] ent45.as ent45.rs x := by kernel_rfl
/-- library/libraryref17.find -/
noncomputable def F63 (a0 : List UInt8) (a1 : UInt8) : Option (Int) :=
  loopK (σ := Int) (fun p1 againp1 =>
    cond (decide (p1 < (List.length a0 : Int)))
      (gd (0 ≤ p1 ∧ p1 < (List.length a0 : Int)) <|
      cond (decide ((UInt8.toNat (List.getD a0 (Int.toNat p1) 0) : Int) = (UInt8.toNat a1 : Int)))
        (some p1)
        (bnd (IntKind.wrap .i64 (p1 + (1 : Int))) fun x2 =>
        againp1 x2))
      (some (List.length a0 : Int))) (0 : Int)
def dc63 : DC :=
  (.seq (.reg [⟨none, (.mv (some 4) (.v (.int .i64 0)))⟩])
  (.seq (.seq (.reg [⟨none, (.mv (some 5) (.v (.int .i64 0)))⟩])
  (.block 0 (.loop ⟨[(5, (.lf (.int .i64)))], [], [4, 6, 7, 8, 9, 10, 11, 12, 13, 14, 15, 16, 17].map .s⟩ (.seq (.seq (.reg [⟨none, (.mv (some 6) (.t 5))⟩,
    ⟨none, (.mv (some 7) (.t 0))⟩,
    ⟨none, (.ln 8 none (.t 7))⟩,
    ⟨none, (.ar 9 .lss (.t 6) (.t 8))⟩])
  (.cond (.t 9)
    .skip
    (.exit 0)))
  (.seq (.block 1 (.seq (.reg [⟨none, (.mv (some 12) (.t 0))⟩,
    ⟨none, (.mv (some 13) (.t 5))⟩,
    ⟨none, (.ix 14 (.t 12) (.t 13))⟩,
    ⟨none, (.mv (some 15) (.t 1))⟩,
    ⟨none, (.ar 16 .eql (.t 14) (.t 15))⟩])
  (.cond (.t 16)
    (.seq (.reg [⟨none, (.mv (some 17) (.t 5))⟩,
    ⟨none, (.mv (some 4) (.t 17))⟩])
  .ret)
    .skip)))
  (.reg [⟨none, (.mv (some 10) (.t 5))⟩,
    ⟨none, (.ar 11 .add (.t 10) (.v (.int .i64 1)))⟩,
    ⟨none, (.mv (some 5) (.t 11))⟩]))))))
  (.seq (.reg [⟨none, (.mv (some 18) (.t 0))⟩,
    ⟨none, (.ln 19 none (.t 18))⟩,
    ⟨none, (.mv (some 4) (.t 19))⟩])
  .ret)))
noncomputable def ent63 : TEnt := ⟨63, [.str, .byte], (.int .i64), fun x => F63 x.1 x.2, .plain⟩
theorem eq63 (x : dens ent63.as) : ent63.F x = evF [] SHF dc63 [(.tmp 4)] ent63.as ent63.rs x := by kernel_rfl
/-- library/libraryref17.number -/
noncomputable def F79 (a0 : List UInt8) : Option (Int × Bool) :=
  jn (σ := Unit) (fun nextj1 =>
    cond (decide ((List.length a0 : Int) = (0 : Int)))
      (some ((0 : Int), false))
      (gd (0 ≤ (0 : Int) ∧ (0 : Int) < (List.length a0 : Int)) <|
      cond (decide ((UInt8.toNat (List.getD a0 (Int.toNat (0 : Int)) 0) : Int) = (48 : Int)))
        (cond (decide ((1 : Int) < (List.length a0 : Int)))
          (some ((0 : Int), false))
          (nextj1 ()))
        (nextj1 ()))) fun j1 =>
  loopK (σ := Int × Int) (fun p2 againp2 =>
    cond (decide (p2.2 < (List.length a0 : Int)))
      (gd (0 ≤ p2.2 ∧ p2.2 < (List.length a0 : Int)) <|
      cond (decide ((UInt8.toNat (List.getD a0 (Int.toNat p2.2) 0) : Int) < (48 : Int)))
        (some ((0 : Int), false))
        (gd (0 ≤ p2.2 ∧ p2.2 < (List.length a0 : Int)) <|
        cond (decide ((57 : Int) < (UInt8.toNat (List.getD a0 (Int.toNat p2.2) 0) : Int)))
          (some ((0 : Int), false))
          (bnd (IntKind.wrap .i64 (p2.1 * (10 : Int))) fun x3 =>
          gd (0 ≤ p2.2 ∧ p2.2 < (List.length a0 : Int)) <|
          bnd (IntKind.wrap .u8 ((UInt8.toNat (List.getD a0 (Int.toNat p2.2) 0) : Int) - (48 : Int))) fun x4 =>
          bnd (IntKind.wrap .i64 (x3 + (IntKind.wrap .i64 x4))) fun x5 =>
          bnd (min x5 (10000 : Int)) fun x6 =>
          bnd (IntKind.wrap .i64 (p2.2 + (1 : Int))) fun x7 =>
          againp2 (x6, x7))))
      (some (p2.1, true))) ((0 : Int), (0 : Int))
def dc79 : DC :=
  (.seq (.reg [⟨none, (.mv (some 2) (.v (.int .i64 0)))⟩,
    ⟨none, (.mv (some 3) (.v (.bool false)))⟩])
  (.jn ⟨[], [], [6, 7, 8, 9, 10, 11, 12, 13, 14, 15, 16, 17, 18].map .s⟩ (.seq (.reg [⟨none, (.mv (some 6) (.t 0))⟩,
    ⟨none, (.ln 7 none (.t 6))⟩,
    ⟨none, (.ar 8 .eql (.t 7) (.v (.int .i64 0)))⟩,
    ⟨none, (.mv (some 9) (.t 8))⟩,
    ⟨(some (9, false)), (.mv (some 10) (.t 0))⟩,
    ⟨(some (9, false)), (.ix 11 (.t 10) (.v (.int .i64 0)))⟩,
    ⟨(some (9, false)), (.ar 12 .eql (.t 11) (.v (.int .u8 48)))⟩,
    ⟨(some (9, false)), (.mv (some 13) (.t 12))⟩,
    ⟨(some (13, true)), (.mv (some 14) (.t 0))⟩,
    ⟨(some (13, true)), (.ln 15 none (.t 14))⟩,
    ⟨(some (13, true)), (.ar 16 .gtr (.t 15) (.v (.int .i64 1)))⟩,
    ⟨(some (9, false)), (.pick 17 (.t 13) (.t 16) (.v (.bool false)))⟩,
    ⟨none, (.pick 18 (.t 9) (.v (.bool true)) (.t 17))⟩])
  (.cond (.t 18)
    (.seq (.reg [⟨none, (.mv (some 2) (.v (.int .i64 0)))⟩,
    ⟨none, (.mv (some 3) (.v (.bool false)))⟩])
  .ret)
    .skip))
  (.seq (.reg [⟨none, (.mv (some 4) (.v (.int .i64 0)))⟩])
  (.seq (.seq (.reg [⟨none, (.mv (some 5) (.v (.int .i64 0)))⟩])
  (.block 0 (.loop ⟨[(4, (.lf (.int .i64))), (5, (.lf (.int .i64)))], [], [2, 3, 19, 20, 21, 22, 23, 24, 25, 26, 27, 28, 29, 30, 31, 32, 33, 34, 35, 36, 37, 38, 39, 40, 41, 42, 43].map .s⟩ (.seq (.seq (.reg [⟨none, (.mv (some 19) (.t 5))⟩,
    ⟨none, (.mv (some 20) (.t 0))⟩,
    ⟨none, (.ln 21 none (.t 20))⟩,
    ⟨none, (.ar 22 .lss (.t 19) (.t 21))⟩])
  (.cond (.t 22)
    .skip
    (.exit 0)))
  (.seq (.block 1 (.seq (.seq (.reg [⟨none, (.mv (some 25) (.t 0))⟩,
    ⟨none, (.mv (some 26) (.t 5))⟩,
    ⟨none, (.ix 27 (.t 25) (.t 26))⟩,
    ⟨none, (.ar 28 .lss (.t 27) (.v (.int .u8 48)))⟩,
    ⟨none, (.mv (some 29) (.t 28))⟩,
    ⟨(some (29, false)), (.mv (some 30) (.t 0))⟩,
    ⟨(some (29, false)), (.mv (some 31) (.t 5))⟩,
    ⟨(some (29, false)), (.ix 32 (.t 30) (.t 31))⟩,
    ⟨(some (29, false)), (.ar 33 .gtr (.t 32) (.v (.int .u8 57)))⟩,
    ⟨none, (.pick 34 (.t 29) (.v (.bool true)) (.t 33))⟩])
  (.cond (.t 34)
    (.seq (.reg [⟨none, (.mv (some 2) (.v (.int .i64 0)))⟩,
    ⟨none, (.mv (some 3) (.v (.bool false)))⟩])
  .ret)
    .skip))
  (.reg [⟨none, (.mv (some 35) (.t 4))⟩,
    ⟨none, (.ar 36 .mul (.t 35) (.v (.int .i64 10)))⟩,
    ⟨none, (.mv (some 37) (.t 0))⟩,
    ⟨none, (.mv (some 38) (.t 5))⟩,
    ⟨none, (.ix 39 (.t 37) (.t 38))⟩,
    ⟨none, (.ar 40 .sub (.t 39) (.v (.int .u8 48)))⟩,
    ⟨none, (.cvi 41 .i64 (.t 40))⟩,
    ⟨none, (.ar 42 .add (.t 36) (.t 41))⟩,
    ⟨none, (.mn 43 false (.t 42) (.v (.int .i64 10000)))⟩,
    ⟨none, (.mv (some 4) (.t 43))⟩])))
  (.reg [⟨none, (.mv (some 23) (.t 5))⟩,
    ⟨none, (.ar 24 .add (.t 23) (.v (.int .i64 1)))⟩,
    ⟨none, (.mv (some 5) (.t 24))⟩]))))))
  (.seq (.reg [⟨none, (.mv (some 44) (.t 4))⟩,
    ⟨none, (.mv (some 2) (.t 44))⟩,
    ⟨none, (.mv (some 3) (.v (.bool true)))⟩])
  .ret)))))
noncomputable def ent79 : TEnt := ⟨79, [.str], (.tup (.pair (.int .i64) .bool)), fun x => F79 x, .plain⟩
theorem eq79 (x : dens ent79.as) : ent79.F x = evF [] SHF dc79 [(.tmp 2), (.tmp 3)] ent79.as ent79.rs x := by kernel_rfl
/-- library/libraryref17.trimmed -/
noncomputable def F65 (a0 : List UInt8) : Option (List UInt8) :=
  jn (σ := List UInt8) (fun nextj1 =>
    loopK (σ := List UInt8) (fun p2 againp2 =>
      cond (decide ((0 : Int) < (List.length p2 : Int)))
        (gd (0 ≤ (0 : Int) ∧ (0 : Int) < (List.length p2 : Int)) <|
        cond (decide ((UInt8.toNat (List.getD p2 (Int.toNat (0 : Int)) 0) : Int) = (32 : Int)))
          (gd (0 ≤ (1 : Int) ∧ (1 : Int) ≤ (List.length p2 : Int)) <|
          bnd (List.drop (Int.toNat (1 : Int)) p2) fun x3 =>
          againp2 x3)
          (nextj1 p2))
        (nextj1 p2)) a0) fun j1 =>
  loopK (σ := List UInt8) (fun p4 againp4 =>
    cond (decide ((0 : Int) < (List.length p4 : Int)))
      (bnd (IntKind.wrap .i64 ((List.length p4 : Int) - (1 : Int))) fun x5 =>
      gd (0 ≤ x5 ∧ x5 < (List.length p4 : Int)) <|
      cond (decide ((UInt8.toNat (List.getD p4 (Int.toNat x5) 0) : Int) = (32 : Int)))
        (bnd (IntKind.wrap .i64 ((List.length p4 : Int) - (1 : Int))) fun x6 =>
        gd (0 ≤ x6 ∧ x6 ≤ (List.length p4 : Int)) <|
        bnd (List.take (Int.toNat x6) p4) fun x7 =>
        againp4 x7)
        (some p4))
      (some p4)) j1
def dc65 : DC :=
  (.seq (.reg [⟨none, (.mv (some 2) (.v (.str [])))⟩])
  (.jn ⟨[(0, (.lf .str))], [], [3, 4, 5, 6, 7, 8, 9, 10, 11, 12].map .s⟩ (.block 0 (.loop ⟨[(0, (.lf .str))], [], [3, 4, 5, 6, 7, 8, 9, 10, 11, 12].map .s⟩ (.seq (.seq (.reg [⟨none, (.mv (some 3) (.t 0))⟩,
    ⟨none, (.ln 4 none (.t 3))⟩,
    ⟨none, (.ar 5 .gtr (.t 4) (.v (.int .i64 0)))⟩,
    ⟨none, (.mv (some 6) (.t 5))⟩,
    ⟨(some (6, true)), (.mv (some 7) (.t 0))⟩,
    ⟨(some (6, true)), (.ix 8 (.t 7) (.v (.int .i64 0)))⟩,
    ⟨(some (6, true)), (.ar 9 .eql (.t 8) (.v (.int .u8 32)))⟩,
    ⟨none, (.pick 10 (.t 6) (.t 9) (.v (.bool false)))⟩])
  (.cond (.t 10)
    .skip
    (.exit 0)))
  (.block 1 (.reg [⟨none, (.mv (some 11) (.t 0))⟩,
    ⟨none, (.sc 12 none (.t 11) (some (.v (.int .i64 1))) none)⟩,
    ⟨none, (.mv (some 0) (.t 12))⟩])))))
  (.seq (.block 2 (.loop ⟨[(0, (.lf .str))], [], [13, 14, 15, 16, 17, 18, 19, 20, 21, 22, 23, 24, 25, 26, 27, 28].map .s⟩ (.seq (.seq (.reg [⟨none, (.mv (some 13) (.t 0))⟩,
    ⟨none, (.ln 14 none (.t 13))⟩,
    ⟨none, (.ar 15 .gtr (.t 14) (.v (.int .i64 0)))⟩,
    ⟨none, (.mv (some 16) (.t 15))⟩,
    ⟨(some (16, true)), (.mv (some 17) (.t 0))⟩,
    ⟨(some (16, true)), (.mv (some 18) (.t 0))⟩,
    ⟨(some (16, true)), (.ln 19 none (.t 18))⟩,
    ⟨(some (16, true)), (.ar 20 .sub (.t 19) (.v (.int .i64 1)))⟩,
    ⟨(some (16, true)), (.ix 21 (.t 17) (.t 20))⟩,
    ⟨(some (16, true)), (.ar 22 .eql (.t 21) (.v (.int .u8 32)))⟩,
    ⟨none, (.pick 23 (.t 16) (.t 22) (.v (.bool false)))⟩])
  (.cond (.t 23)
    .skip
    (.exit 2)))
  (.block 3 (.reg [⟨none, (.mv (some 24) (.t 0))⟩,
    ⟨none, (.mv (some 25) (.t 0))⟩,
    ⟨none, (.ln 26 none (.t 25))⟩,
    ⟨none, (.ar 27 .sub (.t 26) (.v (.int .i64 1)))⟩,
    ⟨none, (.sc 28 none (.t 24) none (some (.t 27)))⟩,
    ⟨none, (.mv (some 0) (.t 28))⟩])))))
  (.seq (.reg [⟨none, (.mv (some 29) (.t 0))⟩,
    ⟨none, (.mv (some 2) (.t 29))⟩])
  .ret))))
noncomputable def ent65 : TEnt := ⟨65, [.str], .str, fun x => F65 x, .plain⟩
theorem eq65 (x : dens ent65.as) : ent65.F x = evF [] SHF dc65 [(.tmp 2)] ent65.as ent65.rs x := by kernel_rfl
/-- library/libraryref17.parseItem -/
noncomputable def F64 (a0 : List UInt8) : Option ((Int × Int × Bool) × Bool) :=
  gd ((0 : Int) ≤ (45 : Int) ∧ (45 : Int) < (256 : Int)) <|
  bindO (F63 a0 (UInt8.ofNat (Int.toNat (45 : Int)))) fun y1 =>
  gd (0 ≤ y1 ∧ y1 ≤ (List.length a0 : Int)) <|
  bnd (List.take (Int.toNat y1) a0) fun x2 =>
  bindO (F79 x2) fun y3 =>
  cond (!y3.2)
    (some (((0 : Int), (0 : Int), false), false))
    (cond (decide (y1 = (List.length a0 : Int)))
      (some ((y3.1, y3.1, false), true))
      (bnd (IntKind.wrap .i64 ((List.length a0 : Int) - (1 : Int))) fun x4 =>
      cond (decide (y1 = x4))
        (some ((y3.1, (10000 : Int), true), true))
        (bnd (IntKind.wrap .i64 (y1 + (1 : Int))) fun x5 =>
        gd (0 ≤ x5 ∧ x5 ≤ (List.length a0 : Int)) <|
        bnd (List.drop (Int.toNat x5) a0) fun x6 =>
        bindO (F79 x6) fun y7 =>
        some ((y3.1, y7.1, false), y7.2))))
def dc64 : DC :=
  (.seq (.reg [⟨none, (.al 2 (.agg 60 [(.int .i64 0), (.int .i64 0), (.bool false)]))⟩,
    ⟨none, (.mv (some 3) (.v (.bool false)))⟩])
  (.seq (.reg [⟨none, (.mv (some 8) (.t 0))⟩,
    ⟨none, (.ca (some 9) 63 [(.t 8), (.v (.int .u8 45))])⟩,
    ⟨none, (.mv (some 4) (.t 9))⟩])
  (.seq (.reg [⟨none, (.mv (some 11) (.t 0))⟩,
    ⟨none, (.mv (some 12) (.t 4))⟩,
    ⟨none, (.sc 13 none (.t 11) none (some (.t 12)))⟩,
    ⟨none, (.ca (some 14) 79 [(.t 13)])⟩,
    ⟨none, (.mv (some 10) (.t 14))⟩,
    ⟨none, (.ex 15 0 (.t 10))⟩,
    ⟨none, (.ex 16 1 (.t 10))⟩,
    ⟨none, (.mv (some 5) (.t 15))⟩,
    ⟨none, (.mv (some 6) (.t 16))⟩])
  (.seq (.seq (.reg [⟨none, (.mv (some 17) (.t 6))⟩,
    ⟨none, (.un 18 .not (.t 17))⟩])
  (.cond (.t 18)
    (.seq (.reg [⟨none, (.bd 19 60 [(.int .i64 0), (.int .i64 0), (.bool false)] [] [])⟩,
    ⟨none, (.st (some 60) (.t 2) (.t 19))⟩,
    ⟨none, (.mv (some 3) (.v (.bool false)))⟩])
  .ret)
    .skip))
  (.seq (.seq (.reg [⟨none, (.mv (some 20) (.t 4))⟩,
    ⟨none, (.mv (some 21) (.t 0))⟩,
    ⟨none, (.ln 22 none (.t 21))⟩,
    ⟨none, (.ar 23 .eql (.t 20) (.t 22))⟩])
  (.cond (.t 23)
    (.seq (.reg [⟨none, (.mv (some 24) (.t 5))⟩,
    ⟨none, (.mv (some 25) (.t 5))⟩,
    ⟨none, (.bd 26 60 [(.int .i64 0), (.int .i64 0), (.bool false)] [0, 1] [(.t 24), (.t 25)])⟩,
    ⟨none, (.st (some 60) (.t 2) (.t 26))⟩,
    ⟨none, (.mv (some 3) (.v (.bool true)))⟩])
  .ret)
    .skip))
  (.seq (.seq (.reg [⟨none, (.mv (some 27) (.t 4))⟩,
    ⟨none, (.mv (some 28) (.t 0))⟩,
    ⟨none, (.ln 29 none (.t 28))⟩,
    ⟨none, (.ar 30 .sub (.t 29) (.v (.int .i64 1)))⟩,
    ⟨none, (.ar 31 .eql (.t 27) (.t 30))⟩])
  (.cond (.t 31)
    (.seq (.reg [⟨none, (.mv (some 32) (.t 5))⟩,
    ⟨none, (.bd 33 60 [(.int .i64 0), (.int .i64 0), (.bool false)] [0, 1, 2] [(.t 32), (.v (.int .i64 10000)), (.v (.bool true))])⟩,
    ⟨none, (.st (some 60) (.t 2) (.t 33))⟩,
    ⟨none, (.mv (some 3) (.v (.bool true)))⟩])
  .ret)
    .skip))
  (.seq (.reg [⟨none, (.mv (some 35) (.t 0))⟩,
    ⟨none, (.mv (some 36) (.t 4))⟩,
    ⟨none, (.ar 37 .add (.t 36) (.v (.int .i64 1)))⟩,
    ⟨none, (.sc 38 none (.t 35) (some (.t 37)) none)⟩,
    ⟨none, (.ca (some 39) 79 [(.t 38)])⟩,
    ⟨none, (.mv (some 34) (.t 39))⟩,
    ⟨none, (.ex 40 0 (.t 34))⟩,
    ⟨none, (.ex 41 1 (.t 34))⟩,
    ⟨none, (.mv (some 7) (.t 40))⟩,
    ⟨none, (.mv (some 6) (.t 41))⟩])
  (.seq (.reg [⟨none, (.mv (some 42) (.t 5))⟩,
    ⟨none, (.mv (some 43) (.t 7))⟩,
    ⟨none, (.bd 44 60 [(.int .i64 0), (.int .i64 0), (.bool false)] [0, 1] [(.t 42), (.t 43)])⟩,
    ⟨none, (.mv (some 45) (.t 6))⟩,
    ⟨none, (.st (some 60) (.t 2) (.t 44))⟩,
    ⟨none, (.mv (some 3) (.t 45))⟩])
  .ret))))))))
noncomputable def ent64 : TEnt := ⟨64, [.str], (.tup (.pair (.agg 60 (.pair (.int .i64) (.pair (.int .i64) .bool))) .bool)), fun x => F64 x, .plain⟩
theorem eq64 (x : dens ent64.as) : ent64.F x = evF [ent63, ent79] SHF dc64 [(.cell 2 (some 60)), (.tmp 3)] ent64.as ent64.rs x := by kernel_rfl
/-- library/libraryref17.put -/
noncomputable def F43 (a0 : List (Int × Int)) (a1 : Int × Int) : Option (List (Int × Int)) :=
  gdN (List.length ([] : List (Int × Int))) (List.length ([] : List (Int × Int))) <|
  loopK (σ := (List (Int × Int)) × Bool × Int × Int × Int) (fun p1 againp1 =>
    cond (decide (p1.2.2.1 < (List.length a0 : Int)))
      (gd (0 ≤ p1.2.2.1 ∧ p1.2.2.1 < (List.length a0 : Int)) <|
      bnd (IntKind.wrap .i64 ((List.getD a0 (Int.toNat p1.2.2.1) (0, 0)).2 + (1 : Int))) fun x2 =>
      cond (decide (x2 < p1.2.2.2.1))
        (gdN (List.length p1.1) (List.length p1.1) <|
        gd (List.length p1.1 + List.length [(List.getD a0 (Int.toNat p1.2.2.1) (0, 0))] ≤ big) <|
        bnd (p1.1 ++ [(List.getD a0 (Int.toNat p1.2.2.1) (0, 0))]) fun l3 =>
        bnd (IntKind.wrap .i64 (p1.2.2.1 + (1 : Int))) fun x4 =>
        gdN (List.length l3) (List.length l3) <|
        againp1 (l3, p1.2.1, x4, p1.2.2.2))
        (bnd (IntKind.wrap .i64 (p1.2.2.2.2 + (1 : Int))) fun x5 =>
        cond (decide (x5 < (List.getD a0 (Int.toNat p1.2.2.1) (0, 0)).1))
          (cond (!p1.2.1)
            (gdN (List.length p1.1) (List.length p1.1) <|
            gd (List.length p1.1 + List.length [p1.2.2.2] ≤ big) <|
            bnd (p1.1 ++ [p1.2.2.2]) fun l6 =>
            gdN (List.length l6) (List.length l6) <|
            gd (List.length l6 + List.length [(List.getD a0 (Int.toNat p1.2.2.1) (0, 0))] ≤ big) <|
            bnd (l6 ++ [(List.getD a0 (Int.toNat p1.2.2.1) (0, 0))]) fun l7 =>
            bnd (IntKind.wrap .i64 (p1.2.2.1 + (1 : Int))) fun x8 =>
            gdN (List.length l7) (List.length l7) <|
            againp1 (l7, true, x8, p1.2.2.2))
            (gdN (List.length p1.1) (List.length p1.1) <|
            gd (List.length p1.1 + List.length [(List.getD a0 (Int.toNat p1.2.2.1) (0, 0))] ≤ big) <|
            bnd (p1.1 ++ [(List.getD a0 (Int.toNat p1.2.2.1) (0, 0))]) fun l9 =>
            bnd (IntKind.wrap .i64 (p1.2.2.1 + (1 : Int))) fun x10 =>
            gdN (List.length l9) (List.length l9) <|
            againp1 (l9, p1.2.1, x10, p1.2.2.2)))
          (bnd (min p1.2.2.2.1 ((List.getD a0 (Int.toNat p1.2.2.1) (0, 0)).1)) fun x11 =>
          bnd (max p1.2.2.2.2 ((List.getD a0 (Int.toNat p1.2.2.1) (0, 0)).2)) fun x12 =>
          bnd (IntKind.wrap .i64 (p1.2.2.1 + (1 : Int))) fun x13 =>
          gdN (List.length p1.1) (List.length p1.1) <|
          againp1 (p1.1, p1.2.1, x13, (x11, x12)))))
      (cond (!p1.2.1)
        (gdN (List.length p1.1) (List.length p1.1) <|
        gd (List.length p1.1 + List.length [p1.2.2.2] ≤ big) <|
        bnd (p1.1 ++ [p1.2.2.2]) fun l14 =>
        some l14)
        (some p1.1))) (([] : List (Int × Int)), false, (0 : Int), a1)
def dc43 : DC :=
  (.seq (.reg [⟨none, (.bx 3 (some 36) (.t 1))⟩,
    ⟨none, (.nl 4 36)⟩])
  (.seq (.reg [⟨none, (.bs 9 36 (some 36) [])⟩,
    ⟨none, (.mv (some 5) (.t 9))⟩])
  (.seq (.reg [⟨none, (.mv (some 6) (.v (.bool false)))⟩])
  (.seq (.seq (.reg [⟨none, (.mv (some 7) (.v (.int .i64 0)))⟩])
  (.block 0 (.loop ⟨[(5, (.row 9 36 (.agg 36 (.pair (.int .i64) (.int .i64))))), (6, (.lf .bool)), (7, (.lf (.int .i64)))], [(3, (.lf (.agg 36 (.pair (.int .i64) (.int .i64)))))], [8, 10, 11, 12, 13, 14, 15, 16, 17, 18, 19, 20, 21, 22, 23, 24, 25, 26, 27, 28, 29, 30, 31, 32, 33, 34, 35, 36, 37, 38, 39, 40, 41, 42, 43, 44, 45, 46, 47, 48, 49, 50, 51, 52, 53, 54, 55, 56].map .s ++ [8].map .b ++ [28, 40, 44].map .f⟩ (.seq (.seq (.reg [⟨none, (.mv (some 10) (.t 7))⟩,
    ⟨none, (.mv (some 11) (.t 0))⟩,
    ⟨none, (.ln 12 (some 36) (.t 11))⟩,
    ⟨none, (.ar 13 .lss (.t 10) (.t 12))⟩])
  (.cond (.t 13)
    .skip
    (.exit 0)))
  (.seq (.block 1 (.seq (.reg [⟨none, (.mv (some 16) (.t 0))⟩,
    ⟨none, (.mv (some 17) (.t 7))⟩,
    ⟨none, (.ea 18 36 (.t 16) (.t 17))⟩,
    ⟨none, (.ld 19 (some 36) (.t 18))⟩,
    ⟨none, (.al 8 (.agg 36 [(.int .i64 0), (.int .i64 0)]))⟩,
    ⟨none, (.st (some 36) (.t 8) (.t 19))⟩])
  (.seq (.seq (.reg [⟨none, (.fa 20 36 1 (.t 8))⟩,
    ⟨none, (.ld 21 none (.t 20))⟩,
    ⟨none, (.ar 22 .add (.t 21) (.v (.int .i64 1)))⟩,
    ⟨none, (.fa 23 36 0 (.t 3))⟩,
    ⟨none, (.ld 24 none (.t 23))⟩,
    ⟨none, (.ar 25 .lss (.t 22) (.t 24))⟩])
  (.cond (.t 25)
    (.seq (.reg [⟨none, (.mv (some 26) (.t 5))⟩,
    ⟨none, (.ld 27 (some 36) (.t 8))⟩,
    ⟨none, (.bs 28 36 (some 36) [(.t 27)])⟩,
    ⟨none, (.ap 29 36 (.t 26) (.t 28))⟩,
    ⟨none, (.mv (some 5) (.t 29))⟩])
  (.exit 1))
    .skip))
  (.seq (.seq (.reg [⟨none, (.fa 30 36 1 (.t 3))⟩,
    ⟨none, (.ld 31 none (.t 30))⟩,
    ⟨none, (.ar 32 .add (.t 31) (.v (.int .i64 1)))⟩,
    ⟨none, (.fa 33 36 0 (.t 8))⟩,
    ⟨none, (.ld 34 none (.t 33))⟩,
    ⟨none, (.ar 35 .lss (.t 32) (.t 34))⟩])
  (.cond (.t 35)
    (.seq (.seq (.reg [⟨none, (.mv (some 36) (.t 6))⟩,
    ⟨none, (.un 37 .not (.t 36))⟩])
  (.cond (.t 37)
    (.seq (.reg [⟨none, (.mv (some 38) (.t 5))⟩,
    ⟨none, (.ld 39 (some 36) (.t 3))⟩,
    ⟨none, (.bs 40 36 (some 36) [(.t 39)])⟩,
    ⟨none, (.ap 41 36 (.t 38) (.t 40))⟩,
    ⟨none, (.mv (some 5) (.t 41))⟩])
  (.reg [⟨none, (.mv (some 6) (.v (.bool true)))⟩]))
    .skip))
  (.seq (.reg [⟨none, (.mv (some 42) (.t 5))⟩,
    ⟨none, (.ld 43 (some 36) (.t 8))⟩,
    ⟨none, (.bs 44 36 (some 36) [(.t 43)])⟩,
    ⟨none, (.ap 45 36 (.t 42) (.t 44))⟩,
    ⟨none, (.mv (some 5) (.t 45))⟩])
  (.exit 1)))
    .skip))
  (.reg [⟨none, (.fa 46 36 0 (.t 3))⟩,
    ⟨none, (.ld 47 none (.t 46))⟩,
    ⟨none, (.fa 48 36 0 (.t 8))⟩,
    ⟨none, (.ld 49 none (.t 48))⟩,
    ⟨none, (.mn 50 false (.t 47) (.t 49))⟩,
    ⟨none, (.fa 51 36 1 (.t 3))⟩,
    ⟨none, (.ld 52 none (.t 51))⟩,
    ⟨none, (.fa 53 36 1 (.t 8))⟩,
    ⟨none, (.ld 54 none (.t 53))⟩,
    ⟨none, (.mn 55 true (.t 52) (.t 54))⟩,
    ⟨none, (.bd 56 36 [(.int .i64 0), (.int .i64 0)] [0, 1] [(.t 50), (.t 55)])⟩,
    ⟨none, (.st (some 36) (.t 3) (.t 56))⟩])))))
  (.reg [⟨none, (.mv (some 14) (.t 7))⟩,
    ⟨none, (.ar 15 .add (.t 14) (.v (.int .i64 1)))⟩,
    ⟨none, (.mv (some 7) (.t 15))⟩]))))))
  (.seq (.seq (.reg [⟨none, (.mv (some 57) (.t 6))⟩,
    ⟨none, (.un 58 .not (.t 57))⟩])
  (.cond (.t 58)
    (.reg [⟨none, (.mv (some 59) (.t 5))⟩,
    ⟨none, (.ld 60 (some 36) (.t 3))⟩,
    ⟨none, (.bs 61 36 (some 36) [(.t 60)])⟩,
    ⟨none, (.ap 62 36 (.t 59) (.t 61))⟩,
    ⟨none, (.mv (some 5) (.t 62))⟩])
    .skip))
  (.seq (.reg [⟨none, (.mv (some 63) (.t 5))⟩,
    ⟨none, (.mv (some 4) (.t 63))⟩])
  .ret))))))
noncomputable def ent43 : TEnt := ⟨43, [(.sl 36 (.agg 36 (.pair (.int .i64) (.int .i64)))), (.agg 36 (.pair (.int .i64) (.int .i64)))], (.sl 36 (.agg 36 (.pair (.int .i64) (.int .i64)))), fun x => F43 x.1 x.2, .plain⟩
theorem eq43 (x : dens ent43.as) : ent43.F x = evF [] SHF dc43 [(.tmp 4)] ent43.as ent43.rs x := by kernel_rfl
/-- library/libraryref17.items -/
noncomputable def F42 (a0 : List UInt8) : Option ((List (Int × Int × Bool)) × Bool) :=
  jn (σ := Unit) (fun nextj1 =>
    nextj1 ()) fun j1 =>
  gdN (List.length ([] : List (Int × Int × Bool))) (List.length ([] : List (Int × Int × Bool))) <|
  loopK (σ := List UInt8 × List (Int × Int × Bool)) (fun p2 againp2 =>
    gd ((0 : Int) ≤ (44 : Int) ∧ (44 : Int) < (256 : Int)) <|
    bindO (F63 p2.1 (UInt8.ofNat (Int.toNat (44 : Int)))) fun y3 =>
    gd (0 ≤ y3 ∧ y3 ≤ (List.length p2.1 : Int)) <|
    bnd (List.take (Int.toNat y3) p2.1) fun x4 =>
    bindO (F65 x4) fun y5 =>
    bindO (F64 y5) fun y6 =>
    cond (!y6.2)
      (some (([] : List (Int × Int × Bool)), false))
      (gdN (List.length p2.2) (List.length p2.2) <|
      gd (List.length p2.2 + List.length [y6.1] ≤ big) <|
      bnd (p2.2 ++ [y6.1]) fun l7 =>
      cond (decide (y3 = (List.length p2.1 : Int)))
        (some (l7, true))
        (bnd (IntKind.wrap .i64 (y3 + (1 : Int))) fun x8 =>
        gd (0 ≤ x8 ∧ x8 ≤ (List.length p2.1 : Int)) <|
        bnd (List.drop (Int.toNat x8) p2.1) fun x9 =>
        gdN (List.length l7) (List.length l7) <|
        againp2 (x9, l7)))) (a0, ([] : List (Int × Int × Bool)))
def dc42 : DC :=
  (.jn ⟨[], [], [2, 3].map .s ++ [2].map .f⟩ (.reg [⟨none, (.nl 2 60)⟩,
    ⟨none, (.mv (some 3) (.v (.bool false)))⟩])
  (.seq (.reg [⟨none, (.bs 8 60 (some 60) [])⟩,
    ⟨none, (.mv (some 4) (.t 8))⟩])
  (.block 0 (.loop ⟨[(0, (.lf .str)), (4, (.row 8 60 (.agg 60 (.pair (.int .i64) (.pair (.int .i64) .bool)))))], [], [2, 3, 5, 6, 7, 9, 10, 11, 12, 13, 14, 15, 16, 17, 18, 19, 20, 21, 22, 23, 24, 25, 26, 27, 28, 29, 30, 31, 32, 33].map .s ++ [6].map .b ++ [2, 23].map .f⟩ (.block 1 (.seq (.reg [⟨none, (.mv (some 9) (.t 0))⟩,
    ⟨none, (.ca (some 10) 63 [(.t 9), (.v (.int .u8 44))])⟩,
    ⟨none, (.mv (some 5) (.t 10))⟩])
  (.seq (.reg [⟨none, (.mv (some 12) (.t 0))⟩,
    ⟨none, (.mv (some 13) (.t 5))⟩,
    ⟨none, (.sc 14 none (.t 12) none (some (.t 13)))⟩,
    ⟨none, (.ca (some 15) 65 [(.t 14)])⟩,
    ⟨none, (.ca (some 16) 64 [(.t 15)])⟩,
    ⟨none, (.mv (some 11) (.t 16))⟩,
    ⟨none, (.ex 17 0 (.t 11))⟩,
    ⟨none, (.ex 18 1 (.t 11))⟩,
    ⟨none, (.al 6 (.agg 60 [(.int .i64 0), (.int .i64 0), (.bool false)]))⟩,
    ⟨none, (.st (some 60) (.t 6) (.t 17))⟩,
    ⟨none, (.mv (some 7) (.t 18))⟩])
  (.seq (.seq (.reg [⟨none, (.mv (some 19) (.t 7))⟩,
    ⟨none, (.un 20 .not (.t 19))⟩])
  (.cond (.t 20)
    (.seq (.reg [⟨none, (.nl 2 60)⟩,
    ⟨none, (.mv (some 3) (.v (.bool false)))⟩])
  .ret)
    .skip))
  (.seq (.reg [⟨none, (.mv (some 21) (.t 4))⟩,
    ⟨none, (.ld 22 (some 60) (.t 6))⟩,
    ⟨none, (.bs 23 60 (some 60) [(.t 22)])⟩,
    ⟨none, (.ap 24 60 (.t 21) (.t 23))⟩,
    ⟨none, (.mv (some 4) (.t 24))⟩])
  (.seq (.seq (.reg [⟨none, (.mv (some 25) (.t 5))⟩,
    ⟨none, (.mv (some 26) (.t 0))⟩,
    ⟨none, (.ln 27 none (.t 26))⟩,
    ⟨none, (.ar 28 .eql (.t 25) (.t 27))⟩])
  (.cond (.t 28)
    (.seq (.reg [⟨none, (.mv (some 29) (.t 4))⟩,
    ⟨none, (.mv (some 2) (.t 29))⟩,
    ⟨none, (.mv (some 3) (.v (.bool true)))⟩])
  .ret)
    .skip))
  (.reg [⟨none, (.mv (some 30) (.t 0))⟩,
    ⟨none, (.mv (some 31) (.t 5))⟩,
    ⟨none, (.ar 32 .add (.t 31) (.v (.int .i64 1)))⟩,
    ⟨none, (.sc 33 none (.t 30) (some (.t 32)) none)⟩,
    ⟨none, (.mv (some 0) (.t 33))⟩])))))))))))
noncomputable def ent42 : TEnt := ⟨42, [.str], (.tup (.pair (.sl 60 (.agg 60 (.pair (.int .i64) (.pair (.int .i64) .bool)))) .bool)), fun x => F42 x, .plain⟩
theorem eq42 (x : dens ent42.as) : ent42.F x = evF [ent63, ent64, ent65] SHF dc42 [(.tmp 2), (.tmp 3)] ent42.as ent42.rs x := by kernel_rfl
/-- library/libraryref17.finish -/
noncomputable def F44 (a0 : List (Int × Int)) : Option ((List (Int × Int)) × Int) :=
  jn (σ := Unit) (fun nextj1 =>
    nextj1 ()) fun j1 =>
  cond (decide ((32 : Int) < (List.length a0 : Int)))
    (some (([] : List (Int × Int)), (13 : Int)))
    (gdN (List.length ([] : List (Int × Int))) (List.length ([] : List (Int × Int))) <|
    loopK (σ := (List (Int × Int)) × Int) (fun p2 againp2 =>
      cond (decide (p2.2 < (List.length a0 : Int)))
        (gd (0 ≤ p2.2 ∧ p2.2 < (List.length a0 : Int)) <|
        cond (decide ((List.getD a0 (Int.toNat p2.2) (0, 0)).2 = (10000 : Int)))
          (gdN (List.length p2.1) (List.length p2.1) <|
          gd (List.length p2.1 + List.length [((List.getD a0 (Int.toNat p2.2) (0, 0)).1, (0 : Int))] ≤ big) <|
          bnd (p2.1 ++ [((List.getD a0 (Int.toNat p2.2) (0, 0)).1, (0 : Int))]) fun l3 =>
          bnd (IntKind.wrap .i64 (p2.2 + (1 : Int))) fun x4 =>
          gdN (List.length l3) (List.length l3) <|
          againp2 (l3, x4))
          (gdN (List.length p2.1) (List.length p2.1) <|
          gd (List.length p2.1 + List.length [(List.getD a0 (Int.toNat p2.2) (0, 0))] ≤ big) <|
          bnd (p2.1 ++ [(List.getD a0 (Int.toNat p2.2) (0, 0))]) fun l5 =>
          bnd (IntKind.wrap .i64 (p2.2 + (1 : Int))) fun x6 =>
          gdN (List.length l5) (List.length l5) <|
          againp2 (l5, x6)))
        (some (p2.1, (0 : Int)))) (([] : List (Int × Int)), (0 : Int)))
def dc44 : DC :=
  (.jn ⟨[], [], [2, 3].map .s ++ [2].map .f⟩ (.reg [⟨none, (.nl 2 36)⟩,
    ⟨none, (.mv (some 3) (.v (.int .i64 0)))⟩])
  (.seq (.seq (.reg [⟨none, (.mv (some 7) (.t 0))⟩,
    ⟨none, (.ln 8 (some 36) (.t 7))⟩,
    ⟨none, (.ar 9 .gtr (.t 8) (.v (.int .i64 32)))⟩])
  (.cond (.t 9)
    (.seq (.reg [⟨none, (.nl 2 36)⟩,
    ⟨none, (.mv (some 3) (.v (.int .i64 13)))⟩])
  .ret)
    .skip))
  (.seq (.reg [⟨none, (.bs 10 36 (some 36) [])⟩,
    ⟨none, (.mv (some 4) (.t 10))⟩])
  (.seq (.seq (.reg [⟨none, (.mv (some 5) (.v (.int .i64 0)))⟩])
  (.block 0 (.loop ⟨[(4, (.row 10 36 (.agg 36 (.pair (.int .i64) (.int .i64))))), (5, (.lf (.int .i64)))], [], [6, 11, 12, 13, 14, 15, 16, 17, 18, 19, 20, 21, 22, 23, 24, 25, 26, 27, 28, 29, 30].map .s ++ [6].map .b ++ [29].map .f⟩ (.seq (.seq (.reg [⟨none, (.mv (some 11) (.t 5))⟩,
    ⟨none, (.mv (some 12) (.t 0))⟩,
    ⟨none, (.ln 13 (some 36) (.t 12))⟩,
    ⟨none, (.ar 14 .lss (.t 11) (.t 13))⟩])
  (.cond (.t 14)
    .skip
    (.exit 0)))
  (.seq (.block 1 (.seq (.reg [⟨none, (.mv (some 17) (.t 0))⟩,
    ⟨none, (.mv (some 18) (.t 5))⟩,
    ⟨none, (.ea 19 36 (.t 17) (.t 18))⟩,
    ⟨none, (.ld 20 (some 36) (.t 19))⟩,
    ⟨none, (.al 6 (.agg 36 [(.int .i64 0), (.int .i64 0)]))⟩,
    ⟨none, (.st (some 36) (.t 6) (.t 20))⟩])
  (.seq (.seq (.reg [⟨none, (.fa 21 36 1 (.t 6))⟩,
    ⟨none, (.ld 22 none (.t 21))⟩,
    ⟨none, (.ar 23 .eql (.t 22) (.v (.int .i64 10000)))⟩])
  (.cond (.t 23)
    (.reg [⟨none, (.fa 24 36 0 (.t 6))⟩,
    ⟨none, (.ld 25 none (.t 24))⟩,
    ⟨none, (.bd 26 36 [(.int .i64 0), (.int .i64 0)] [0, 1] [(.t 25), (.v (.int .i64 0))])⟩,
    ⟨none, (.st (some 36) (.t 6) (.t 26))⟩])
    .skip))
  (.reg [⟨none, (.mv (some 27) (.t 4))⟩,
    ⟨none, (.ld 28 (some 36) (.t 6))⟩,
    ⟨none, (.bs 29 36 (some 36) [(.t 28)])⟩,
    ⟨none, (.ap 30 36 (.t 27) (.t 29))⟩,
    ⟨none, (.mv (some 4) (.t 30))⟩]))))
  (.reg [⟨none, (.mv (some 15) (.t 5))⟩,
    ⟨none, (.ar 16 .add (.t 15) (.v (.int .i64 1)))⟩,
    ⟨none, (.mv (some 5) (.t 16))⟩]))))))
  (.seq (.reg [⟨none, (.mv (some 31) (.t 4))⟩,
    ⟨none, (.mv (some 2) (.t 31))⟩,
    ⟨none, (.mv (some 3) (.v (.int .i64 0)))⟩])
  .ret)))))
noncomputable def ent44 : TEnt := ⟨44, [(.sl 36 (.agg 36 (.pair (.int .i64) (.int .i64))))], (.tup (.pair (.sl 36 (.agg 36 (.pair (.int .i64) (.int .i64)))) (.int .i64))), fun x => F44 x, .plain⟩
theorem eq44 (x : dens ent44.as) : ent44.F x = evF [] SHF dc44 [(.tmp 2), (.tmp 3)] ent44.as ent44.rs x := by kernel_rfl
/-- library/libraryref17.Parse -/
noncomputable def F17 (a0 : List UInt8) : Option ((List (Int × Int)) × Int) :=
  jn (σ := Unit) (fun nextj1 =>
    nextj1 ()) fun j1 =>
  cond (decide (a0 = ([] : List UInt8)))
    (some (([] : List (Int × Int)), (0 : Int)))
    (bindO (F42 a0) fun y2 =>
    cond (!y2.2)
      (some (([] : List (Int × Int)), (3 : Int)))
      (loopK (σ := (List (Int × Int)) × Int) (fun p3 againp3 =>
        cond (decide (p3.2 < (List.length y2.1 : Int)))
          (gd (0 ≤ p3.2 ∧ p3.2 < (List.length y2.1 : Int)) <|
          jn (σ := Unit × Int × Bool × Unit × Int × Unit × Int × Bool × Unit × Int × Bool × Bool × Bool) (fun nextj4 =>
            cond (decide ((List.getD y2.1 (Int.toNat p3.2) (0, (0, false))).1 < (1 : Int)))
              (some (([] : List (Int × Int)), (2 : Int)))
              (cond (decide ((9999 : Int) < (List.getD y2.1 (Int.toNat p3.2) (0, (0, false))).1))
                (some (([] : List (Int × Int)), (2 : Int)))
                (cond (decide ((List.getD y2.1 (Int.toNat p3.2) (0, (0, false))).2.1 < (List.getD y2.1 (Int.toNat p3.2) (0, (0, false))).1))
                  (some (([] : List (Int × Int)), (2 : Int)))
                  (cond (decide ((9999 : Int) < (List.getD y2.1 (Int.toNat p3.2) (0, (0, false))).2.1))
                    (cond (!((List.getD y2.1 (Int.toNat p3.2) (0, (0, false))).2.2))
                      (some (([] : List (Int × Int)), (2 : Int)))
                      (nextj4 ((), (List.getD y2.1 (Int.toNat p3.2) (0, (0, false))).1, decide ((9999 : Int) < (List.getD y2.1 (Int.toNat p3.2) (0, (0, false))).1), (), (List.getD y2.1 (Int.toNat p3.2) (0, (0, false))).2.1, (), (List.getD y2.1 (Int.toNat p3.2) (0, (0, false))).1, decide ((List.getD y2.1 (Int.toNat p3.2) (0, (0, false))).2.1 < (List.getD y2.1 (Int.toNat p3.2) (0, (0, false))).1), (), (List.getD y2.1 (Int.toNat p3.2) (0, (0, false))).2.1, decide ((9999 : Int) < (List.getD y2.1 (Int.toNat p3.2) (0, (0, false))).2.1), true, !((List.getD y2.1 (Int.toNat p3.2) (0, (0, false))).2.2))))
                    (nextj4 ((), (List.getD y2.1 (Int.toNat p3.2) (0, (0, false))).1, decide ((9999 : Int) < (List.getD y2.1 (Int.toNat p3.2) (0, (0, false))).1), (), (List.getD y2.1 (Int.toNat p3.2) (0, (0, false))).2.1, (), (List.getD y2.1 (Int.toNat p3.2) (0, (0, false))).1, decide ((List.getD y2.1 (Int.toNat p3.2) (0, (0, false))).2.1 < (List.getD y2.1 (Int.toNat p3.2) (0, (0, false))).1), (), (List.getD y2.1 (Int.toNat p3.2) (0, (0, false))).2.1, decide ((9999 : Int) < (List.getD y2.1 (Int.toNat p3.2) (0, (0, false))).2.1), false, false)))))) fun j4 =>
          bindO (F43 p3.1 ((List.getD y2.1 (Int.toNat p3.2) (0, (0, false))).1, (List.getD y2.1 (Int.toNat p3.2) (0, (0, false))).2.1)) fun y5 =>
          bnd (IntKind.wrap .i64 (p3.2 + (1 : Int))) fun x6 =>
          againp3 (y5, x6))
          (bindO (F44 p3.1) fun y7 =>
          some (y7.1, y7.2))) (([] : List (Int × Int)), (0 : Int))))
def dc17 : DC :=
  (.jn ⟨[], [], [2, 3].map .s ++ [2].map .f⟩ (.reg [⟨none, (.nl 2 36)⟩,
    ⟨none, (.mv (some 3) (.v (.int .i64 0)))⟩])
  (.seq (.seq (.reg [⟨none, (.mv (some 9) (.t 0))⟩,
    ⟨none, (.ar 10 .eql (.t 9) (.v (.str [])))⟩])
  (.cond (.t 10)
    (.seq (.reg [⟨none, (.nl 2 36)⟩,
    ⟨none, (.mv (some 3) (.v (.int .i64 0)))⟩])
  .ret)
    .skip))
  (.seq (.reg [⟨none, (.mv (some 12) (.t 0))⟩,
    ⟨none, (.ca (some 13) 42 [(.t 12)])⟩,
    ⟨none, (.mv (some 11) (.t 13))⟩,
    ⟨none, (.ex 14 0 (.t 11))⟩,
    ⟨none, (.ex 15 1 (.t 11))⟩,
    ⟨none, (.mv (some 4) (.t 14))⟩,
    ⟨none, (.mv (some 5) (.t 15))⟩])
  (.seq (.seq (.reg [⟨none, (.mv (some 16) (.t 5))⟩,
    ⟨none, (.un 17 .not (.t 16))⟩])
  (.cond (.t 17)
    (.seq (.reg [⟨none, (.nl 2 36)⟩,
    ⟨none, (.mv (some 3) (.v (.int .i64 3)))⟩])
  .ret)
    .skip))
  (.seq (.reg [⟨none, (.bs 18 36 (some 36) [])⟩,
    ⟨none, (.mv (some 6) (.t 18))⟩])
  (.seq (.seq (.reg [⟨none, (.mv (some 7) (.v (.int .i64 0)))⟩])
  (.block 0 (.loop ⟨[(6, (.lf (.sl 36 (.agg 36 (.pair (.int .i64) (.int .i64)))))), (7, (.lf (.int .i64)))], [], [2, 3, 8, 19, 20, 21, 22, 23, 24, 25, 26, 27, 28, 29, 30, 31, 32, 33, 34, 35, 36, 37, 38, 39, 40, 41, 42, 43, 44, 45, 46, 47, 48, 49, 50, 51, 52, 53, 54, 55, 56, 57, 58, 59, 60].map .s ++ [8].map .b ++ [2].map .f⟩ (.seq (.seq (.reg [⟨none, (.mv (some 19) (.t 7))⟩,
    ⟨none, (.mv (some 20) (.t 4))⟩,
    ⟨none, (.ln 21 (some 60) (.t 20))⟩,
    ⟨none, (.ar 22 .lss (.t 19) (.t 21))⟩])
  (.cond (.t 22)
    .skip
    (.exit 0)))
  (.seq (.block 1 (.seq (.reg [⟨none, (.mv (some 25) (.t 4))⟩,
    ⟨none, (.mv (some 26) (.t 7))⟩,
    ⟨none, (.ea 27 60 (.t 25) (.t 26))⟩,
    ⟨none, (.ld 28 (some 60) (.t 27))⟩,
    ⟨none, (.al 8 (.agg 60 [(.int .i64 0), (.int .i64 0), (.bool false)]))⟩,
    ⟨none, (.st (some 60) (.t 8) (.t 28))⟩])
  (.jn ⟨[(33, (.con (.rf 8 [0]))), (34, (.lf (.int .i64))), (35, (.lf .bool)), (38, (.con (.rf 8 [1]))), (39, (.lf (.int .i64))), (40, (.con (.rf 8 [0]))), (41, (.lf (.int .i64))), (42, (.lf .bool)), (45, (.con (.rf 8 [1]))), (46, (.lf (.int .i64))), (47, (.lf .bool)), (48, (.lf .bool)), (52, (.lf .bool))], [], [29, 30, 31, 32, 36, 37, 43, 44, 49, 50, 51, 53].map .s⟩ (.seq (.reg [⟨none, (.fa 29 60 0 (.t 8))⟩,
    ⟨none, (.ld 30 none (.t 29))⟩,
    ⟨none, (.ar 31 .lss (.t 30) (.v (.int .i64 1)))⟩,
    ⟨none, (.mv (some 32) (.t 31))⟩,
    ⟨(some (32, false)), (.fa 33 60 0 (.t 8))⟩,
    ⟨(some (32, false)), (.ld 34 none (.t 33))⟩,
    ⟨(some (32, false)), (.ar 35 .gtr (.t 34) (.v (.int .i64 9999)))⟩,
    ⟨none, (.pick 36 (.t 32) (.v (.bool true)) (.t 35))⟩,
    ⟨none, (.mv (some 37) (.t 36))⟩,
    ⟨(some (37, false)), (.fa 38 60 1 (.t 8))⟩,
    ⟨(some (37, false)), (.ld 39 none (.t 38))⟩,
    ⟨(some (37, false)), (.fa 40 60 0 (.t 8))⟩,
    ⟨(some (37, false)), (.ld 41 none (.t 40))⟩,
    ⟨(some (37, false)), (.ar 42 .lss (.t 39) (.t 41))⟩,
    ⟨none, (.pick 43 (.t 37) (.v (.bool true)) (.t 42))⟩,
    ⟨none, (.mv (some 44) (.t 43))⟩,
    ⟨(some (44, false)), (.fa 45 60 1 (.t 8))⟩,
    ⟨(some (44, false)), (.ld 46 none (.t 45))⟩,
    ⟨(some (44, false)), (.ar 47 .gtr (.t 46) (.v (.int .i64 9999)))⟩,
    ⟨(some (44, false)), (.mv (some 48) (.t 47))⟩,
    ⟨(some (48, true)), (.fa 49 60 2 (.t 8))⟩,
    ⟨(some (48, true)), (.ld 50 none (.t 49))⟩,
    ⟨(some (48, true)), (.un 51 .not (.t 50))⟩,
    ⟨(some (44, false)), (.pick 52 (.t 48) (.t 51) (.v (.bool false)))⟩,
    ⟨none, (.pick 53 (.t 44) (.v (.bool true)) (.t 52))⟩])
  (.cond (.t 53)
    (.seq (.reg [⟨none, (.nl 2 36)⟩,
    ⟨none, (.mv (some 3) (.v (.int .i64 2)))⟩])
  .ret)
    .skip))
  (.reg [⟨none, (.mv (some 54) (.t 6))⟩,
    ⟨none, (.fa 55 60 0 (.t 8))⟩,
    ⟨none, (.ld 56 none (.t 55))⟩,
    ⟨none, (.fa 57 60 1 (.t 8))⟩,
    ⟨none, (.ld 58 none (.t 57))⟩,
    ⟨none, (.bd 59 36 [(.int .i64 0), (.int .i64 0)] [0, 1] [(.t 56), (.t 58)])⟩,
    ⟨none, (.ca (some 60) 43 [(.t 54), (.t 59)])⟩,
    ⟨none, (.mv (some 6) (.t 60))⟩]))))
  (.reg [⟨none, (.mv (some 23) (.t 7))⟩,
    ⟨none, (.ar 24 .add (.t 23) (.v (.int .i64 1)))⟩,
    ⟨none, (.mv (some 7) (.t 24))⟩]))))))
  (.seq (.reg [⟨none, (.mv (some 61) (.t 6))⟩,
    ⟨none, (.ca (some 62) 44 [(.t 61)])⟩,
    ⟨none, (.ex 63 0 (.t 62))⟩,
    ⟨none, (.ex 64 1 (.t 62))⟩,
    ⟨none, (.mv (some 2) (.t 63))⟩,
    ⟨none, (.mv (some 3) (.t 64))⟩])
  .ret)))))))
noncomputable def ent17 : TEnt := ⟨17, [.str], (.tup (.pair (.sl 36 (.agg 36 (.pair (.int .i64) (.int .i64)))) (.int .i64))), fun x => F17 x, .plain⟩
theorem eq17 (x : dens ent17.as) : ent17.F x = evF [ent42, ent43, ent44] SHF dc17 [(.tmp 2), (.tmp 3)] ent17.as ent17.rs x := by kernel_rfl
/-- library/libraryref17.Same -/
noncomputable def F18 (a0 : List (Int × Int)) (a1 : List (Int × Int)) : Option (Bool) :=
  cond (!decide ((List.length a0 : Int) = (List.length a1 : Int)))
    (some false)
    (loopK (σ := Int) (fun p1 againp1 =>
      cond (decide (p1 < (List.length a0 : Int)))
        (gd (0 ≤ p1 ∧ p1 < (List.length a0 : Int)) <|
        gd (0 ≤ p1 ∧ p1 < (List.length a1 : Int)) <|
        cond (!(decide ((List.getD a0 (Int.toNat p1) (0, 0)).1 = (List.getD a1 (Int.toNat p1) (0, 0)).1) && (decide ((List.getD a0 (Int.toNat p1) (0, 0)).2 = (List.getD a1 (Int.toNat p1) (0, 0)).2) && true)))
          (some false)
          (bnd (IntKind.wrap .i64 (p1 + (1 : Int))) fun x2 =>
          againp1 x2))
        (some true)) (0 : Int))
def dc18 : DC :=
  (.seq (.reg [⟨none, (.mv (some 4) (.v (.bool false)))⟩])
  (.seq (.seq (.reg [⟨none, (.mv (some 6) (.t 0))⟩,
    ⟨none, (.ln 7 (some 36) (.t 6))⟩,
    ⟨none, (.mv (some 8) (.t 1))⟩,
    ⟨none, (.ln 9 (some 36) (.t 8))⟩,
    ⟨none, (.ar 10 .neq (.t 7) (.t 9))⟩])
  (.cond (.t 10)
    (.seq (.reg [⟨none, (.mv (some 4) (.v (.bool false)))⟩])
  .ret)
    .skip))
  (.seq (.seq (.reg [⟨none, (.mv (some 5) (.v (.int .i64 0)))⟩])
  (.block 0 (.loop ⟨[(5, (.lf (.int .i64)))], [], [4, 11, 12, 13, 14, 15, 16, 17, 18, 19, 20, 21, 22, 23, 24, 25].map .s⟩ (.seq (.seq (.reg [⟨none, (.mv (some 11) (.t 5))⟩,
    ⟨none, (.mv (some 12) (.t 0))⟩,
    ⟨none, (.ln 13 (some 36) (.t 12))⟩,
    ⟨none, (.ar 14 .lss (.t 11) (.t 13))⟩])
  (.cond (.t 14)
    .skip
    (.exit 0)))
  (.seq (.block 1 (.seq (.reg [⟨none, (.mv (some 17) (.t 0))⟩,
    ⟨none, (.mv (some 18) (.t 5))⟩,
    ⟨none, (.ea 19 36 (.t 17) (.t 18))⟩,
    ⟨none, (.ld 20 (some 36) (.t 19))⟩,
    ⟨none, (.mv (some 21) (.t 1))⟩,
    ⟨none, (.mv (some 22) (.t 5))⟩,
    ⟨none, (.ea 23 36 (.t 21) (.t 22))⟩,
    ⟨none, (.ld 24 (some 36) (.t 23))⟩,
    ⟨none, (.se 25 (.st [1, 1]) true (.t 20) (.t 24))⟩])
  (.cond (.t 25)
    (.seq (.reg [⟨none, (.mv (some 4) (.v (.bool false)))⟩])
  .ret)
    .skip)))
  (.reg [⟨none, (.mv (some 15) (.t 5))⟩,
    ⟨none, (.ar 16 .add (.t 15) (.v (.int .i64 1)))⟩,
    ⟨none, (.mv (some 5) (.t 16))⟩]))))))
  (.seq (.reg [⟨none, (.mv (some 4) (.v (.bool true)))⟩])
  .ret))))
noncomputable def ent18 : TEnt := ⟨18, [(.sl 36 (.agg 36 (.pair (.int .i64) (.int .i64)))), (.sl 36 (.agg 36 (.pair (.int .i64) (.int .i64))))], .bool, fun x => F18 x.1 x.2, .plain⟩
theorem eq18 (x : dens ent18.as) : ent18.F x = evF [] SHF dc18 [(.tmp 4)] ent18.as ent18.rs x := by kernel_rfl
/-- library/libraryref11.Decimal -/
noncomputable def F35 (a0 : Int) : Option (List UInt8) :=
  loopK (σ := Int × List UInt8) (fun p1 againp1 =>
    cond (decide ((10 : Int) ≤ p1.1))
      (gd ((10 : Int) ≠ 0) <|
      bnd (Int.tmod p1.1 (10 : Int)) fun x2 =>
      bnd (IntKind.wrap .i64 ((48 : Int) + x2)) fun x3 =>
      gd ((0 : Int) ≤ (IntKind.wrap .u8 x3) ∧ (IntKind.wrap .u8 x3) < (256 : Int)) <|
      gd (List.length [(UInt8.ofNat (Int.toNat (IntKind.wrap .u8 x3)))] + List.length p1.2 ≤ big) <|
      bnd ([(UInt8.ofNat (Int.toNat (IntKind.wrap .u8 x3)))] ++ p1.2) fun x4 =>
      gd ((10 : Int) ≠ 0) <|
      bnd (IntKind.wrap .i64 (Int.tdiv p1.1 (10 : Int))) fun x5 =>
      againp1 (x5, x4))
      (bnd (IntKind.wrap .i64 ((48 : Int) + p1.1)) fun x6 =>
      gd ((0 : Int) ≤ (IntKind.wrap .u8 x6) ∧ (IntKind.wrap .u8 x6) < (256 : Int)) <|
      gd (List.length [(UInt8.ofNat (Int.toNat (IntKind.wrap .u8 x6)))] + List.length p1.2 ≤ big) <|
      bnd ([(UInt8.ofNat (Int.toNat (IntKind.wrap .u8 x6)))] ++ p1.2) fun x7 =>
      some x7)) (a0, ([] : List UInt8))
def dc35 : DC :=
  (.seq (.reg [⟨none, (.mv (some 2) (.v (.str [])))⟩])
  (.seq (.reg [⟨none, (.mv (some 3) (.v (.str [])))⟩])
  (.seq (.block 0 (.loop ⟨[(0, (.lf (.int .i64))), (3, (.lf .str))], [], [4, 5, 6, 7, 8, 9, 10, 11, 12, 13, 14, 15].map .s ++ [10].map .f⟩ (.seq (.seq (.reg [⟨none, (.mv (some 4) (.t 0))⟩,
    ⟨none, (.ar 5 .geq (.t 4) (.v (.int .i64 10)))⟩])
  (.cond (.t 5)
    .skip
    (.exit 0)))
  (.block 1 (.seq (.reg [⟨none, (.mv (some 6) (.t 0))⟩,
    ⟨none, (.ar 7 .rem (.t 6) (.v (.int .i64 10)))⟩,
    ⟨none, (.ar 8 .add (.v (.int .i64 48)) (.t 7))⟩,
    ⟨none, (.cvi 9 .u8 (.t 8))⟩,
    ⟨none, (.bs 10 5 none [(.t 9)])⟩,
    ⟨none, (.cvb 11 (.t 10))⟩,
    ⟨none, (.mv (some 12) (.t 3))⟩,
    ⟨none, (.ar 13 .add (.t 11) (.t 12))⟩,
    ⟨none, (.mv (some 3) (.t 13))⟩])
  (.reg [⟨none, (.mv (some 14) (.t 0))⟩,
    ⟨none, (.ar 15 .quo (.t 14) (.v (.int .i64 10)))⟩,
    ⟨none, (.mv (some 0) (.t 15))⟩]))))))
  (.seq (.reg [⟨none, (.mv (some 16) (.t 0))⟩,
    ⟨none, (.ar 17 .add (.v (.int .i64 48)) (.t 16))⟩,
    ⟨none, (.cvi 18 .u8 (.t 17))⟩,
    ⟨none, (.bs 19 5 none [(.t 18)])⟩,
    ⟨none, (.cvb 20 (.t 19))⟩,
    ⟨none, (.mv (some 21) (.t 3))⟩,
    ⟨none, (.ar 22 .add (.t 20) (.t 21))⟩,
    ⟨none, (.mv (some 2) (.t 22))⟩])
  .ret))))
noncomputable def ent35 : TEnt := ⟨35, [(.int .i64)], .str, fun x => F35 x, .plain⟩
theorem eq35 (x : dens ent35.as) : ent35.F x = evF [] SHF dc35 [(.tmp 2)] ent35.as ent35.rs x := by kernel_rfl
/-- library/libraryref17.Print -/
noncomputable def F15 (a0 : List (Int × Int)) : Option (List UInt8) :=
  bindO (F13 a0) fun y1 =>
  cond (!y1)
    (some ([] : List UInt8))
    (loopK (σ := List UInt8 × Int) (fun p2 againp2 =>
      cond (decide (p2.2 < (List.length a0 : Int)))
        (jn (σ := List UInt8) (fun nextj3 =>
          cond (decide ((0 : Int) < p2.2))
            (gd (List.length p2.1 + List.length ([44, 32] : List UInt8) ≤ big) <|
            bnd (p2.1 ++ ([44, 32] : List UInt8)) fun x4 =>
            nextj3 x4)
            (nextj3 p2.1)) fun j3 =>
        gd (0 ≤ p2.2 ∧ p2.2 < (List.length a0 : Int)) <|
        bindO (F35 ((List.getD a0 (Int.toNat p2.2) (0, 0)).1)) fun y5 =>
        gd (List.length j3 + List.length y5 ≤ big) <|
        bnd (j3 ++ y5) fun x6 =>
        gd (0 ≤ p2.2 ∧ p2.2 < (List.length a0 : Int)) <|
        gd (0 ≤ p2.2 ∧ p2.2 < (List.length a0 : Int)) <|
        cond (!decide ((List.getD a0 (Int.toNat p2.2) (0, 0)).2 = (List.getD a0 (Int.toNat p2.2) (0, 0)).1))
          (gd (List.length x6 + List.length ([45] : List UInt8) ≤ big) <|
          bnd (x6 ++ ([45] : List UInt8)) fun x7 =>
          gd (0 ≤ p2.2 ∧ p2.2 < (List.length a0 : Int)) <|
          cond (!decide ((List.getD a0 (Int.toNat p2.2) (0, 0)).2 = (0 : Int)))
            (gd (0 ≤ p2.2 ∧ p2.2 < (List.length a0 : Int)) <|
            bindO (F35 ((List.getD a0 (Int.toNat p2.2) (0, 0)).2)) fun y8 =>
            gd (List.length x7 + List.length y8 ≤ big) <|
            bnd (x7 ++ y8) fun x9 =>
            bnd (IntKind.wrap .i64 (p2.2 + (1 : Int))) fun x10 =>
            againp2 (x9, x10))
            (bnd (IntKind.wrap .i64 (p2.2 + (1 : Int))) fun x11 =>
            againp2 (x7, x11)))
          (bnd (IntKind.wrap .i64 (p2.2 + (1 : Int))) fun x12 =>
          againp2 (x6, x12)))
        (some p2.1)) (([] : List UInt8), (0 : Int)))
def dc15 : DC :=
  (.seq (.reg [⟨none, (.mv (some 2) (.v (.str [])))⟩])
  (.seq (.seq (.reg [⟨none, (.mv (some 5) (.t 0))⟩,
    ⟨none, (.ca (some 6) 13 [(.t 5)])⟩,
    ⟨none, (.un 7 .not (.t 6))⟩])
  (.cond (.t 7)
    (.seq (.reg [⟨none, (.mv (some 2) (.v (.str [])))⟩])
  .ret)
    .skip))
  (.seq (.reg [⟨none, (.mv (some 3) (.v (.str [])))⟩])
  (.seq (.seq (.reg [⟨none, (.mv (some 4) (.v (.int .i64 0)))⟩])
  (.block 0 (.loop ⟨[(3, (.lf .str)), (4, (.lf (.int .i64)))], [], [8, 9, 10, 11, 12, 13, 14, 15, 16, 17, 18, 19, 20, 21, 22, 23, 24, 25, 26, 27, 28, 29, 30, 31, 32, 33, 34, 35, 36, 37, 38, 39, 40, 41, 42, 43, 44, 45, 46, 47, 48, 49, 50, 51, 52].map .s⟩ (.seq (.seq (.reg [⟨none, (.mv (some 8) (.t 4))⟩,
    ⟨none, (.mv (some 9) (.t 0))⟩,
    ⟨none, (.ln 10 (some 36) (.t 9))⟩,
    ⟨none, (.ar 11 .lss (.t 8) (.t 10))⟩])
  (.cond (.t 11)
    .skip
    (.exit 0)))
  (.seq (.block 1 (.jn ⟨[(3, (.lf .str))], [], [14, 15, 16, 17].map .s⟩ (.seq (.reg [⟨none, (.mv (some 14) (.t 4))⟩,
    ⟨none, (.ar 15 .gtr (.t 14) (.v (.int .i64 0)))⟩])
  (.cond (.t 15)
    (.reg [⟨none, (.mv (some 16) (.t 3))⟩,
    ⟨none, (.ar 17 .add (.t 16) (.v (.str [44, 32])))⟩,
    ⟨none, (.mv (some 3) (.t 17))⟩])
    .skip))
  (.seq (.reg [⟨none, (.mv (some 18) (.t 3))⟩,
    ⟨none, (.mv (some 19) (.t 0))⟩,
    ⟨none, (.mv (some 20) (.t 4))⟩,
    ⟨none, (.ea 21 36 (.t 19) (.t 20))⟩,
    ⟨none, (.fa 22 36 0 (.t 21))⟩,
    ⟨none, (.ld 23 none (.t 22))⟩,
    ⟨none, (.ca (some 24) 35 [(.t 23)])⟩,
    ⟨none, (.ar 25 .add (.t 18) (.t 24))⟩,
    ⟨none, (.mv (some 3) (.t 25))⟩])
  (.seq (.reg [⟨none, (.mv (some 26) (.t 0))⟩,
    ⟨none, (.mv (some 27) (.t 4))⟩,
    ⟨none, (.ea 28 36 (.t 26) (.t 27))⟩,
    ⟨none, (.fa 29 36 1 (.t 28))⟩,
    ⟨none, (.ld 30 none (.t 29))⟩,
    ⟨none, (.mv (some 31) (.t 0))⟩,
    ⟨none, (.mv (some 32) (.t 4))⟩,
    ⟨none, (.ea 33 36 (.t 31) (.t 32))⟩,
    ⟨none, (.fa 34 36 0 (.t 33))⟩,
    ⟨none, (.ld 35 none (.t 34))⟩,
    ⟨none, (.ar 36 .neq (.t 30) (.t 35))⟩])
  (.cond (.t 36)
    (.seq (.reg [⟨none, (.mv (some 37) (.t 3))⟩,
    ⟨none, (.ar 38 .add (.t 37) (.v (.str [45])))⟩,
    ⟨none, (.mv (some 3) (.t 38))⟩])
  (.seq (.reg [⟨none, (.mv (some 39) (.t 0))⟩,
    ⟨none, (.mv (some 40) (.t 4))⟩,
    ⟨none, (.ea 41 36 (.t 39) (.t 40))⟩,
    ⟨none, (.fa 42 36 1 (.t 41))⟩,
    ⟨none, (.ld 43 none (.t 42))⟩,
    ⟨none, (.ar 44 .neq (.t 43) (.v (.int .i64 0)))⟩])
  (.cond (.t 44)
    (.reg [⟨none, (.mv (some 45) (.t 3))⟩,
    ⟨none, (.mv (some 46) (.t 0))⟩,
    ⟨none, (.mv (some 47) (.t 4))⟩,
    ⟨none, (.ea 48 36 (.t 46) (.t 47))⟩,
    ⟨none, (.fa 49 36 1 (.t 48))⟩,
    ⟨none, (.ld 50 none (.t 49))⟩,
    ⟨none, (.ca (some 51) 35 [(.t 50)])⟩,
    ⟨none, (.ar 52 .add (.t 45) (.t 51))⟩,
    ⟨none, (.mv (some 3) (.t 52))⟩])
    .skip)))
    .skip)))))
  (.reg [⟨none, (.mv (some 12) (.t 4))⟩,
    ⟨none, (.ar 13 .add (.t 12) (.v (.int .i64 1)))⟩,
    ⟨none, (.mv (some 4) (.t 13))⟩]))))))
  (.seq (.reg [⟨none, (.mv (some 53) (.t 3))⟩,
    ⟨none, (.mv (some 2) (.t 53))⟩])
  .ret)))))
noncomputable def ent15 : TEnt := ⟨15, [(.sl 36 (.agg 36 (.pair (.int .i64) (.int .i64))))], .str, fun x => F15 x, .plain⟩
theorem eq15 (x : dens ent15.as) : ent15.F x = evF [ent13, ent35] SHF dc15 [(.tmp 2)] ent15.as ent15.rs x := by kernel_rfl
/-- library/holding.Print -/
noncomputable def F14 (a0 : List (Int × Int)) : Option (List UInt8) :=
  bindO (F12 a0) fun y1 =>
  cond (!y1)
    (some ([] : List UInt8))
    (gdN (List.length ([] : List (List UInt8))) (List.length ([] : List (List UInt8))) <|
    loopK (σ := List (List UInt8) × Int) (fun p2 againp2 =>
      cond (decide (p2.2 < (List.length a0 : Int)))
        (gd (0 ≤ p2.2 ∧ p2.2 < (List.length a0 : Int)) <|
        bindO (fItoa ((List.getD a0 (Int.toNat p2.2) (0, 0)).1)) fun y3 =>
        cond (decide ((List.getD a0 (Int.toNat p2.2) (0, 0)).2 = (0 : Int)))
          (gd (List.length y3 + List.length ([45] : List UInt8) ≤ big) <|
          bnd (y3 ++ ([45] : List UInt8)) fun x4 =>
          gdN (List.length p2.1) (List.length p2.1) <|
          gd (List.length p2.1 + List.length [x4] ≤ big) <|
          bnd (p2.1 ++ [x4]) fun l5 =>
          bnd (IntKind.wrap .i64 (p2.2 + (1 : Int))) fun x6 =>
          gdN (List.length l5) (List.length l5) <|
          againp2 (l5, x6))
          (cond (decide ((List.getD a0 (Int.toNat p2.2) (0, 0)).1 < (List.getD a0 (Int.toNat p2.2) (0, 0)).2))
            (bindO (fItoa ((List.getD a0 (Int.toNat p2.2) (0, 0)).2)) fun y7 =>
            gd (List.length ([45] : List UInt8) + List.length y7 ≤ big) <|
            bnd (([45] : List UInt8) ++ y7) fun x8 =>
            gd (List.length y3 + List.length x8 ≤ big) <|
            bnd (y3 ++ x8) fun x9 =>
            gdN (List.length p2.1) (List.length p2.1) <|
            gd (List.length p2.1 + List.length [x9] ≤ big) <|
            bnd (p2.1 ++ [x9]) fun l10 =>
            bnd (IntKind.wrap .i64 (p2.2 + (1 : Int))) fun x11 =>
            gdN (List.length l10) (List.length l10) <|
            againp2 (l10, x11))
            (gdN (List.length p2.1) (List.length p2.1) <|
            gd (List.length p2.1 + List.length [y3] ≤ big) <|
            bnd (p2.1 ++ [y3]) fun l12 =>
            bnd (IntKind.wrap .i64 (p2.2 + (1 : Int))) fun x13 =>
            gdN (List.length l12) (List.length l12) <|
            againp2 (l12, x13))))
        (bindO (fJoin p2.1 ([44, 32] : List UInt8)) fun y14 =>
        some y14)) (([] : List (List UInt8)), (0 : Int)))
def dc14 : DC :=
  (.seq (.reg [⟨none, (.mv (some 2) (.v (.str [])))⟩])
  (.seq (.seq (.reg [⟨none, (.mv (some 7) (.t 0))⟩,
    ⟨none, (.ca (some 8) 12 [(.t 7)])⟩,
    ⟨none, (.un 9 .not (.t 8))⟩])
  (.cond (.t 9)
    (.seq (.reg [⟨none, (.mv (some 2) (.v (.str [])))⟩])
  .ret)
    .skip))
  (.seq (.reg [⟨none, (.nl 3 9)⟩])
  (.seq (.seq (.reg [⟨none, (.mv (some 10) (.t 0))⟩,
    ⟨none, (.ln 11 (some 36) (.t 10))⟩,
    ⟨none, (.mv (some 12) (.v (.int .i64 0)))⟩])
  (.block 0 (.loop ⟨[(3, (.row 3 9 .str)), (12, (.lf (.int .i64)))], [], [5, 6, 13, 14, 15, 16, 17, 18, 19, 20, 21, 22, 23, 24, 25, 26, 27, 28, 29, 30, 31, 32, 33, 34, 35, 36, 37, 38, 39].map .s ++ [5].map .b ++ [37].map .f⟩ (.seq (.reg [⟨none, (.ar 13 .lss (.t 12) (.t 11))⟩])
  (.seq (.cond (.t 13)
    .skip
    (.exit 0))
  (.seq (.block 1 (.seq (.reg [⟨none, (.ea 14 36 (.t 10) (.t 12))⟩,
    ⟨none, (.ld 15 (some 36) (.t 14))⟩,
    ⟨none, (.al 5 (.agg 36 [(.int .i64 0), (.int .i64 0)]))⟩,
    ⟨none, (.st (some 36) (.t 5) (.t 15))⟩])
  (.seq (.reg [⟨none, (.fa 16 36 0 (.t 5))⟩,
    ⟨none, (.ld 17 none (.t 16))⟩,
    ⟨none, (.ca (some 18) 33 [(.t 17)])⟩,
    ⟨none, (.mv (some 6) (.t 18))⟩])
  (.seq (.seq (.reg [⟨none, (.fa 19 36 1 (.t 5))⟩,
    ⟨none, (.ld 20 none (.t 19))⟩,
    ⟨none, (.ar 21 .eql (.t 20) (.v (.int .i64 0)))⟩])
  (.cond (.t 21)
    (.reg [⟨none, (.mv (some 22) (.t 6))⟩,
    ⟨none, (.ar 23 .add (.t 22) (.v (.str [45])))⟩,
    ⟨none, (.mv (some 6) (.t 23))⟩])
    (.seq (.reg [⟨none, (.fa 24 36 1 (.t 5))⟩,
    ⟨none, (.ld 25 none (.t 24))⟩,
    ⟨none, (.fa 26 36 0 (.t 5))⟩,
    ⟨none, (.ld 27 none (.t 26))⟩,
    ⟨none, (.ar 28 .gtr (.t 25) (.t 27))⟩])
  (.cond (.t 28)
    (.reg [⟨none, (.mv (some 29) (.t 6))⟩,
    ⟨none, (.fa 30 36 1 (.t 5))⟩,
    ⟨none, (.ld 31 none (.t 30))⟩,
    ⟨none, (.ca (some 32) 33 [(.t 31)])⟩,
    ⟨none, (.ar 33 .add (.v (.str [45])) (.t 32))⟩,
    ⟨none, (.ar 34 .add (.t 29) (.t 33))⟩,
    ⟨none, (.mv (some 6) (.t 34))⟩])
    .skip))))
  (.reg [⟨none, (.mv (some 35) (.t 3))⟩,
    ⟨none, (.mv (some 36) (.t 6))⟩,
    ⟨none, (.bs 37 9 none [(.t 36)])⟩,
    ⟨none, (.ap 38 9 (.t 35) (.t 37))⟩,
    ⟨none, (.mv (some 3) (.t 38))⟩])))))
  (.reg [⟨none, (.ar 39 .add (.t 12) (.v (.int .i64 1)))⟩,
    ⟨none, (.mv (some 12) (.t 39))⟩])))))))
  (.seq (.reg [⟨none, (.mv (some 40) (.t 3))⟩,
    ⟨none, (.ca (some 41) 34 [(.t 40), (.v (.str [44, 32]))])⟩,
    ⟨none, (.mv (some 2) (.t 41))⟩])
  .ret)))))
noncomputable def ent14 : TEnt := ⟨14, [(.sl 36 (.agg 36 (.pair (.int .i64) (.int .i64))))], .str, fun x => F14 x, .plain⟩
theorem eq14 (x : dens ent14.as) : ent14.F x = evF [ent12, entItoa, entJoin] SHF dc14 [(.tmp 2)] ent14.as ent14.rs x := by kernel_rfl
/-- library/holding.number -/
noncomputable def F39 (a0 : List UInt8) : Option (Int × Bool) :=
  jn (σ := Unit) (fun nextj1 =>
    cond (decide (a0 = ([] : List UInt8)))
      (some ((0 : Int), false))
      (bindO (fTrim a0 ([48, 49, 50, 51, 52, 53, 54, 55, 56, 57] : List UInt8)) fun y2 =>
      cond (!decide (y2 = ([] : List UInt8)))
        (some ((0 : Int), false))
        (gd (0 ≤ (0 : Int) ∧ (0 : Int) < (List.length a0 : Int)) <|
        cond (decide ((UInt8.toNat (List.getD a0 (Int.toNat (0 : Int)) 0) : Int) = (48 : Int)))
          (cond (!decide (a0 = ([48] : List UInt8)))
            (some ((0 : Int), false))
            (nextj1 ()))
          (nextj1 ())))) fun j1 =>
  bindO (fAtoi a0) fun y3 =>
  cond (!(Option.isNone y3.2))
    (some ((10000 : Int), true))
    (cond (decide ((9999 : Int) < y3.1))
      (some ((10000 : Int), true))
      (some (y3.1, true)))
def dc39 : DC :=
  (.seq (.reg [⟨none, (.mv (some 2) (.v (.int .i64 0)))⟩,
    ⟨none, (.mv (some 3) (.v (.bool false)))⟩])
  (.jn ⟨[], [], [6, 7, 8, 9, 10, 11, 12, 13, 14, 15, 16, 17, 18, 19, 20, 21].map .s⟩ (.seq (.reg [⟨none, (.mv (some 6) (.t 0))⟩,
    ⟨none, (.ar 7 .eql (.t 6) (.v (.str [])))⟩,
    ⟨none, (.mv (some 8) (.t 7))⟩,
    ⟨(some (8, false)), (.mv (some 9) (.t 0))⟩,
    ⟨(some (8, false)), (.ca (some 10) 38 [(.t 9), (.v (.str [48, 49, 50, 51, 52, 53, 54, 55, 56, 57]))])⟩,
    ⟨(some (8, false)), (.ar 11 .neq (.t 10) (.v (.str [])))⟩,
    ⟨none, (.pick 12 (.t 8) (.v (.bool true)) (.t 11))⟩,
    ⟨none, (.mv (some 13) (.t 12))⟩,
    ⟨(some (13, false)), (.mv (some 14) (.t 0))⟩,
    ⟨(some (13, false)), (.ix 15 (.t 14) (.v (.int .i64 0)))⟩,
    ⟨(some (13, false)), (.ar 16 .eql (.t 15) (.v (.int .u8 48)))⟩,
    ⟨(some (13, false)), (.mv (some 17) (.t 16))⟩,
    ⟨(some (17, true)), (.mv (some 18) (.t 0))⟩,
    ⟨(some (17, true)), (.ar 19 .neq (.t 18) (.v (.str [48])))⟩,
    ⟨(some (13, false)), (.pick 20 (.t 17) (.t 19) (.v (.bool false)))⟩,
    ⟨none, (.pick 21 (.t 13) (.v (.bool true)) (.t 20))⟩])
  (.cond (.t 21)
    (.seq (.reg [⟨none, (.mv (some 2) (.v (.int .i64 0)))⟩,
    ⟨none, (.mv (some 3) (.v (.bool false)))⟩])
  .ret)
    .skip))
  (.seq (.reg [⟨none, (.mv (some 23) (.t 0))⟩,
    ⟨none, (.ca (some 24) 62 [(.t 23)])⟩,
    ⟨none, (.mv (some 22) (.t 24))⟩,
    ⟨none, (.ex 25 0 (.t 22))⟩,
    ⟨none, (.ex 26 1 (.t 22))⟩,
    ⟨none, (.mv (some 4) (.t 25))⟩,
    ⟨none, (.mv (some 5) (.t 26))⟩])
  (.seq (.seq (.reg [⟨none, (.mv (some 27) (.t 5))⟩,
    ⟨none, (.se 28 .ifc true (.t 27) (.v .nili))⟩,
    ⟨none, (.mv (some 29) (.t 28))⟩,
    ⟨(some (29, false)), (.mv (some 30) (.t 4))⟩,
    ⟨(some (29, false)), (.ar 31 .gtr (.t 30) (.v (.int .i64 9999)))⟩,
    ⟨none, (.pick 32 (.t 29) (.v (.bool true)) (.t 31))⟩])
  (.cond (.t 32)
    (.reg [⟨none, (.mv (some 4) (.v (.int .i64 10000)))⟩])
    .skip))
  (.seq (.reg [⟨none, (.mv (some 33) (.t 4))⟩,
    ⟨none, (.mv (some 2) (.t 33))⟩,
    ⟨none, (.mv (some 3) (.v (.bool true)))⟩])
  .ret)))))
noncomputable def ent39 : TEnt := ⟨39, [.str], (.tup (.pair (.int .i64) .bool)), fun x => F39 x, .plain⟩
theorem eq39 (x : dens ent39.as) : ent39.F x = evF [entTrim, entAtoi] SHF dc39 [(.tmp 2), (.tmp 3)] ent39.as ent39.rs x := by kernel_rfl
/-- (*library/holding.set).put -/
noncomputable def F48 (a0 : List (Bool) × Bool) (a1 : Int) (a2 : Int) (a3 : Bool) : Option (Unit × List (Bool) × Bool) :=
  jn (σ := Int) (fun nextj1 =>
    cond (decide (a2 = (0 : Int)))
      (nextj1 (9999 : Int))
      (nextj1 a2)) fun j1 =>
  bnd (IntKind.wrap .i64 (j1 - a1)) fun x2 =>
  bnd (IntKind.wrap .i64 (x2 + (1 : Int))) fun x3 =>
  loopK (σ := Int × List (Bool) × Bool) (fun p4 againp4 =>
    cond (decide (p4.1 < x3))
      (bnd (IntKind.wrap .i64 (a1 + p4.1)) fun x5 =>
      gd (0 ≤ x5 ∧ x5 < (List.length p4.2.1 : Int)) <|
      gd ((Int.toNat x5) < List.length p4.2.1) <|
      bnd (IntKind.wrap .i64 (p4.1 + (1 : Int))) fun x6 =>
      againp4 (x6, ((List.set p4.2.1 (Int.toNat x5) a3), p4.2.2)))
      (some ((), p4.2))) ((0 : Int), a0)
def dc48 : DC :=
  (.jn ⟨[(2, (.lf (.int .i64)))], [], [9, 10].map .s⟩ (.seq (.reg [⟨none, (.mv (some 9) (.t 2))⟩,
    ⟨none, (.ar 10 .eql (.t 9) (.v (.int .i64 0)))⟩])
  (.cond (.t 10)
    (.reg [⟨none, (.mv (some 2) (.v (.int .i64 9999)))⟩])
    .skip))
  (.seq (.reg [⟨none, (.mv (some 11) (.t 2))⟩,
    ⟨none, (.mv (some 12) (.t 1))⟩,
    ⟨none, (.ar 13 .sub (.t 11) (.t 12))⟩,
    ⟨none, (.ar 14 .add (.t 13) (.v (.int .i64 1)))⟩,
    ⟨none, (.mv (some 15) (.v (.int .i64 0)))⟩])
  (.block 0 (.loop ⟨[(15, (.lf (.int .i64)))], [(2000000, (.lf (.agg 67 (.pair (.arr 65 .bool) .bool))))], [8, 16, 17, 18, 19, 20, 21, 22, 23, 24, 25, 26].map .s⟩ (.seq (.reg [⟨none, (.ar 16 .lss (.t 15) (.t 14))⟩])
  (.seq (.cond (.t 16)
    .skip
    (.exit 0))
  (.seq (.block 1 (.seq (.reg [⟨none, (.mv (some 17) (.t 15))⟩,
    ⟨none, (.mv (some 8) (.t 17))⟩])
  (.reg [⟨none, (.mv (some 18) (.t 0))⟩,
    ⟨none, (.mv (some 19) (.t 1))⟩,
    ⟨none, (.mv (some 20) (.t 8))⟩,
    ⟨none, (.ar 21 .add (.t 19) (.t 20))⟩,
    ⟨none, (.mv (some 22) (.t 3))⟩,
    ⟨none, (.nc (some 23) (.t 18))⟩,
    ⟨none, (.fa 24 67 0 (.t 23))⟩,
    ⟨none, (.aa 25 65 (.t 24) (.t 21))⟩,
    ⟨none, (.st none (.t 25) (.t 22))⟩])))
  (.reg [⟨none, (.ar 26 .add (.t 15) (.v (.int .i64 1)))⟩,
    ⟨none, (.mv (some 15) (.t 26))⟩]))))))))
noncomputable def ent48 : TEnt := ⟨48, [(.agg 67 (.pair (.arr 65 .bool) .bool)), (.int .i64), (.int .i64), .bool], (.pair (.tup .unit) (.agg 67 (.pair (.arr 65 .bool) .bool))), fun x => F48 x.1 x.2.1 x.2.2.1 x.2.2.2, .lent 0⟩
theorem eq48 (x : dens ent48.as) : ent48.F x = evFL [] SHF dc48 [] ent48.as (.tup .unit) (.agg 67 (.pair (.arr 65 .bool) .bool)) 0 x := by kernel_rfl
/-- library/holding.of -/
noncomputable def F40 (a0 : List (Int × Int)) : Option (List (Bool) × Bool) :=
  loopK (σ := Int × List (Bool) × Bool) (fun p1 againp1 =>
    cond (decide (p1.1 < (List.length a0 : Int)))
      (gd (0 ≤ p1.1 ∧ p1.1 < (List.length a0 : Int)) <|
      bindO (F48 p1.2 ((List.getD a0 (Int.toNat p1.1) (0, 0)).1) ((List.getD a0 (Int.toNat p1.1) (0, 0)).2) true) fun y2 =>
      gdN (List.length p1.2.1) (List.length y2.2.1) <|
      cond (y2.2.2)
        (bnd (IntKind.wrap .i64 (p1.1 + (1 : Int))) fun x3 =>
        againp1 (x3, (y2.2.1, true)))
        (bnd (IntKind.wrap .i64 (p1.1 + (1 : Int))) fun x4 =>
        againp1 (x4, (y2.2.1, decide ((List.getD a0 (Int.toNat p1.1) (0, 0)).2 = (0 : Int))))))
      (some p1.2)) ((0 : Int), ((List.replicate 10000 false), false))
def dc40 : DC :=
  (.seq (.reg [⟨none, (.mv (some 2) (.v .nilp))⟩])
  (.seq (.reg [⟨none, (.bd 6 67 [(.agg 65 (List.replicate 10000 (.bool false))), (.bool false)] [] [])⟩,
    ⟨none, (.bx 7 (some 67) (.t 6))⟩,
    ⟨none, (.mv (some 3) (.t 7))⟩])
  (.seq (.seq (.reg [⟨none, (.mv (some 8) (.t 0))⟩,
    ⟨none, (.ln 9 (some 36) (.t 8))⟩,
    ⟨none, (.mv (some 10) (.v (.int .i64 0)))⟩])
  (.block 0 (.loop ⟨[(10, (.lf (.int .i64)))], [(7, (.lf (.agg 67 (.pair (.arr 65 .bool) .bool))))], [5, 11, 12, 13, 14, 15, 16, 17, 18, 19, 20, 21, 22, 23, 24, 25, 26, 27, 28, 29, 30, 31, 32].map .s ++ [5].map .b⟩ (.seq (.reg [⟨none, (.ar 11 .lss (.t 10) (.t 9))⟩])
  (.seq (.cond (.t 11)
    .skip
    (.exit 0))
  (.seq (.block 1 (.seq (.reg [⟨none, (.ea 12 36 (.t 8) (.t 10))⟩,
    ⟨none, (.ld 13 (some 36) (.t 12))⟩,
    ⟨none, (.al 5 (.agg 36 [(.int .i64 0), (.int .i64 0)]))⟩,
    ⟨none, (.st (some 36) (.t 5) (.t 13))⟩])
  (.seq (.reg [⟨none, (.mv (some 14) (.t 3))⟩,
    ⟨none, (.fa 15 36 0 (.t 5))⟩,
    ⟨none, (.ld 16 none (.t 15))⟩,
    ⟨none, (.fa 17 36 1 (.t 5))⟩,
    ⟨none, (.ld 18 none (.t 17))⟩,
    ⟨none, (.cb (some 19) 48 [(.t 14), (.t 16), (.t 18), (.v (.bool true))])⟩])
  (.reg [⟨none, (.mv (some 20) (.t 3))⟩,
    ⟨none, (.mv (some 21) (.t 3))⟩,
    ⟨none, (.nc (some 22) (.t 21))⟩,
    ⟨none, (.fa 23 67 1 (.t 22))⟩,
    ⟨none, (.ld 24 none (.t 23))⟩,
    ⟨none, (.mv (some 25) (.t 24))⟩,
    ⟨(some (25, false)), (.fa 26 36 1 (.t 5))⟩,
    ⟨(some (25, false)), (.ld 27 none (.t 26))⟩,
    ⟨(some (25, false)), (.ar 28 .eql (.t 27) (.v (.int .i64 0)))⟩,
    ⟨none, (.pick 29 (.t 25) (.v (.bool true)) (.t 28))⟩,
    ⟨none, (.nc (some 30) (.t 20))⟩,
    ⟨none, (.fa 31 67 1 (.t 30))⟩,
    ⟨none, (.st none (.t 31) (.t 29))⟩]))))
  (.reg [⟨none, (.ar 32 .add (.t 10) (.v (.int .i64 1)))⟩,
    ⟨none, (.mv (some 10) (.t 32))⟩])))))))
  (.seq (.reg [⟨none, (.mv (some 33) (.t 3))⟩,
    ⟨none, (.mv (some 2) (.t 33))⟩])
  .ret))))
noncomputable def ent40 : TEnt := ⟨40, [(.sl 36 (.agg 36 (.pair (.int .i64) (.int .i64))))], (.agg 67 (.pair (.arr 65 .bool) .bool)), fun x => F40 x, .new⟩
theorem eq40 (x : dens ent40.as) : ent40.F x = evFN [ent48] SHF dc40 [(.tmp 2)] ent40.as ent40.rs x := by kernel_rfl
/-- (*library/holding.set).spans -/
noncomputable def F41 (a0 : List (Bool) × Bool) : Option (((List (Int × Int)) × Int) × List (Bool) × Bool) :=
  jn (σ := Unit) (fun nextj1 =>
    nextj1 ()) fun j1 =>
  gdN (List.length ([] : List (Int × Int))) (List.length ([] : List (Int × Int))) <|
  loopK (σ := (List (Int × Int)) × Int) (fun p2 againp2 =>
    cond (decide (p2.2 ≤ (9999 : Int)))
      (gd (0 ≤ p2.2 ∧ p2.2 < (List.length a0.1 : Int)) <|
      gd ((Int.toNat p2.2) < List.length a0.1) <|
      cond (!(List.getD a0.1 (Int.toNat p2.2) false))
        (bnd (IntKind.wrap .i64 (p2.2 + (1 : Int))) fun x3 =>
        gdN (List.length p2.1) (List.length p2.1) <|
        againp2 (p2.1, x3))
        (jn (σ := Int) (fun nextj4 =>
          loopK (σ := Int) (fun p5 againp5 =>
            cond (decide (p5 < (9999 : Int)))
              (bnd (IntKind.wrap .i64 (p5 + (1 : Int))) fun x6 =>
              gd (0 ≤ x6 ∧ x6 < (List.length a0.1 : Int)) <|
              gd ((Int.toNat x6) < List.length a0.1) <|
              cond ((List.getD a0.1 (Int.toNat x6) false))
                (bnd (IntKind.wrap .i64 (p5 + (1 : Int))) fun x7 =>
                againp5 x7)
                (nextj4 p5))
              (nextj4 p5)) p2.2) fun j4 =>
        gdN (List.length p2.1) (List.length p2.1) <|
        gd (List.length p2.1 + List.length [(p2.2, j4)] ≤ big) <|
        bnd (p2.1 ++ [(p2.2, j4)]) fun l8 =>
        bnd (IntKind.wrap .i64 (j4 + (1 : Int))) fun x9 =>
        gdN (List.length l8) (List.length l8) <|
        againp2 (l8, x9)))
      (jn (σ := List (Int × Int)) (fun nextj10 =>
        cond (a0.2)
          (gdN (List.length p2.1) (List.length p2.1) <|
          gd (0 < List.length p2.1) <|
          gdN (List.length p2.1) (List.length p2.1) <|
          bnd (IntKind.wrap .i64 ((List.length p2.1 : Int) - (1 : Int))) fun x11 =>
          gd (0 ≤ x11 ∧ x11 < (List.length p2.1 : Int)) <|
          gd ((Int.toNat x11) < List.length p2.1) <|
          gd ((Int.toNat x11) < List.length p2.1) <|
          nextj10 (List.set p2.1 (Int.toNat x11) ((List.getD p2.1 (Int.toNat x11) (0, 0)).1, (0 : Int))))
          (nextj10 p2.1)) fun j10 =>
      cond (decide ((32 : Int) < (List.length j10 : Int)))
        (some ((([] : List (Int × Int)), (13 : Int)), a0))
        (some ((j10, (0 : Int)), a0)))) (([] : List (Int × Int)), (1 : Int))
def dc41 : DC :=
  (.jn ⟨[], [], [2, 3].map .s ++ [2].map .f⟩ (.reg [⟨none, (.nl 2 36)⟩,
    ⟨none, (.mv (some 3) (.v (.int .i64 0)))⟩])
  (.seq (.reg [⟨none, (.nl 4 36)⟩])
  (.seq (.seq (.reg [⟨none, (.mv (some 5) (.v (.int .i64 1)))⟩])
  (.block 0 (.loop ⟨[(4, (.row 4 36 (.agg 36 (.pair (.int .i64) (.int .i64))))), (5, (.lf (.int .i64)))], [], [6, 7, 8, 9, 10, 11, 12, 13, 14, 15, 16, 17, 18, 19, 20, 21, 22, 23, 24, 25, 26, 27, 28, 29, 30, 31, 32, 33, 34, 35, 36, 37].map .s ++ [36].map .f⟩ (.seq (.seq (.reg [⟨none, (.mv (some 7) (.t 5))⟩,
    ⟨none, (.ar 8 .leq (.t 7) (.v (.int .i64 9999)))⟩])
  (.cond (.t 8)
    .skip
    (.exit 0)))
  (.seq (.block 1 (.seq (.seq (.reg [⟨none, (.mv (some 11) (.t 0))⟩,
    ⟨none, (.mv (some 12) (.t 5))⟩,
    ⟨none, (.nc (some 13) (.t 11))⟩,
    ⟨none, (.fa 14 67 0 (.t 13))⟩,
    ⟨none, (.aa 15 65 (.t 14) (.t 12))⟩,
    ⟨none, (.ld 16 none (.t 15))⟩,
    ⟨none, (.un 17 .not (.t 16))⟩])
  (.cond (.t 17)
    (.exit 1)
    .skip))
  (.seq (.reg [⟨none, (.mv (some 18) (.t 5))⟩,
    ⟨none, (.mv (some 6) (.t 18))⟩])
  (.jn ⟨[(5, (.lf (.int .i64)))], [], [19, 20, 21, 22, 23, 24, 25, 26, 27, 28, 29, 30, 31].map .s⟩ (.block 2 (.loop ⟨[(5, (.lf (.int .i64)))], [], [19, 20, 21, 22, 23, 24, 25, 26, 27, 28, 29, 30, 31].map .s⟩ (.seq (.seq (.reg [⟨none, (.mv (some 19) (.t 5))⟩,
    ⟨none, (.ar 20 .lss (.t 19) (.v (.int .i64 9999)))⟩,
    ⟨none, (.mv (some 21) (.t 20))⟩,
    ⟨(some (21, true)), (.mv (some 22) (.t 0))⟩,
    ⟨(some (21, true)), (.mv (some 23) (.t 5))⟩,
    ⟨(some (21, true)), (.ar 24 .add (.t 23) (.v (.int .i64 1)))⟩,
    ⟨(some (21, true)), (.nc (some 25) (.t 22))⟩,
    ⟨(some (21, true)), (.fa 26 67 0 (.t 25))⟩,
    ⟨(some (21, true)), (.aa 27 65 (.t 26) (.t 24))⟩,
    ⟨(some (21, true)), (.ld 28 none (.t 27))⟩,
    ⟨none, (.pick 29 (.t 21) (.t 28) (.v (.bool false)))⟩])
  (.cond (.t 29)
    .skip
    (.exit 2)))
  (.block 3 (.reg [⟨none, (.mv (some 30) (.t 5))⟩,
    ⟨none, (.ar 31 .add (.t 30) (.v (.int .i64 1)))⟩,
    ⟨none, (.mv (some 5) (.t 31))⟩])))))
  (.reg [⟨none, (.mv (some 32) (.t 4))⟩,
    ⟨none, (.mv (some 33) (.t 6))⟩,
    ⟨none, (.mv (some 34) (.t 5))⟩,
    ⟨none, (.bd 35 36 [(.int .i64 0), (.int .i64 0)] [0, 1] [(.t 33), (.t 34)])⟩,
    ⟨none, (.bs 36 36 (some 36) [(.t 35)])⟩,
    ⟨none, (.ap 37 36 (.t 32) (.t 36))⟩,
    ⟨none, (.mv (some 4) (.t 37))⟩])))))
  (.reg [⟨none, (.mv (some 9) (.t 5))⟩,
    ⟨none, (.ar 10 .add (.t 9) (.v (.int .i64 1)))⟩,
    ⟨none, (.mv (some 5) (.t 10))⟩]))))))
  (.jn ⟨[(4, (.lf (.sl 36 (.agg 36 (.pair (.int .i64) (.int .i64))))))], [], [38, 39, 40, 41, 42, 43, 44, 45, 46, 47].map .s ++ [4].map .b ++ [4].map .f⟩ (.seq (.reg [⟨none, (.mv (some 38) (.t 0))⟩,
    ⟨none, (.nc (some 39) (.t 38))⟩,
    ⟨none, (.fa 40 67 1 (.t 39))⟩,
    ⟨none, (.ld 41 none (.t 40))⟩])
  (.cond (.t 41)
    (.seq (.gh 5000004 [4])
  (.seq (.reg [⟨none, (.mv (some 42) (.t 4))⟩,
    ⟨none, (.mv (some 43) (.t 4))⟩,
    ⟨none, (.ln 44 (some 36) (.t 43))⟩,
    ⟨none, (.ar 45 .sub (.t 44) (.v (.int .i64 1)))⟩,
    ⟨none, (.ea 46 36 (.t 42) (.t 45))⟩,
    ⟨none, (.fa 47 36 1 (.t 46))⟩,
    ⟨none, (.st none (.t 47) (.v (.int .i64 0)))⟩])
  (.seq (.gh 4 [])
  .skip)))
    .skip))
  (.seq (.seq (.reg [⟨none, (.mv (some 48) (.t 4))⟩,
    ⟨none, (.ln 49 (some 36) (.t 48))⟩,
    ⟨none, (.ar 50 .gtr (.t 49) (.v (.int .i64 32)))⟩])
  (.cond (.t 50)
    (.seq (.reg [⟨none, (.nl 2 36)⟩,
    ⟨none, (.mv (some 3) (.v (.int .i64 13)))⟩])
  .ret)
    .skip))
  (.seq (.reg [⟨none, (.mv (some 51) (.t 4))⟩,
    ⟨none, (.mv (some 2) (.t 51))⟩,
    ⟨none, (.mv (some 3) (.v (.int .i64 0)))⟩])
  .ret))))))
noncomputable def ent41 : TEnt := ⟨41, [(.agg 67 (.pair (.arr 65 .bool) .bool))], (.pair (.tup (.pair (.sl 36 (.agg 36 (.pair (.int .i64) (.int .i64)))) (.int .i64))) (.agg 67 (.pair (.arr 65 .bool) .bool))), fun x => F41 x, .lent 0⟩
theorem eq41 (x : dens ent41.as) : ent41.F x = evFL [] SHF dc41 [(.tmp 2), (.tmp 3)] ent41.as (.tup (.pair (.sl 36 (.agg 36 (.pair (.int .i64) (.int .i64)))) (.int .i64))) (.agg 67 (.pair (.arr 65 .bool) .bool)) 0 x := by kernel_rfl
/-- library/holding.changed -/
noncomputable def F46 (a0 : List (Int × Int)) (a1 : Int) (a2 : Int) (a3 : Bool) : Option ((List (Int × Int)) × Int) :=
  jn (σ := Unit) (fun nextj1 =>
    nextj1 ()) fun j1 =>
  bindO (F12 a0) fun y2 =>
  cond (!y2)
    (some (([] : List (Int × Int)), (1 : Int)))
    (jn (σ := Unit) (fun nextj3 =>
      bindO (F32 a1) fun y4 =>
      cond (!y4)
        (some (([] : List (Int × Int)), (2 : Int)))
        (cond (!decide (a2 = (0 : Int)))
          (cond (decide (a2 < a1))
            (some (([] : List (Int × Int)), (2 : Int)))
            (cond (decide ((9999 : Int) < a2))
              (some (([] : List (Int × Int)), (2 : Int)))
              (nextj3 ())))
          (nextj3 ()))) fun j3 =>
    bindO (F40 a0) fun y5 =>
    bindO (F48 y5 a1 a2 a3) fun y6 =>
    gdN (List.length y5.1) (List.length y6.2.1) <|
    cond (a3)
      (cond (y6.2.2)
        (bindO (F41 (y6.2.1, true)) fun y7 =>
        gdN (List.length ((y6.2.1, true).1)) (List.length y7.2.1) <|
        some (y7.1.1, y7.1.2))
        (bindO (F41 (y6.2.1, decide (a2 = (0 : Int)))) fun y8 =>
        gdN (List.length ((y6.2.1, decide (a2 = (0 : Int))).1)) (List.length y8.2.1) <|
        some (y8.1.1, y8.1.2)))
      (cond (y6.2.2)
        (cond (!decide (a2 = (0 : Int)))
          (bindO (F41 (y6.2.1, !decide (a2 = (9999 : Int)))) fun y9 =>
          gdN (List.length ((y6.2.1, !decide (a2 = (9999 : Int))).1)) (List.length y9.2.1) <|
          some (y9.1.1, y9.1.2))
          (bindO (F41 (y6.2.1, false)) fun y10 =>
          gdN (List.length ((y6.2.1, false).1)) (List.length y10.2.1) <|
          some (y10.1.1, y10.1.2)))
        (bindO (F41 (y6.2.1, false)) fun y11 =>
        gdN (List.length ((y6.2.1, false).1)) (List.length y11.2.1) <|
        some (y11.1.1, y11.1.2))))
def dc46 : DC :=
  (.jn ⟨[], [], [8, 9].map .s ++ [8].map .f⟩ (.reg [⟨none, (.nl 8 36)⟩,
    ⟨none, (.mv (some 9) (.v (.int .i64 0)))⟩])
  (.seq (.seq (.reg [⟨none, (.mv (some 11) (.t 0))⟩,
    ⟨none, (.ca (some 12) 12 [(.t 11)])⟩,
    ⟨none, (.un 13 .not (.t 12))⟩])
  (.cond (.t 13)
    (.seq (.reg [⟨none, (.nl 8 36)⟩,
    ⟨none, (.mv (some 9) (.v (.int .i64 1)))⟩])
  .ret)
    .skip))
  (.jn ⟨[], [], [14, 15, 16, 17, 18, 19, 20, 21, 22, 23, 24, 25, 26, 27, 28, 29].map .s⟩ (.seq (.reg [⟨none, (.mv (some 14) (.t 1))⟩,
    ⟨none, (.ca (some 15) 32 [(.t 14)])⟩,
    ⟨none, (.un 16 .not (.t 15))⟩,
    ⟨none, (.mv (some 17) (.t 16))⟩,
    ⟨(some (17, false)), (.mv (some 18) (.t 2))⟩,
    ⟨(some (17, false)), (.ar 19 .neq (.t 18) (.v (.int .i64 0)))⟩,
    ⟨(some (17, false)), (.mv (some 20) (.t 19))⟩,
    ⟨(some (20, true)), (.mv (some 21) (.t 2))⟩,
    ⟨(some (20, true)), (.mv (some 22) (.t 1))⟩,
    ⟨(some (20, true)), (.ar 23 .lss (.t 21) (.t 22))⟩,
    ⟨(some (20, true)), (.mv (some 24) (.t 23))⟩,
    ⟨(some (24, false)), (.mv (some 25) (.t 2))⟩,
    ⟨(some (24, false)), (.ar 26 .gtr (.t 25) (.v (.int .i64 9999)))⟩,
    ⟨(some (20, true)), (.pick 27 (.t 24) (.v (.bool true)) (.t 26))⟩,
    ⟨(some (17, false)), (.pick 28 (.t 20) (.t 27) (.v (.bool false)))⟩,
    ⟨none, (.pick 29 (.t 17) (.v (.bool true)) (.t 28))⟩])
  (.cond (.t 29)
    (.seq (.reg [⟨none, (.nl 8 36)⟩,
    ⟨none, (.mv (some 9) (.v (.int .i64 2)))⟩])
  .ret)
    .skip))
  (.seq (.reg [⟨none, (.mv (some 30) (.t 0))⟩,
    ⟨none, (.cn 31 40 [(.t 30)])⟩,
    ⟨none, (.mv (some 10) (.t 31))⟩])
  (.seq (.reg [⟨none, (.mv (some 32) (.t 10))⟩,
    ⟨none, (.mv (some 33) (.t 1))⟩,
    ⟨none, (.mv (some 34) (.t 2))⟩,
    ⟨none, (.mv (some 35) (.t 3))⟩,
    ⟨none, (.cb (some 36) 48 [(.t 32), (.t 33), (.t 34), (.t 35)])⟩])
  (.seq (.seq (.reg [⟨none, (.mv (some 37) (.t 3))⟩])
  (.cond (.t 37)
    (.reg [⟨none, (.mv (some 38) (.t 10))⟩,
    ⟨none, (.mv (some 39) (.t 10))⟩,
    ⟨none, (.nc (some 40) (.t 39))⟩,
    ⟨none, (.fa 41 67 1 (.t 40))⟩,
    ⟨none, (.ld 42 none (.t 41))⟩,
    ⟨none, (.mv (some 43) (.t 42))⟩,
    ⟨(some (43, false)), (.mv (some 44) (.t 2))⟩,
    ⟨(some (43, false)), (.ar 45 .eql (.t 44) (.v (.int .i64 0)))⟩,
    ⟨none, (.pick 46 (.t 43) (.v (.bool true)) (.t 45))⟩,
    ⟨none, (.nc (some 47) (.t 38))⟩,
    ⟨none, (.fa 48 67 1 (.t 47))⟩,
    ⟨none, (.st none (.t 48) (.t 46))⟩])
    (.reg [⟨none, (.mv (some 49) (.t 10))⟩,
    ⟨none, (.mv (some 50) (.t 10))⟩,
    ⟨none, (.nc (some 51) (.t 50))⟩,
    ⟨none, (.fa 52 67 1 (.t 51))⟩,
    ⟨none, (.ld 53 none (.t 52))⟩,
    ⟨none, (.mv (some 54) (.t 53))⟩,
    ⟨(some (54, true)), (.mv (some 55) (.t 2))⟩,
    ⟨(some (54, true)), (.ar 56 .neq (.t 55) (.v (.int .i64 0)))⟩,
    ⟨none, (.pick 57 (.t 54) (.t 56) (.v (.bool false)))⟩,
    ⟨none, (.mv (some 58) (.t 57))⟩,
    ⟨(some (58, true)), (.mv (some 59) (.t 2))⟩,
    ⟨(some (58, true)), (.ar 60 .neq (.t 59) (.v (.int .i64 9999)))⟩,
    ⟨none, (.pick 61 (.t 58) (.t 60) (.v (.bool false)))⟩,
    ⟨none, (.nc (some 62) (.t 49))⟩,
    ⟨none, (.fa 63 67 1 (.t 62))⟩,
    ⟨none, (.st none (.t 63) (.t 61))⟩])))
  (.seq (.reg [⟨none, (.mv (some 64) (.t 10))⟩,
    ⟨none, (.cb (some 65) 41 [(.t 64)])⟩,
    ⟨none, (.ex 66 0 (.t 65))⟩,
    ⟨none, (.ex 67 1 (.t 65))⟩,
    ⟨none, (.mv (some 8) (.t 66))⟩,
    ⟨none, (.mv (some 9) (.t 67))⟩])
  .ret)))))))
noncomputable def ent46 : TEnt := ⟨46, [(.sl 36 (.agg 36 (.pair (.int .i64) (.int .i64)))), (.int .i64), (.int .i64), .bool], (.tup (.pair (.sl 36 (.agg 36 (.pair (.int .i64) (.int .i64)))) (.int .i64))), fun x => F46 x.1 x.2.1 x.2.2.1 x.2.2.2, .plain⟩
theorem eq46 (x : dens ent46.as) : ent46.F x = evF [ent12, ent32, ent40, ent41, ent48] SHF dc46 [(.tmp 8), (.tmp 9)] ent46.as ent46.rs x := by kernel_rfl
/-- library/holding.Parse -/
noncomputable def F16 (a0 : List UInt8) : Option ((List (Int × Int)) × Int) :=
  jn (σ := Unit) (fun nextj1 =>
    nextj1 ()) fun j1 =>
  cond (decide (a0 = ([] : List UInt8)))
    (some (([] : List (Int × Int)), (0 : Int)))
    (bindO (fSplit a0 ([44] : List UInt8)) fun y2 =>
    gdN (List.length ([] : List (Int × Int))) (List.length ([] : List (Int × Int))) <|
    loopK (σ := (List (Int × Int)) × Bool × Int) (fun p3 againp3 =>
      cond (decide (p3.2.2 < (List.length y2 : Int)))
        (gd (0 ≤ p3.2.2 ∧ p3.2.2 < (List.length y2 : Int)) <|
        bindO (fTrim (List.getD y2 (Int.toNat p3.2.2) []) ([32] : List UInt8)) fun y4 =>
        bindO (fCut y4 ([45] : List UInt8)) fun y5 =>
        bindO (F39 y5.1) fun y6 =>
        jn (σ := Bool × Int × Bool) (fun nextj7 =>
          jn (σ := Bool) (fun nextj8 =>
            cond (y5.2.2)
              (nextj8 (decide (y5.2.1 = ([] : List UInt8))))
              (nextj8 false)) fun j8 =>
          cond (j8)
            (nextj7 (p3.2.1, (0 : Int), true))
            (cond (y5.2.2)
              (bindO (F39 y5.2.1) fun y9 =>
              cond (p3.2.1)
                (nextj7 (true, y9.1, y9.2))
                (bindO (F32 y9.1) fun y10 =>
                cond (!y10)
                  (nextj7 (true, y9.1, y9.2))
                  (nextj7 (decide (y9.1 < y6.1), y9.1, y9.2))))
              (nextj7 (p3.2.1, y6.1, true)))) fun j7 =>
        cond (!y6.2)
          (some (([] : List (Int × Int)), (3 : Int)))
          (cond (!j7.2.2)
            (some (([] : List (Int × Int)), (3 : Int)))
            (jn (σ := Bool) (fun nextj11 =>
              cond (j7.1)
                (nextj11 true)
                (bindO (F32 y6.1) fun y12 =>
                nextj11 (!y12))) fun j11 =>
            gdN (List.length p3.1) (List.length p3.1) <|
            gd (List.length p3.1 + List.length [(y6.1, j7.2.1)] ≤ big) <|
            bnd (p3.1 ++ [(y6.1, j7.2.1)]) fun l13 =>
            bnd (IntKind.wrap .i64 (p3.2.2 + (1 : Int))) fun x14 =>
            gdN (List.length l13) (List.length l13) <|
            againp3 (l13, j11, x14))))
        (cond (p3.2.1)
          (some (([] : List (Int × Int)), (2 : Int)))
          (bindO (F40 p3.1) fun y15 =>
          bindO (F41 y15) fun y16 =>
          gdN (List.length y15.1) (List.length y16.2.1) <|
          some (y16.1.1, y16.1.2)))) (([] : List (Int × Int)), false, (0 : Int)))
def dc16 : DC :=
  (.jn ⟨[], [], [2, 3].map .s ++ [2].map .f⟩ (.reg [⟨none, (.nl 2 36)⟩,
    ⟨none, (.mv (some 3) (.v (.int .i64 0)))⟩])
  (.seq (.seq (.reg [⟨none, (.mv (some 15) (.t 0))⟩,
    ⟨none, (.ar 16 .eql (.t 15) (.v (.str [])))⟩])
  (.cond (.t 16)
    (.seq (.reg [⟨none, (.nl 2 36)⟩,
    ⟨none, (.mv (some 3) (.v (.int .i64 0)))⟩])
  .ret)
    .skip))
  (.seq (.reg [⟨none, (.nl 4 36)⟩])
  (.seq (.reg [⟨none, (.mv (some 5) (.v (.bool false)))⟩])
  (.seq (.seq (.reg [⟨none, (.mv (some 17) (.t 0))⟩,
    ⟨none, (.ca (some 18) 36 [(.t 17), (.v (.str [44]))])⟩,
    ⟨none, (.ln 19 (some 9) (.t 18))⟩,
    ⟨none, (.mv (some 20) (.v (.int .i64 0)))⟩])
  (.block 0 (.loop ⟨[(4, (.row 4 36 (.agg 36 (.pair (.int .i64) (.int .i64))))), (5, (.lf .bool)), (20, (.lf (.int .i64)))], [], [2, 3, 7, 8, 9, 10, 11, 12, 13, 14, 21, 22, 23, 24, 25, 26, 27, 28, 29, 30, 31, 32, 33, 34, 35, 36, 37, 38, 39, 40, 41, 42, 43, 44, 45, 46, 47, 48, 49, 50, 51, 52, 53, 54, 55, 56, 57, 58, 59, 60, 61, 62, 63, 64, 65, 66, 67, 68, 69, 70, 71, 72, 73, 74, 75, 76, 77].map .s ++ [2, 75].map .f⟩ (.seq (.reg [⟨none, (.ar 21 .lss (.t 20) (.t 19))⟩])
  (.seq (.cond (.t 21)
    .skip
    (.exit 0))
  (.seq (.block 1 (.seq (.reg [⟨none, (.ea 22 9 (.t 18) (.t 20))⟩,
    ⟨none, (.ld 23 none (.t 22))⟩,
    ⟨none, (.mv (some 7) (.t 23))⟩])
  (.seq (.reg [⟨none, (.mv (some 25) (.t 7))⟩,
    ⟨none, (.ca (some 26) 38 [(.t 25), (.v (.str [32]))])⟩,
    ⟨none, (.ca (some 27) 37 [(.t 26), (.v (.str [45]))])⟩,
    ⟨none, (.mv (some 24) (.t 27))⟩,
    ⟨none, (.ex 28 0 (.t 24))⟩,
    ⟨none, (.ex 29 1 (.t 24))⟩,
    ⟨none, (.ex 30 2 (.t 24))⟩,
    ⟨none, (.mv (some 8) (.t 28))⟩,
    ⟨none, (.mv (some 9) (.t 29))⟩,
    ⟨none, (.mv (some 10) (.t 30))⟩])
  (.seq (.reg [⟨none, (.mv (some 32) (.t 8))⟩,
    ⟨none, (.ca (some 33) 39 [(.t 32)])⟩,
    ⟨none, (.mv (some 31) (.t 33))⟩,
    ⟨none, (.ex 34 0 (.t 31))⟩,
    ⟨none, (.ex 35 1 (.t 31))⟩,
    ⟨none, (.mv (some 11) (.t 34))⟩,
    ⟨none, (.mv (some 12) (.t 35))⟩])
  (.seq (.reg [⟨none, (.mv (some 36) (.t 11))⟩,
    ⟨none, (.mv (some 13) (.t 36))⟩,
    ⟨none, (.mv (some 14) (.v (.bool true)))⟩])
  (.jn ⟨[(5, (.lf .bool)), (13, (.lf (.int .i64))), (14, (.lf .bool))], [], [37, 38, 39, 40, 41, 42, 43, 44, 45, 46, 47, 48, 49, 50, 51, 52, 53, 54, 55, 56, 57, 58].map .s⟩ (.jn ⟨[(41, (.lf .bool))], [], [37, 38, 39, 40].map .s⟩ (.reg [⟨none, (.mv (some 37) (.t 10))⟩,
    ⟨none, (.mv (some 38) (.t 37))⟩,
    ⟨(some (38, true)), (.mv (some 39) (.t 9))⟩,
    ⟨(some (38, true)), (.ar 40 .eql (.t 39) (.v (.str [])))⟩,
    ⟨none, (.pick 41 (.t 38) (.t 40) (.v (.bool false)))⟩])
  (.cond (.t 41)
    (.reg [⟨none, (.mv (some 13) (.v (.int .i64 0)))⟩])
    (.seq (.reg [⟨none, (.mv (some 42) (.t 10))⟩])
  (.cond (.t 42)
    (.seq (.reg [⟨none, (.mv (some 44) (.t 9))⟩,
    ⟨none, (.ca (some 45) 39 [(.t 44)])⟩,
    ⟨none, (.mv (some 43) (.t 45))⟩,
    ⟨none, (.ex 46 0 (.t 43))⟩,
    ⟨none, (.ex 47 1 (.t 43))⟩,
    ⟨none, (.mv (some 13) (.t 46))⟩,
    ⟨none, (.mv (some 14) (.t 47))⟩])
  (.reg [⟨none, (.mv (some 48) (.t 5))⟩,
    ⟨none, (.mv (some 49) (.t 48))⟩,
    ⟨(some (49, false)), (.mv (some 50) (.t 13))⟩,
    ⟨(some (49, false)), (.ca (some 51) 32 [(.t 50)])⟩,
    ⟨(some (49, false)), (.un 52 .not (.t 51))⟩,
    ⟨none, (.pick 53 (.t 49) (.v (.bool true)) (.t 52))⟩,
    ⟨none, (.mv (some 54) (.t 53))⟩,
    ⟨(some (54, false)), (.mv (some 55) (.t 11))⟩,
    ⟨(some (54, false)), (.mv (some 56) (.t 13))⟩,
    ⟨(some (54, false)), (.ar 57 .gtr (.t 55) (.t 56))⟩,
    ⟨none, (.pick 58 (.t 54) (.v (.bool true)) (.t 57))⟩,
    ⟨none, (.mv (some 5) (.t 58))⟩]))
    .skip))))
  (.seq (.seq (.reg [⟨none, (.mv (some 59) (.t 12))⟩,
    ⟨none, (.un 60 .not (.t 59))⟩,
    ⟨none, (.mv (some 61) (.t 60))⟩,
    ⟨(some (61, false)), (.mv (some 62) (.t 14))⟩,
    ⟨(some (61, false)), (.un 63 .not (.t 62))⟩,
    ⟨none, (.pick 64 (.t 61) (.v (.bool true)) (.t 63))⟩])
  (.cond (.t 64)
    (.seq (.reg [⟨none, (.nl 2 36)⟩,
    ⟨none, (.mv (some 3) (.v (.int .i64 3)))⟩])
  .ret)
    .skip))
  (.jn ⟨[(5, (.lf .bool))], [], [65, 66, 67, 68, 69, 70].map .s⟩ (.reg [⟨none, (.mv (some 65) (.t 5))⟩,
    ⟨none, (.mv (some 66) (.t 65))⟩,
    ⟨(some (66, false)), (.mv (some 67) (.t 11))⟩,
    ⟨(some (66, false)), (.ca (some 68) 32 [(.t 67)])⟩,
    ⟨(some (66, false)), (.un 69 .not (.t 68))⟩,
    ⟨none, (.pick 70 (.t 66) (.v (.bool true)) (.t 69))⟩,
    ⟨none, (.mv (some 5) (.t 70))⟩])
  (.reg [⟨none, (.mv (some 71) (.t 4))⟩,
    ⟨none, (.mv (some 72) (.t 11))⟩,
    ⟨none, (.mv (some 73) (.t 13))⟩,
    ⟨none, (.bd 74 36 [(.int .i64 0), (.int .i64 0)] [0, 1] [(.t 72), (.t 73)])⟩,
    ⟨none, (.bs 75 36 (some 36) [(.t 74)])⟩,
    ⟨none, (.ap 76 36 (.t 71) (.t 75))⟩,
    ⟨none, (.mv (some 4) (.t 76))⟩])))))))))
  (.reg [⟨none, (.ar 77 .add (.t 20) (.v (.int .i64 1)))⟩,
    ⟨none, (.mv (some 20) (.t 77))⟩])))))))
  (.seq (.seq (.reg [⟨none, (.mv (some 78) (.t 5))⟩])
  (.cond (.t 78)
    (.seq (.reg [⟨none, (.nl 2 36)⟩,
    ⟨none, (.mv (some 3) (.v (.int .i64 2)))⟩])
  .ret)
    .skip))
  (.seq (.reg [⟨none, (.mv (some 79) (.t 4))⟩,
    ⟨none, (.cn 80 40 [(.t 79)])⟩,
    ⟨none, (.cb (some 81) 41 [(.t 80)])⟩,
    ⟨none, (.ex 82 0 (.t 81))⟩,
    ⟨none, (.ex 83 1 (.t 81))⟩,
    ⟨none, (.mv (some 2) (.t 82))⟩,
    ⟨none, (.mv (some 3) (.t 83))⟩])
  .ret)))))))
noncomputable def ent16 : TEnt := ⟨16, [.str], (.tup (.pair (.sl 36 (.agg 36 (.pair (.int .i64) (.int .i64)))) (.int .i64))), fun x => F16 x, .plain⟩
theorem eq16 (x : dens ent16.as) : ent16.F x = evF [ent32, entSplit, entCut, entTrim, ent39, ent40, ent41] SHF dc16 [(.tmp 2), (.tmp 3)] ent16.as ent16.rs x := by kernel_rfl
/-- library/holding.Has -/
noncomputable def F19 (a0 : List (Int × Int)) (a1 : Int) : Option (Bool) :=
  bindO (F12 a0) fun y1 =>
  cond (!y1)
    (some false)
    (bindO (F32 a1) fun y2 =>
    cond (!y2)
      (some false)
      (loopK (σ := Int) (fun p3 againp3 =>
        cond (decide (p3 < (List.length a0 : Int)))
          (gd (0 ≤ p3 ∧ p3 < (List.length a0 : Int)) <|
          cond (decide ((List.getD a0 (Int.toNat p3) (0, 0)).1 ≤ a1))
            (cond (decide ((List.getD a0 (Int.toNat p3) (0, 0)).2 = (0 : Int)))
              (some true)
              (cond (decide (a1 ≤ (List.getD a0 (Int.toNat p3) (0, 0)).2))
                (some true)
                (bnd (IntKind.wrap .i64 (p3 + (1 : Int))) fun x4 =>
                againp3 x4)))
            (bnd (IntKind.wrap .i64 (p3 + (1 : Int))) fun x5 =>
            againp3 x5))
          (some false)) (0 : Int)))
def dc19 : DC :=
  (.seq (.reg [⟨none, (.mv (some 4) (.v (.bool false)))⟩])
  (.seq (.seq (.reg [⟨none, (.mv (some 7) (.t 0))⟩,
    ⟨none, (.ca (some 8) 12 [(.t 7)])⟩,
    ⟨none, (.un 9 .not (.t 8))⟩,
    ⟨none, (.mv (some 10) (.t 9))⟩,
    ⟨(some (10, false)), (.mv (some 11) (.t 1))⟩,
    ⟨(some (10, false)), (.ca (some 12) 32 [(.t 11)])⟩,
    ⟨(some (10, false)), (.un 13 .not (.t 12))⟩,
    ⟨none, (.pick 14 (.t 10) (.v (.bool true)) (.t 13))⟩])
  (.cond (.t 14)
    (.seq (.reg [⟨none, (.mv (some 4) (.v (.bool false)))⟩])
  .ret)
    .skip))
  (.seq (.seq (.reg [⟨none, (.mv (some 15) (.t 0))⟩,
    ⟨none, (.ln 16 (some 36) (.t 15))⟩,
    ⟨none, (.mv (some 17) (.v (.int .i64 0)))⟩])
  (.block 0 (.loop ⟨[(17, (.lf (.int .i64)))], [], [4, 6, 18, 19, 20, 21, 22, 23, 24, 25, 26, 27, 28, 29, 30, 31, 32, 33, 34, 35, 36].map .s ++ [6].map .b⟩ (.seq (.reg [⟨none, (.ar 18 .lss (.t 17) (.t 16))⟩])
  (.seq (.cond (.t 18)
    .skip
    (.exit 0))
  (.seq (.block 1 (.seq (.reg [⟨none, (.ea 19 36 (.t 15) (.t 17))⟩,
    ⟨none, (.ld 20 (some 36) (.t 19))⟩,
    ⟨none, (.al 6 (.agg 36 [(.int .i64 0), (.int .i64 0)]))⟩,
    ⟨none, (.st (some 36) (.t 6) (.t 20))⟩])
  (.seq (.reg [⟨none, (.mv (some 21) (.t 1))⟩,
    ⟨none, (.fa 22 36 0 (.t 6))⟩,
    ⟨none, (.ld 23 none (.t 22))⟩,
    ⟨none, (.ar 24 .geq (.t 21) (.t 23))⟩,
    ⟨none, (.mv (some 25) (.t 24))⟩,
    ⟨(some (25, true)), (.fa 26 36 1 (.t 6))⟩,
    ⟨(some (25, true)), (.ld 27 none (.t 26))⟩,
    ⟨(some (25, true)), (.ar 28 .eql (.t 27) (.v (.int .i64 0)))⟩,
    ⟨(some (25, true)), (.mv (some 29) (.t 28))⟩,
    ⟨(some (29, false)), (.mv (some 30) (.t 1))⟩,
    ⟨(some (29, false)), (.fa 31 36 1 (.t 6))⟩,
    ⟨(some (29, false)), (.ld 32 none (.t 31))⟩,
    ⟨(some (29, false)), (.ar 33 .leq (.t 30) (.t 32))⟩,
    ⟨(some (25, true)), (.pick 34 (.t 29) (.v (.bool true)) (.t 33))⟩,
    ⟨none, (.pick 35 (.t 25) (.t 34) (.v (.bool false)))⟩])
  (.cond (.t 35)
    (.seq (.reg [⟨none, (.mv (some 4) (.v (.bool true)))⟩])
  .ret)
    .skip))))
  (.reg [⟨none, (.ar 36 .add (.t 17) (.v (.int .i64 1)))⟩,
    ⟨none, (.mv (some 17) (.t 36))⟩])))))))
  (.seq (.reg [⟨none, (.mv (some 4) (.v (.bool false)))⟩])
  .ret))))
noncomputable def ent19 : TEnt := ⟨19, [(.sl 36 (.agg 36 (.pair (.int .i64) (.int .i64)))), (.int .i64)], .bool, fun x => F19 x.1 x.2, .plain⟩
theorem eq19 (x : dens ent19.as) : ent19.F x = evF [ent12, ent32] SHF dc19 [(.tmp 4)] ent19.as ent19.rs x := by kernel_rfl
/-- library/libraryref17.Has -/
noncomputable def F20 (a0 : List (Int × Int)) (a1 : Int) : Option (Bool) :=
  bindO (F13 a0) fun y1 =>
  cond (!y1)
    (some false)
    (cond (decide (a1 < (1 : Int)))
      (some false)
      (cond (decide ((9999 : Int) < a1))
        (some false)
        (bindO (F45 a0) fun y2 =>
        loopK (σ := Int) (fun p3 againp3 =>
          cond (decide (p3 < (List.length y2 : Int)))
            (gd (0 ≤ p3 ∧ p3 < (List.length y2 : Int)) <|
            cond (decide ((List.getD y2 (Int.toNat p3) (0, 0)).1 ≤ a1))
              (gd (0 ≤ p3 ∧ p3 < (List.length y2 : Int)) <|
              cond (decide (a1 ≤ (List.getD y2 (Int.toNat p3) (0, 0)).2))
                (some true)
                (bnd (IntKind.wrap .i64 (p3 + (1 : Int))) fun x4 =>
                againp3 x4))
              (bnd (IntKind.wrap .i64 (p3 + (1 : Int))) fun x5 =>
              againp3 x5))
            (some false)) (0 : Int))))
def dc20 : DC :=
  (.seq (.reg [⟨none, (.mv (some 4) (.v (.bool false)))⟩])
  (.seq (.seq (.reg [⟨none, (.mv (some 7) (.t 0))⟩,
    ⟨none, (.ca (some 8) 13 [(.t 7)])⟩,
    ⟨none, (.un 9 .not (.t 8))⟩,
    ⟨none, (.mv (some 10) (.t 9))⟩,
    ⟨(some (10, false)), (.mv (some 11) (.t 1))⟩,
    ⟨(some (10, false)), (.ar 12 .lss (.t 11) (.v (.int .i64 1)))⟩,
    ⟨none, (.pick 13 (.t 10) (.v (.bool true)) (.t 12))⟩,
    ⟨none, (.mv (some 14) (.t 13))⟩,
    ⟨(some (14, false)), (.mv (some 15) (.t 1))⟩,
    ⟨(some (14, false)), (.ar 16 .gtr (.t 15) (.v (.int .i64 9999)))⟩,
    ⟨none, (.pick 17 (.t 14) (.v (.bool true)) (.t 16))⟩])
  (.cond (.t 17)
    (.seq (.reg [⟨none, (.mv (some 4) (.v (.bool false)))⟩])
  .ret)
    .skip))
  (.seq (.reg [⟨none, (.mv (some 18) (.t 0))⟩,
    ⟨none, (.ca (some 19) 45 [(.t 18)])⟩,
    ⟨none, (.mv (some 5) (.t 19))⟩])
  (.seq (.seq (.reg [⟨none, (.mv (some 6) (.v (.int .i64 0)))⟩])
  (.block 0 (.loop ⟨[(6, (.lf (.int .i64)))], [], [4, 20, 21, 22, 23, 24, 25, 26, 27, 28, 29, 30, 31, 32, 33, 34, 35, 36, 37, 38, 39, 40, 41].map .s⟩ (.seq (.seq (.reg [⟨none, (.mv (some 20) (.t 6))⟩,
    ⟨none, (.mv (some 21) (.t 5))⟩,
    ⟨none, (.ln 22 (some 36) (.t 21))⟩,
    ⟨none, (.ar 23 .lss (.t 20) (.t 22))⟩])
  (.cond (.t 23)
    .skip
    (.exit 0)))
  (.seq (.block 1 (.seq (.reg [⟨none, (.mv (some 26) (.t 1))⟩,
    ⟨none, (.mv (some 27) (.t 5))⟩,
    ⟨none, (.mv (some 28) (.t 6))⟩,
    ⟨none, (.ea 29 36 (.t 27) (.t 28))⟩,
    ⟨none, (.fa 30 36 0 (.t 29))⟩,
    ⟨none, (.ld 31 none (.t 30))⟩,
    ⟨none, (.ar 32 .geq (.t 26) (.t 31))⟩,
    ⟨none, (.mv (some 33) (.t 32))⟩,
    ⟨(some (33, true)), (.mv (some 34) (.t 1))⟩,
    ⟨(some (33, true)), (.mv (some 35) (.t 5))⟩,
    ⟨(some (33, true)), (.mv (some 36) (.t 6))⟩,
    ⟨(some (33, true)), (.ea 37 36 (.t 35) (.t 36))⟩,
    ⟨(some (33, true)), (.fa 38 36 1 (.t 37))⟩,
    ⟨(some (33, true)), (.ld 39 none (.t 38))⟩,
    ⟨(some (33, true)), (.ar 40 .leq (.t 34) (.t 39))⟩,
    ⟨none, (.pick 41 (.t 33) (.t 40) (.v (.bool false)))⟩])
  (.cond (.t 41)
    (.seq (.reg [⟨none, (.mv (some 4) (.v (.bool true)))⟩])
  .ret)
    .skip)))
  (.reg [⟨none, (.mv (some 24) (.t 6))⟩,
    ⟨none, (.ar 25 .add (.t 24) (.v (.int .i64 1)))⟩,
    ⟨none, (.mv (some 6) (.t 25))⟩]))))))
  (.seq (.reg [⟨none, (.mv (some 4) (.v (.bool false)))⟩])
  .ret)))))
noncomputable def ent20 : TEnt := ⟨20, [(.sl 36 (.agg 36 (.pair (.int .i64) (.int .i64)))), (.int .i64)], .bool, fun x => F20 x.1 x.2, .plain⟩
theorem eq20 (x : dens ent20.as) : ent20.F x = evF [ent13, ent45] SHF dc20 [(.tmp 4)] ent20.as ent20.rs x := by kernel_rfl
/-- library/holding.Count -/
noncomputable def F21 (a0 : List (Int × Int)) (a1 : Int) : Option (Int) :=
  bindO (F12 a0) fun y1 =>
  cond (!y1)
    (some (0 : Int))
    (cond (decide (a1 < (1 : Int)))
      (some (0 : Int))
      (loopK (σ := Int × Int) (fun p2 againp2 =>
        cond (decide (p2.2 < (List.length a0 : Int)))
          (gd (0 ≤ p2.2 ∧ p2.2 < (List.length a0 : Int)) <|
          jn (σ := Int) (fun nextj3 =>
            cond (decide ((List.getD a0 (Int.toNat p2.2) (0, 0)).2 = (0 : Int)))
              (nextj3 (9999 : Int))
              (nextj3 ((List.getD a0 (Int.toNat p2.2) (0, 0)).2))) fun j3 =>
          bnd (min j3 a1) fun x4 =>
          bnd (IntKind.wrap .i64 (x4 - ((List.getD a0 (Int.toNat p2.2) (0, 0)).1))) fun x5 =>
          bnd (IntKind.wrap .i64 (x5 + (1 : Int))) fun x6 =>
          bnd (max (0 : Int) x6) fun x7 =>
          bnd (IntKind.wrap .i64 (p2.1 + x7)) fun x8 =>
          bnd (IntKind.wrap .i64 (p2.2 + (1 : Int))) fun x9 =>
          againp2 (x8, x9))
          (some p2.1)) ((0 : Int), (0 : Int))))
def dc21 : DC :=
  (.seq (.reg [⟨none, (.mv (some 4) (.v (.int .i64 0)))⟩])
  (.seq (.seq (.reg [⟨none, (.mv (some 9) (.t 0))⟩,
    ⟨none, (.ca (some 10) 12 [(.t 9)])⟩,
    ⟨none, (.un 11 .not (.t 10))⟩,
    ⟨none, (.mv (some 12) (.t 11))⟩,
    ⟨(some (12, false)), (.mv (some 13) (.t 1))⟩,
    ⟨(some (12, false)), (.ar 14 .lss (.t 13) (.v (.int .i64 1)))⟩,
    ⟨none, (.pick 15 (.t 12) (.v (.bool true)) (.t 14))⟩])
  (.cond (.t 15)
    (.seq (.reg [⟨none, (.mv (some 4) (.v (.int .i64 0)))⟩])
  .ret)
    .skip))
  (.seq (.reg [⟨none, (.mv (some 5) (.v (.int .i64 0)))⟩])
  (.seq (.seq (.reg [⟨none, (.mv (some 16) (.t 0))⟩,
    ⟨none, (.ln 17 (some 36) (.t 16))⟩,
    ⟨none, (.mv (some 18) (.v (.int .i64 0)))⟩])
  (.block 0 (.loop ⟨[(5, (.lf (.int .i64))), (18, (.lf (.int .i64)))], [], [7, 8, 19, 20, 21, 22, 23, 24, 25, 26, 27, 28, 29, 30, 31, 32, 33, 34, 35, 36].map .s ++ [7].map .b⟩ (.seq (.reg [⟨none, (.ar 19 .lss (.t 18) (.t 17))⟩])
  (.seq (.cond (.t 19)
    .skip
    (.exit 0))
  (.seq (.block 1 (.seq (.reg [⟨none, (.ea 20 36 (.t 16) (.t 18))⟩,
    ⟨none, (.ld 21 (some 36) (.t 20))⟩,
    ⟨none, (.al 7 (.agg 36 [(.int .i64 0), (.int .i64 0)]))⟩,
    ⟨none, (.st (some 36) (.t 7) (.t 21))⟩])
  (.seq (.reg [⟨none, (.fa 22 36 1 (.t 7))⟩,
    ⟨none, (.ld 23 none (.t 22))⟩,
    ⟨none, (.mv (some 8) (.t 23))⟩])
  (.jn ⟨[(8, (.lf (.int .i64)))], [], [24, 25].map .s⟩ (.seq (.reg [⟨none, (.mv (some 24) (.t 8))⟩,
    ⟨none, (.ar 25 .eql (.t 24) (.v (.int .i64 0)))⟩])
  (.cond (.t 25)
    (.reg [⟨none, (.mv (some 8) (.v (.int .i64 9999)))⟩])
    .skip))
  (.reg [⟨none, (.mv (some 26) (.t 5))⟩,
    ⟨none, (.mv (some 27) (.t 8))⟩,
    ⟨none, (.mv (some 28) (.t 1))⟩,
    ⟨none, (.mn 29 false (.t 27) (.t 28))⟩,
    ⟨none, (.fa 30 36 0 (.t 7))⟩,
    ⟨none, (.ld 31 none (.t 30))⟩,
    ⟨none, (.ar 32 .sub (.t 29) (.t 31))⟩,
    ⟨none, (.ar 33 .add (.t 32) (.v (.int .i64 1)))⟩,
    ⟨none, (.mn 34 true (.v (.int .i64 0)) (.t 33))⟩,
    ⟨none, (.ar 35 .add (.t 26) (.t 34))⟩,
    ⟨none, (.mv (some 5) (.t 35))⟩])))))
  (.reg [⟨none, (.ar 36 .add (.t 18) (.v (.int .i64 1)))⟩,
    ⟨none, (.mv (some 18) (.t 36))⟩])))))))
  (.seq (.reg [⟨none, (.mv (some 37) (.t 5))⟩,
    ⟨none, (.mv (some 4) (.t 37))⟩])
  .ret)))))
noncomputable def ent21 : TEnt := ⟨21, [(.sl 36 (.agg 36 (.pair (.int .i64) (.int .i64)))), (.int .i64)], (.int .i64), fun x => F21 x.1 x.2, .plain⟩
theorem eq21 (x : dens ent21.as) : ent21.F x = evF [ent12] SHF dc21 [(.tmp 4)] ent21.as ent21.rs x := by kernel_rfl
/-- library/libraryref17.Count -/
noncomputable def F22 (a0 : List (Int × Int)) (a1 : Int) : Option (Int) :=
  bindO (F13 a0) fun y1 =>
  cond (!y1)
    (some (0 : Int))
    (bindO (F45 a0) fun y2 =>
    bnd (min a1 (9999 : Int)) fun x3 =>
    loopK (σ := Int × Int) (fun p4 againp4 =>
      cond (decide (p4.2 < (List.length y2 : Int)))
        (gd (0 ≤ p4.2 ∧ p4.2 < (List.length y2 : Int)) <|
        cond (decide ((List.getD y2 (Int.toNat p4.2) (0, 0)).1 ≤ x3))
          (gd (0 ≤ p4.2 ∧ p4.2 < (List.length y2 : Int)) <|
          bnd (min ((List.getD y2 (Int.toNat p4.2) (0, 0)).2) x3) fun x5 =>
          bnd (IntKind.wrap .i64 (p4.1 + x5)) fun x6 =>
          gd (0 ≤ p4.2 ∧ p4.2 < (List.length y2 : Int)) <|
          bnd (IntKind.wrap .i64 (x6 - ((List.getD y2 (Int.toNat p4.2) (0, 0)).1))) fun x7 =>
          bnd (IntKind.wrap .i64 (x7 + (1 : Int))) fun x8 =>
          bnd (IntKind.wrap .i64 (p4.2 + (1 : Int))) fun x9 =>
          againp4 (x8, x9))
          (bnd (IntKind.wrap .i64 (p4.2 + (1 : Int))) fun x10 =>
          againp4 (p4.1, x10)))
        (some p4.1)) ((0 : Int), (0 : Int)))
def dc22 : DC :=
  (.seq (.reg [⟨none, (.mv (some 4) (.v (.int .i64 0)))⟩])
  (.seq (.seq (.reg [⟨none, (.mv (some 8) (.t 0))⟩,
    ⟨none, (.ca (some 9) 13 [(.t 8)])⟩,
    ⟨none, (.un 10 .not (.t 9))⟩])
  (.cond (.t 10)
    (.seq (.reg [⟨none, (.mv (some 4) (.v (.int .i64 0)))⟩])
  .ret)
    .skip))
  (.seq (.reg [⟨none, (.mv (some 5) (.v (.int .i64 0)))⟩])
  (.seq (.reg [⟨none, (.mv (some 11) (.t 0))⟩,
    ⟨none, (.ca (some 12) 45 [(.t 11)])⟩,
    ⟨none, (.mv (some 6) (.t 12))⟩])
  (.seq (.reg [⟨none, (.mv (some 13) (.t 1))⟩,
    ⟨none, (.mn 14 false (.t 13) (.v (.int .i64 9999)))⟩,
    ⟨none, (.mv (some 1) (.t 14))⟩])
  (.seq (.seq (.reg [⟨none, (.mv (some 7) (.v (.int .i64 0)))⟩])
  (.block 0 (.loop ⟨[(5, (.lf (.int .i64))), (7, (.lf (.int .i64)))], [], [15, 16, 17, 18, 19, 20, 21, 22, 23, 24, 25, 26, 27, 28, 29, 30, 31, 32, 33, 34, 35, 36, 37, 38, 39, 40, 41, 42, 43].map .s⟩ (.seq (.seq (.reg [⟨none, (.mv (some 15) (.t 7))⟩,
    ⟨none, (.mv (some 16) (.t 6))⟩,
    ⟨none, (.ln 17 (some 36) (.t 16))⟩,
    ⟨none, (.ar 18 .lss (.t 15) (.t 17))⟩])
  (.cond (.t 18)
    .skip
    (.exit 0)))
  (.seq (.block 1 (.seq (.reg [⟨none, (.mv (some 21) (.t 1))⟩,
    ⟨none, (.mv (some 22) (.t 6))⟩,
    ⟨none, (.mv (some 23) (.t 7))⟩,
    ⟨none, (.ea 24 36 (.t 22) (.t 23))⟩,
    ⟨none, (.fa 25 36 0 (.t 24))⟩,
    ⟨none, (.ld 26 none (.t 25))⟩,
    ⟨none, (.ar 27 .geq (.t 21) (.t 26))⟩])
  (.cond (.t 27)
    (.reg [⟨none, (.mv (some 28) (.t 5))⟩,
    ⟨none, (.mv (some 29) (.t 6))⟩,
    ⟨none, (.mv (some 30) (.t 7))⟩,
    ⟨none, (.ea 31 36 (.t 29) (.t 30))⟩,
    ⟨none, (.fa 32 36 1 (.t 31))⟩,
    ⟨none, (.ld 33 none (.t 32))⟩,
    ⟨none, (.mv (some 34) (.t 1))⟩,
    ⟨none, (.mn 35 false (.t 33) (.t 34))⟩,
    ⟨none, (.ar 36 .add (.t 28) (.t 35))⟩,
    ⟨none, (.mv (some 37) (.t 6))⟩,
    ⟨none, (.mv (some 38) (.t 7))⟩,
    ⟨none, (.ea 39 36 (.t 37) (.t 38))⟩,
    ⟨none, (.fa 40 36 0 (.t 39))⟩,
    ⟨none, (.ld 41 none (.t 40))⟩,
    ⟨none, (.ar 42 .sub (.t 36) (.t 41))⟩,
    ⟨none, (.ar 43 .add (.t 42) (.v (.int .i64 1)))⟩,
    ⟨none, (.mv (some 5) (.t 43))⟩])
    .skip)))
  (.reg [⟨none, (.mv (some 19) (.t 7))⟩,
    ⟨none, (.ar 20 .add (.t 19) (.v (.int .i64 1)))⟩,
    ⟨none, (.mv (some 7) (.t 20))⟩]))))))
  (.seq (.reg [⟨none, (.mv (some 44) (.t 5))⟩,
    ⟨none, (.mv (some 4) (.t 44))⟩])
  .ret)))))))
noncomputable def ent22 : TEnt := ⟨22, [(.sl 36 (.agg 36 (.pair (.int .i64) (.int .i64)))), (.int .i64)], (.int .i64), fun x => F22 x.1 x.2, .plain⟩
theorem eq22 (x : dens ent22.as) : ent22.F x = evF [ent13, ent45] SHF dc22 [(.tmp 4)] ent22.as ent22.rs x := by kernel_rfl
/-- library/holding.Gaps -/
noncomputable def F23 (a0 : List (Int × Int)) : Option (List (Int × Int)) :=
  jn (σ := Unit) (fun nextj1 =>
    nextj1 ()) fun j1 =>
  bindO (F12 a0) fun y2 =>
  cond (!y2)
    (some ([] : List (Int × Int)))
    (gdN (List.length ([] : List (Int × Int))) (List.length ([] : List (Int × Int))) <|
    loopK (σ := (List (Int × Int)) × Int) (fun p3 againp3 =>
      cond (decide (p3.2 < (List.length a0 : Int)))
        (bnd (IntKind.wrap .i64 (p3.2 - (1 : Int))) fun x4 =>
        gd (0 ≤ x4 ∧ x4 < (List.length a0 : Int)) <|
        bnd (IntKind.wrap .i64 ((List.getD a0 (Int.toNat x4) (0, 0)).2 + (1 : Int))) fun x5 =>
        gd (0 ≤ p3.2 ∧ p3.2 < (List.length a0 : Int)) <|
        bnd (IntKind.wrap .i64 ((List.getD a0 (Int.toNat p3.2) (0, 0)).1 - (1 : Int))) fun x6 =>
        gdN (List.length p3.1) (List.length p3.1) <|
        gd (List.length p3.1 + List.length [(x5, x6)] ≤ big) <|
        bnd (p3.1 ++ [(x5, x6)]) fun l7 =>
        bnd (IntKind.wrap .i64 (p3.2 + (1 : Int))) fun x8 =>
        gdN (List.length l7) (List.length l7) <|
        againp3 (l7, x8))
        (some p3.1)) (([] : List (Int × Int)), (1 : Int)))
def dc23 : DC :=
  (.jn ⟨[], [], [2].map .s ++ [2].map .f⟩ (.reg [⟨none, (.nl 2 36)⟩])
  (.seq (.seq (.reg [⟨none, (.mv (some 5) (.t 0))⟩,
    ⟨none, (.ca (some 6) 12 [(.t 5)])⟩,
    ⟨none, (.un 7 .not (.t 6))⟩])
  (.cond (.t 7)
    (.seq (.reg [⟨none, (.nl 2 36)⟩])
  .ret)
    .skip))
  (.seq (.reg [⟨none, (.nl 3 36)⟩])
  (.seq (.seq (.reg [⟨none, (.mv (some 4) (.v (.int .i64 1)))⟩])
  (.block 0 (.loop ⟨[(3, (.row 3 36 (.agg 36 (.pair (.int .i64) (.int .i64))))), (4, (.lf (.int .i64)))], [], [8, 9, 10, 11, 12, 13, 14, 15, 16, 17, 18, 19, 20, 21, 22, 23, 24, 25, 26, 27, 28, 29, 30].map .s ++ [29].map .f⟩ (.seq (.seq (.reg [⟨none, (.mv (some 8) (.t 4))⟩,
    ⟨none, (.mv (some 9) (.t 0))⟩,
    ⟨none, (.ln 10 (some 36) (.t 9))⟩,
    ⟨none, (.ar 11 .lss (.t 8) (.t 10))⟩])
  (.cond (.t 11)
    .skip
    (.exit 0)))
  (.seq (.block 1 (.reg [⟨none, (.mv (some 14) (.t 3))⟩,
    ⟨none, (.mv (some 15) (.t 0))⟩,
    ⟨none, (.mv (some 16) (.t 4))⟩,
    ⟨none, (.ar 17 .sub (.t 16) (.v (.int .i64 1)))⟩,
    ⟨none, (.ea 18 36 (.t 15) (.t 17))⟩,
    ⟨none, (.fa 19 36 1 (.t 18))⟩,
    ⟨none, (.ld 20 none (.t 19))⟩,
    ⟨none, (.ar 21 .add (.t 20) (.v (.int .i64 1)))⟩,
    ⟨none, (.mv (some 22) (.t 0))⟩,
    ⟨none, (.mv (some 23) (.t 4))⟩,
    ⟨none, (.ea 24 36 (.t 22) (.t 23))⟩,
    ⟨none, (.fa 25 36 0 (.t 24))⟩,
    ⟨none, (.ld 26 none (.t 25))⟩,
    ⟨none, (.ar 27 .sub (.t 26) (.v (.int .i64 1)))⟩,
    ⟨none, (.bd 28 36 [(.int .i64 0), (.int .i64 0)] [0, 1] [(.t 21), (.t 27)])⟩,
    ⟨none, (.bs 29 36 (some 36) [(.t 28)])⟩,
    ⟨none, (.ap 30 36 (.t 14) (.t 29))⟩,
    ⟨none, (.mv (some 3) (.t 30))⟩]))
  (.reg [⟨none, (.mv (some 12) (.t 4))⟩,
    ⟨none, (.ar 13 .add (.t 12) (.v (.int .i64 1)))⟩,
    ⟨none, (.mv (some 4) (.t 13))⟩]))))))
  (.seq (.reg [⟨none, (.mv (some 31) (.t 3))⟩,
    ⟨none, (.mv (some 2) (.t 31))⟩])
  .ret)))))
noncomputable def ent23 : TEnt := ⟨23, [(.sl 36 (.agg 36 (.pair (.int .i64) (.int .i64))))], (.sl 36 (.agg 36 (.pair (.int .i64) (.int .i64)))), fun x => F23 x, .plain⟩
theorem eq23 (x : dens ent23.as) : ent23.F x = evF [ent12] SHF dc23 [(.tmp 2)] ent23.as ent23.rs x := by kernel_rfl
/-- library/libraryref17.Gaps -/
noncomputable def F24 (a0 : List (Int × Int)) : Option (List (Int × Int)) :=
  bindO (F13 a0) fun y1 =>
  cond (!y1)
    (some ([] : List (Int × Int)))
    (gdN (List.length ([] : List (Int × Int))) (List.length ([] : List (Int × Int))) <|
    loopK (σ := (List (Int × Int)) × Int) (fun p2 againp2 =>
      cond (decide (p2.2 < (List.length a0 : Int)))
        (bnd (IntKind.wrap .i64 (p2.2 - (1 : Int))) fun x3 =>
        gd (0 ≤ x3 ∧ x3 < (List.length a0 : Int)) <|
        bnd (IntKind.wrap .i64 ((List.getD a0 (Int.toNat x3) (0, 0)).2 + (1 : Int))) fun x4 =>
        gd (0 ≤ p2.2 ∧ p2.2 < (List.length a0 : Int)) <|
        bnd (IntKind.wrap .i64 ((List.getD a0 (Int.toNat p2.2) (0, 0)).1 - (1 : Int))) fun x5 =>
        gdN (List.length p2.1) (List.length p2.1) <|
        gd (List.length p2.1 + List.length [(x4, x5)] ≤ big) <|
        bnd (p2.1 ++ [(x4, x5)]) fun l6 =>
        bnd (IntKind.wrap .i64 (p2.2 + (1 : Int))) fun x7 =>
        gdN (List.length l6) (List.length l6) <|
        againp2 (l6, x7))
        (some p2.1)) (([] : List (Int × Int)), (1 : Int)))
def dc24 : DC :=
  (.seq (.reg [⟨none, (.nl 2 36)⟩])
  (.seq (.reg [⟨none, (.bs 5 36 (some 36) [])⟩,
    ⟨none, (.mv (some 3) (.t 5))⟩])
  (.seq (.seq (.reg [⟨none, (.mv (some 6) (.t 0))⟩,
    ⟨none, (.ca (some 7) 13 [(.t 6)])⟩,
    ⟨none, (.un 8 .not (.t 7))⟩])
  (.cond (.t 8)
    (.seq (.reg [⟨none, (.mv (some 9) (.t 3))⟩,
    ⟨none, (.mv (some 2) (.t 9))⟩])
  .ret)
    .skip))
  (.seq (.seq (.reg [⟨none, (.mv (some 4) (.v (.int .i64 1)))⟩])
  (.block 0 (.loop ⟨[(3, (.row 5 36 (.agg 36 (.pair (.int .i64) (.int .i64))))), (4, (.lf (.int .i64)))], [], [10, 11, 12, 13, 14, 15, 16, 17, 18, 19, 20, 21, 22, 23, 24, 25, 26, 27, 28, 29, 30, 31, 32].map .s ++ [31].map .f⟩ (.seq (.seq (.reg [⟨none, (.mv (some 10) (.t 4))⟩,
    ⟨none, (.mv (some 11) (.t 0))⟩,
    ⟨none, (.ln 12 (some 36) (.t 11))⟩,
    ⟨none, (.ar 13 .lss (.t 10) (.t 12))⟩])
  (.cond (.t 13)
    .skip
    (.exit 0)))
  (.seq (.block 1 (.reg [⟨none, (.mv (some 16) (.t 3))⟩,
    ⟨none, (.mv (some 17) (.t 0))⟩,
    ⟨none, (.mv (some 18) (.t 4))⟩,
    ⟨none, (.ar 19 .sub (.t 18) (.v (.int .i64 1)))⟩,
    ⟨none, (.ea 20 36 (.t 17) (.t 19))⟩,
    ⟨none, (.fa 21 36 1 (.t 20))⟩,
    ⟨none, (.ld 22 none (.t 21))⟩,
    ⟨none, (.ar 23 .add (.t 22) (.v (.int .i64 1)))⟩,
    ⟨none, (.mv (some 24) (.t 0))⟩,
    ⟨none, (.mv (some 25) (.t 4))⟩,
    ⟨none, (.ea 26 36 (.t 24) (.t 25))⟩,
    ⟨none, (.fa 27 36 0 (.t 26))⟩,
    ⟨none, (.ld 28 none (.t 27))⟩,
    ⟨none, (.ar 29 .sub (.t 28) (.v (.int .i64 1)))⟩,
    ⟨none, (.bd 30 36 [(.int .i64 0), (.int .i64 0)] [0, 1] [(.t 23), (.t 29)])⟩,
    ⟨none, (.bs 31 36 (some 36) [(.t 30)])⟩,
    ⟨none, (.ap 32 36 (.t 16) (.t 31))⟩,
    ⟨none, (.mv (some 3) (.t 32))⟩]))
  (.reg [⟨none, (.mv (some 14) (.t 4))⟩,
    ⟨none, (.ar 15 .add (.t 14) (.v (.int .i64 1)))⟩,
    ⟨none, (.mv (some 4) (.t 15))⟩]))))))
  (.seq (.reg [⟨none, (.mv (some 33) (.t 3))⟩,
    ⟨none, (.mv (some 2) (.t 33))⟩])
  .ret)))))
noncomputable def ent24 : TEnt := ⟨24, [(.sl 36 (.agg 36 (.pair (.int .i64) (.int .i64))))], (.sl 36 (.agg 36 (.pair (.int .i64) (.int .i64)))), fun x => F24 x, .plain⟩
theorem eq24 (x : dens ent24.as) : ent24.F x = evF [ent13] SHF dc24 [(.tmp 2)] ent24.as ent24.rs x := by kernel_rfl
/-- library/holding.Add -/
noncomputable def F25 (a0 : List (Int × Int)) (a1 : Int) (a2 : Int) : Option ((List (Int × Int)) × Int) :=
  bindO (F46 a0 a1 a2 true) fun y1 =>
  some (y1.1, y1.2)
def dc25 : DC :=
  (.seq (.reg [⟨none, (.nl 6 36)⟩,
    ⟨none, (.mv (some 7) (.v (.int .i64 0)))⟩])
  (.seq (.reg [⟨none, (.mv (some 8) (.t 0))⟩,
    ⟨none, (.mv (some 9) (.t 1))⟩,
    ⟨none, (.mv (some 10) (.t 2))⟩,
    ⟨none, (.ca (some 11) 46 [(.t 8), (.t 9), (.t 10), (.v (.bool true))])⟩,
    ⟨none, (.ex 12 0 (.t 11))⟩,
    ⟨none, (.ex 13 1 (.t 11))⟩,
    ⟨none, (.mv (some 6) (.t 12))⟩,
    ⟨none, (.mv (some 7) (.t 13))⟩])
  .ret))
noncomputable def ent25 : TEnt := ⟨25, [(.sl 36 (.agg 36 (.pair (.int .i64) (.int .i64)))), (.int .i64), (.int .i64)], (.tup (.pair (.sl 36 (.agg 36 (.pair (.int .i64) (.int .i64)))) (.int .i64))), fun x => F25 x.1 x.2.1 x.2.2, .plain⟩
theorem eq25 (x : dens ent25.as) : ent25.F x = evF [ent46] SHF dc25 [(.tmp 6), (.tmp 7)] ent25.as ent25.rs x := by kernel_rfl
/-- library/libraryref17.Add -/
noncomputable def F26 (a0 : List (Int × Int)) (a1 : Int) (a2 : Int) : Option ((List (Int × Int)) × Int) :=
  jn (σ := Unit) (fun nextj1 =>
    nextj1 ()) fun j1 =>
  bindO (F13 a0) fun y2 =>
  cond (!y2)
    (some (([] : List (Int × Int)), (1 : Int)))
    (bindO (F31 a1 a2) fun y3 =>
    cond (!y3)
      (some (([] : List (Int × Int)), (2 : Int)))
      (jn (σ := Int) (fun nextj4 =>
        cond (decide (a2 = (0 : Int)))
          (nextj4 (10000 : Int))
          (nextj4 a2)) fun j4 =>
      bindO (F45 a0) fun y5 =>
      bindO (F43 y5 (a1, j4)) fun y6 =>
      bindO (F44 y6) fun y7 =>
      some (y7.1, y7.2)))
def dc26 : DC :=
  (.jn ⟨[], [], [6, 7].map .s ++ [6].map .f⟩ (.reg [⟨none, (.nl 6 36)⟩,
    ⟨none, (.mv (some 7) (.v (.int .i64 0)))⟩])
  (.seq (.seq (.reg [⟨none, (.mv (some 8) (.t 0))⟩,
    ⟨none, (.ca (some 9) 13 [(.t 8)])⟩,
    ⟨none, (.un 10 .not (.t 9))⟩])
  (.cond (.t 10)
    (.seq (.reg [⟨none, (.nl 6 36)⟩,
    ⟨none, (.mv (some 7) (.v (.int .i64 1)))⟩])
  .ret)
    .skip))
  (.seq (.seq (.reg [⟨none, (.mv (some 11) (.t 1))⟩,
    ⟨none, (.mv (some 12) (.t 2))⟩,
    ⟨none, (.ca (some 13) 31 [(.t 11), (.t 12)])⟩,
    ⟨none, (.un 14 .not (.t 13))⟩])
  (.cond (.t 14)
    (.seq (.reg [⟨none, (.nl 6 36)⟩,
    ⟨none, (.mv (some 7) (.v (.int .i64 2)))⟩])
  .ret)
    .skip))
  (.jn ⟨[(2, (.lf (.int .i64)))], [], [15, 16].map .s⟩ (.seq (.reg [⟨none, (.mv (some 15) (.t 2))⟩,
    ⟨none, (.ar 16 .eql (.t 15) (.v (.int .i64 0)))⟩])
  (.cond (.t 16)
    (.reg [⟨none, (.mv (some 2) (.v (.int .i64 10000)))⟩])
    .skip))
  (.seq (.reg [⟨none, (.mv (some 17) (.t 0))⟩,
    ⟨none, (.ca (some 18) 45 [(.t 17)])⟩,
    ⟨none, (.mv (some 19) (.t 1))⟩,
    ⟨none, (.mv (some 20) (.t 2))⟩,
    ⟨none, (.bd 21 36 [(.int .i64 0), (.int .i64 0)] [0, 1] [(.t 19), (.t 20)])⟩,
    ⟨none, (.ca (some 22) 43 [(.t 18), (.t 21)])⟩,
    ⟨none, (.ca (some 23) 44 [(.t 22)])⟩,
    ⟨none, (.ex 24 0 (.t 23))⟩,
    ⟨none, (.ex 25 1 (.t 23))⟩,
    ⟨none, (.mv (some 6) (.t 24))⟩,
    ⟨none, (.mv (some 7) (.t 25))⟩])
  .ret)))))
noncomputable def ent26 : TEnt := ⟨26, [(.sl 36 (.agg 36 (.pair (.int .i64) (.int .i64)))), (.int .i64), (.int .i64)], (.tup (.pair (.sl 36 (.agg 36 (.pair (.int .i64) (.int .i64)))) (.int .i64))), fun x => F26 x.1 x.2.1 x.2.2, .plain⟩
theorem eq26 (x : dens ent26.as) : ent26.F x = evF [ent13, ent31, ent43, ent44, ent45] SHF dc26 [(.tmp 6), (.tmp 7)] ent26.as ent26.rs x := by kernel_rfl
/-- library/holding.Remove -/
noncomputable def F27 (a0 : List (Int × Int)) (a1 : Int) (a2 : Int) : Option ((List (Int × Int)) × Int) :=
  bindO (F46 a0 a1 a2 false) fun y1 =>
  some (y1.1, y1.2)
def dc27 : DC :=
  (.seq (.reg [⟨none, (.nl 6 36)⟩,
    ⟨none, (.mv (some 7) (.v (.int .i64 0)))⟩])
  (.seq (.reg [⟨none, (.mv (some 8) (.t 0))⟩,
    ⟨none, (.mv (some 9) (.t 1))⟩,
    ⟨none, (.mv (some 10) (.t 2))⟩,
    ⟨none, (.ca (some 11) 46 [(.t 8), (.t 9), (.t 10), (.v (.bool false))])⟩,
    ⟨none, (.ex 12 0 (.t 11))⟩,
    ⟨none, (.ex 13 1 (.t 11))⟩,
    ⟨none, (.mv (some 6) (.t 12))⟩,
    ⟨none, (.mv (some 7) (.t 13))⟩])
  .ret))
noncomputable def ent27 : TEnt := ⟨27, [(.sl 36 (.agg 36 (.pair (.int .i64) (.int .i64)))), (.int .i64), (.int .i64)], (.tup (.pair (.sl 36 (.agg 36 (.pair (.int .i64) (.int .i64)))) (.int .i64))), fun x => F27 x.1 x.2.1 x.2.2, .plain⟩
theorem eq27 (x : dens ent27.as) : ent27.F x = evF [ent46] SHF dc27 [(.tmp 6), (.tmp 7)] ent27.as ent27.rs x := by kernel_rfl
/-- library/libraryref17.cut -/
noncomputable def F47 (a0 : List (Int × Int)) (a1 : Int × Int) : Option (List (Int × Int)) :=
  gdN (List.length ([] : List (Int × Int))) (List.length ([] : List (Int × Int))) <|
  loopK (σ := (List (Int × Int)) × Int) (fun p1 againp1 =>
    cond (decide (p1.2 < (List.length a0 : Int)))
      (gd (0 ≤ p1.2 ∧ p1.2 < (List.length a0 : Int)) <|
      jn (σ := Bool) (fun nextj2 =>
        cond (decide ((List.getD a0 (Int.toNat p1.2) (0, 0)).2 < a1.1))
          (nextj2 true)
          (nextj2 (decide (a1.2 < (List.getD a0 (Int.toNat p1.2) (0, 0)).1)))) fun j2 =>
      cond (j2)
        (gdN (List.length p1.1) (List.length p1.1) <|
        gd (List.length p1.1 + List.length [(List.getD a0 (Int.toNat p1.2) (0, 0))] ≤ big) <|
        bnd (p1.1 ++ [(List.getD a0 (Int.toNat p1.2) (0, 0))]) fun l3 =>
        bnd (IntKind.wrap .i64 (p1.2 + (1 : Int))) fun x4 =>
        gdN (List.length l3) (List.length l3) <|
        againp1 (l3, x4))
        (jn (σ := List (Int × Int)) (fun nextj5 =>
          cond (decide ((List.getD a0 (Int.toNat p1.2) (0, 0)).1 < a1.1))
            (bnd (IntKind.wrap .i64 (a1.1 - (1 : Int))) fun x6 =>
            gdN (List.length p1.1) (List.length p1.1) <|
            gd (List.length p1.1 + List.length [((List.getD a0 (Int.toNat p1.2) (0, 0)).1, x6)] ≤ big) <|
            bnd (p1.1 ++ [((List.getD a0 (Int.toNat p1.2) (0, 0)).1, x6)]) fun l7 =>
            gdN (List.length l7) (List.length l7) <|
            nextj5 l7)
            (gdN (List.length p1.1) (List.length p1.1) <|
            nextj5 p1.1)) fun j5 =>
        cond (decide (a1.2 < (List.getD a0 (Int.toNat p1.2) (0, 0)).2))
          (bnd (IntKind.wrap .i64 (a1.2 + (1 : Int))) fun x8 =>
          gdN (List.length j5) (List.length j5) <|
          gd (List.length j5 + List.length [(x8, (List.getD a0 (Int.toNat p1.2) (0, 0)).2)] ≤ big) <|
          bnd (j5 ++ [(x8, (List.getD a0 (Int.toNat p1.2) (0, 0)).2)]) fun l9 =>
          bnd (IntKind.wrap .i64 (p1.2 + (1 : Int))) fun x10 =>
          gdN (List.length l9) (List.length l9) <|
          againp1 (l9, x10))
          (bnd (IntKind.wrap .i64 (p1.2 + (1 : Int))) fun x11 =>
          gdN (List.length j5) (List.length j5) <|
          againp1 (j5, x11))))
      (some p1.1)) (([] : List (Int × Int)), (0 : Int))
def dc47 : DC :=
  (.seq (.reg [⟨none, (.bx 3 (some 36) (.t 1))⟩,
    ⟨none, (.nl 4 36)⟩])
  (.seq (.reg [⟨none, (.bs 8 36 (some 36) [])⟩,
    ⟨none, (.mv (some 5) (.t 8))⟩])
  (.seq (.seq (.reg [⟨none, (.mv (some 6) (.v (.int .i64 0)))⟩])
  (.block 0 (.loop ⟨[(5, (.row 8 36 (.agg 36 (.pair (.int .i64) (.int .i64))))), (6, (.lf (.int .i64)))], [], [7, 9, 10, 11, 12, 13, 14, 15, 16, 17, 18, 19, 20, 21, 22, 23, 24, 25, 26, 27, 28, 29, 30, 31, 32, 33, 34, 35, 36, 37, 38, 39, 40, 41, 42, 43, 44, 45, 46, 47, 48, 49, 50, 51, 52, 53, 54, 55, 56, 57, 58, 59, 60, 61, 62].map .s ++ [7].map .b ++ [33, 47, 61].map .f⟩ (.seq (.seq (.reg [⟨none, (.mv (some 9) (.t 6))⟩,
    ⟨none, (.mv (some 10) (.t 0))⟩,
    ⟨none, (.ln 11 (some 36) (.t 10))⟩,
    ⟨none, (.ar 12 .lss (.t 9) (.t 11))⟩])
  (.cond (.t 12)
    .skip
    (.exit 0)))
  (.seq (.block 1 (.seq (.reg [⟨none, (.mv (some 15) (.t 0))⟩,
    ⟨none, (.mv (some 16) (.t 6))⟩,
    ⟨none, (.ea 17 36 (.t 15) (.t 16))⟩,
    ⟨none, (.ld 18 (some 36) (.t 17))⟩,
    ⟨none, (.al 7 (.agg 36 [(.int .i64 0), (.int .i64 0)]))⟩,
    ⟨none, (.st (some 36) (.t 7) (.t 18))⟩])
  (.seq (.jn ⟨[(30, (.lf .bool))], [], [19, 20, 21, 22, 23, 24, 25, 26, 27, 28, 29].map .s⟩ (.reg [⟨none, (.fa 19 36 1 (.t 7))⟩,
    ⟨none, (.ld 20 none (.t 19))⟩,
    ⟨none, (.fa 21 36 0 (.t 3))⟩,
    ⟨none, (.ld 22 none (.t 21))⟩,
    ⟨none, (.ar 23 .lss (.t 20) (.t 22))⟩,
    ⟨none, (.mv (some 24) (.t 23))⟩,
    ⟨(some (24, false)), (.fa 25 36 0 (.t 7))⟩,
    ⟨(some (24, false)), (.ld 26 none (.t 25))⟩,
    ⟨(some (24, false)), (.fa 27 36 1 (.t 3))⟩,
    ⟨(some (24, false)), (.ld 28 none (.t 27))⟩,
    ⟨(some (24, false)), (.ar 29 .gtr (.t 26) (.t 28))⟩,
    ⟨none, (.pick 30 (.t 24) (.v (.bool true)) (.t 29))⟩])
  (.cond (.t 30)
    (.seq (.reg [⟨none, (.mv (some 31) (.t 5))⟩,
    ⟨none, (.ld 32 (some 36) (.t 7))⟩,
    ⟨none, (.bs 33 36 (some 36) [(.t 32)])⟩,
    ⟨none, (.ap 34 36 (.t 31) (.t 33))⟩,
    ⟨none, (.mv (some 5) (.t 34))⟩])
  (.exit 1))
    .skip))
  (.jn ⟨[(5, (.row 8 36 (.agg 36 (.pair (.int .i64) (.int .i64)))))], [], [35, 36, 37, 38, 39, 40, 41, 42, 43, 44, 45, 46, 47, 48].map .s ++ [47].map .f⟩ (.seq (.reg [⟨none, (.fa 35 36 0 (.t 7))⟩,
    ⟨none, (.ld 36 none (.t 35))⟩,
    ⟨none, (.fa 37 36 0 (.t 3))⟩,
    ⟨none, (.ld 38 none (.t 37))⟩,
    ⟨none, (.ar 39 .lss (.t 36) (.t 38))⟩])
  (.cond (.t 39)
    (.reg [⟨none, (.mv (some 40) (.t 5))⟩,
    ⟨none, (.fa 41 36 0 (.t 7))⟩,
    ⟨none, (.ld 42 none (.t 41))⟩,
    ⟨none, (.fa 43 36 0 (.t 3))⟩,
    ⟨none, (.ld 44 none (.t 43))⟩,
    ⟨none, (.ar 45 .sub (.t 44) (.v (.int .i64 1)))⟩,
    ⟨none, (.bd 46 36 [(.int .i64 0), (.int .i64 0)] [0, 1] [(.t 42), (.t 45)])⟩,
    ⟨none, (.bs 47 36 (some 36) [(.t 46)])⟩,
    ⟨none, (.ap 48 36 (.t 40) (.t 47))⟩,
    ⟨none, (.mv (some 5) (.t 48))⟩])
    .skip))
  (.seq (.reg [⟨none, (.fa 49 36 1 (.t 7))⟩,
    ⟨none, (.ld 50 none (.t 49))⟩,
    ⟨none, (.fa 51 36 1 (.t 3))⟩,
    ⟨none, (.ld 52 none (.t 51))⟩,
    ⟨none, (.ar 53 .gtr (.t 50) (.t 52))⟩])
  (.cond (.t 53)
    (.reg [⟨none, (.mv (some 54) (.t 5))⟩,
    ⟨none, (.fa 55 36 1 (.t 3))⟩,
    ⟨none, (.ld 56 none (.t 55))⟩,
    ⟨none, (.ar 57 .add (.t 56) (.v (.int .i64 1)))⟩,
    ⟨none, (.fa 58 36 1 (.t 7))⟩,
    ⟨none, (.ld 59 none (.t 58))⟩,
    ⟨none, (.bd 60 36 [(.int .i64 0), (.int .i64 0)] [0, 1] [(.t 57), (.t 59)])⟩,
    ⟨none, (.bs 61 36 (some 36) [(.t 60)])⟩,
    ⟨none, (.ap 62 36 (.t 54) (.t 61))⟩,
    ⟨none, (.mv (some 5) (.t 62))⟩])
    .skip))))))
  (.reg [⟨none, (.mv (some 13) (.t 6))⟩,
    ⟨none, (.ar 14 .add (.t 13) (.v (.int .i64 1)))⟩,
    ⟨none, (.mv (some 6) (.t 14))⟩]))))))
  (.seq (.reg [⟨none, (.mv (some 63) (.t 5))⟩,
    ⟨none, (.mv (some 4) (.t 63))⟩])
  .ret))))
noncomputable def ent47 : TEnt := ⟨47, [(.sl 36 (.agg 36 (.pair (.int .i64) (.int .i64)))), (.agg 36 (.pair (.int .i64) (.int .i64)))], (.sl 36 (.agg 36 (.pair (.int .i64) (.int .i64)))), fun x => F47 x.1 x.2, .plain⟩
theorem eq47 (x : dens ent47.as) : ent47.F x = evF [] SHF dc47 [(.tmp 4)] ent47.as ent47.rs x := by kernel_rfl
/-- library/libraryref17.Remove -/
noncomputable def F28 (a0 : List (Int × Int)) (a1 : Int) (a2 : Int) : Option ((List (Int × Int)) × Int) :=
  jn (σ := Unit) (fun nextj1 =>
    nextj1 ()) fun j1 =>
  bindO (F13 a0) fun y2 =>
  cond (!y2)
    (some (([] : List (Int × Int)), (1 : Int)))
    (bindO (F31 a1 a2) fun y3 =>
    cond (!y3)
      (some (([] : List (Int × Int)), (2 : Int)))
      (jn (σ := Int) (fun nextj4 =>
        cond (decide (a2 = (0 : Int)))
          (nextj4 (10000 : Int))
          (cond (decide (a2 = (9999 : Int)))
            (nextj4 (10000 : Int))
            (nextj4 a2))) fun j4 =>
      bindO (F45 a0) fun y5 =>
      bindO (F47 y5 (a1, j4)) fun y6 =>
      bindO (F44 y6) fun y7 =>
      some (y7.1, y7.2)))
def dc28 : DC :=
  (.jn ⟨[], [], [6, 7].map .s ++ [6].map .f⟩ (.reg [⟨none, (.nl 6 36)⟩,
    ⟨none, (.mv (some 7) (.v (.int .i64 0)))⟩])
  (.seq (.seq (.reg [⟨none, (.mv (some 8) (.t 0))⟩,
    ⟨none, (.ca (some 9) 13 [(.t 8)])⟩,
    ⟨none, (.un 10 .not (.t 9))⟩])
  (.cond (.t 10)
    (.seq (.reg [⟨none, (.nl 6 36)⟩,
    ⟨none, (.mv (some 7) (.v (.int .i64 1)))⟩])
  .ret)
    .skip))
  (.seq (.seq (.reg [⟨none, (.mv (some 11) (.t 1))⟩,
    ⟨none, (.mv (some 12) (.t 2))⟩,
    ⟨none, (.ca (some 13) 31 [(.t 11), (.t 12)])⟩,
    ⟨none, (.un 14 .not (.t 13))⟩])
  (.cond (.t 14)
    (.seq (.reg [⟨none, (.nl 6 36)⟩,
    ⟨none, (.mv (some 7) (.v (.int .i64 2)))⟩])
  .ret)
    .skip))
  (.jn ⟨[(2, (.lf (.int .i64)))], [], [15, 16, 17, 18, 19, 20].map .s⟩ (.seq (.reg [⟨none, (.mv (some 15) (.t 2))⟩,
    ⟨none, (.ar 16 .eql (.t 15) (.v (.int .i64 0)))⟩,
    ⟨none, (.mv (some 17) (.t 16))⟩,
    ⟨(some (17, false)), (.mv (some 18) (.t 2))⟩,
    ⟨(some (17, false)), (.ar 19 .eql (.t 18) (.v (.int .i64 9999)))⟩,
    ⟨none, (.pick 20 (.t 17) (.v (.bool true)) (.t 19))⟩])
  (.cond (.t 20)
    (.reg [⟨none, (.mv (some 2) (.v (.int .i64 10000)))⟩])
    .skip))
  (.seq (.reg [⟨none, (.mv (some 21) (.t 0))⟩,
    ⟨none, (.ca (some 22) 45 [(.t 21)])⟩,
    ⟨none, (.mv (some 23) (.t 1))⟩,
    ⟨none, (.mv (some 24) (.t 2))⟩,
    ⟨none, (.bd 25 36 [(.int .i64 0), (.int .i64 0)] [0, 1] [(.t 23), (.t 24)])⟩,
    ⟨none, (.ca (some 26) 47 [(.t 22), (.t 25)])⟩,
    ⟨none, (.ca (some 27) 44 [(.t 26)])⟩,
    ⟨none, (.ex 28 0 (.t 27))⟩,
    ⟨none, (.ex 29 1 (.t 27))⟩,
    ⟨none, (.mv (some 6) (.t 28))⟩,
    ⟨none, (.mv (some 7) (.t 29))⟩])
  .ret)))))
noncomputable def ent28 : TEnt := ⟨28, [(.sl 36 (.agg 36 (.pair (.int .i64) (.int .i64)))), (.int .i64), (.int .i64)], (.tup (.pair (.sl 36 (.agg 36 (.pair (.int .i64) (.int .i64)))) (.int .i64))), fun x => F28 x.1 x.2.1 x.2.2, .plain⟩
theorem eq28 (x : dens ent28.as) : ent28.F x = evF [ent13, ent31, ent44, ent45, ent47] SHF dc28 [(.tmp 6), (.tmp 7)] ent28.as ent28.rs x := by kernel_rfl
/-- library/holding.Union -/
noncomputable def F29 (a0 : List (Int × Int)) (a1 : List (Int × Int)) : Option ((List (Int × Int)) × Int) :=
  jn (σ := Unit) (fun nextj1 =>
    nextj1 ()) fun j1 =>
  bindO (F12 a0) fun y2 =>
  cond (!y2)
    (some (([] : List (Int × Int)), (1 : Int)))
    (bindO (F12 a1) fun y3 =>
    cond (!y3)
      (some (([] : List (Int × Int)), (1 : Int)))
      (bindO (F40 a0) fun y4 =>
      loopK (σ := Int × List (Bool) × Bool) (fun p5 againp5 =>
        cond (decide (p5.1 < (List.length a1 : Int)))
          (gd (0 ≤ p5.1 ∧ p5.1 < (List.length a1 : Int)) <|
          bindO (F48 p5.2 ((List.getD a1 (Int.toNat p5.1) (0, 0)).1) ((List.getD a1 (Int.toNat p5.1) (0, 0)).2) true) fun y6 =>
          gdN (List.length p5.2.1) (List.length y6.2.1) <|
          cond (y6.2.2)
            (bnd (IntKind.wrap .i64 (p5.1 + (1 : Int))) fun x7 =>
            againp5 (x7, (y6.2.1, true)))
            (bnd (IntKind.wrap .i64 (p5.1 + (1 : Int))) fun x8 =>
            againp5 (x8, (y6.2.1, decide ((List.getD a1 (Int.toNat p5.1) (0, 0)).2 = (0 : Int))))))
          (bindO (F41 p5.2) fun y9 =>
          gdN (List.length p5.2.1) (List.length y9.2.1) <|
          some (y9.1.1, y9.1.2))) ((0 : Int), y4)))
def dc29 : DC :=
  (.jn ⟨[], [], [4, 5].map .s ++ [4].map .f⟩ (.reg [⟨none, (.nl 4 36)⟩,
    ⟨none, (.mv (some 5) (.v (.int .i64 0)))⟩])
  (.seq (.seq (.reg [⟨none, (.mv (some 9) (.t 0))⟩,
    ⟨none, (.ca (some 10) 12 [(.t 9)])⟩,
    ⟨none, (.un 11 .not (.t 10))⟩,
    ⟨none, (.mv (some 12) (.t 11))⟩,
    ⟨(some (12, false)), (.mv (some 13) (.t 1))⟩,
    ⟨(some (12, false)), (.ca (some 14) 12 [(.t 13)])⟩,
    ⟨(some (12, false)), (.un 15 .not (.t 14))⟩,
    ⟨none, (.pick 16 (.t 12) (.v (.bool true)) (.t 15))⟩])
  (.cond (.t 16)
    (.seq (.reg [⟨none, (.nl 4 36)⟩,
    ⟨none, (.mv (some 5) (.v (.int .i64 1)))⟩])
  .ret)
    .skip))
  (.seq (.reg [⟨none, (.mv (some 17) (.t 0))⟩,
    ⟨none, (.cn 18 40 [(.t 17)])⟩,
    ⟨none, (.mv (some 6) (.t 18))⟩])
  (.seq (.seq (.reg [⟨none, (.mv (some 19) (.t 1))⟩,
    ⟨none, (.ln 20 (some 36) (.t 19))⟩,
    ⟨none, (.mv (some 21) (.v (.int .i64 0)))⟩])
  (.block 0 (.loop ⟨[(21, (.lf (.int .i64)))], [(18, (.lf (.agg 67 (.pair (.arr 65 .bool) .bool))))], [8, 22, 23, 24, 25, 26, 27, 28, 29, 30, 31, 32, 33, 34, 35, 36, 37, 38, 39, 40, 41, 42, 43].map .s ++ [8].map .b⟩ (.seq (.reg [⟨none, (.ar 22 .lss (.t 21) (.t 20))⟩])
  (.seq (.cond (.t 22)
    .skip
    (.exit 0))
  (.seq (.block 1 (.seq (.reg [⟨none, (.ea 23 36 (.t 19) (.t 21))⟩,
    ⟨none, (.ld 24 (some 36) (.t 23))⟩,
    ⟨none, (.al 8 (.agg 36 [(.int .i64 0), (.int .i64 0)]))⟩,
    ⟨none, (.st (some 36) (.t 8) (.t 24))⟩])
  (.seq (.reg [⟨none, (.mv (some 25) (.t 6))⟩,
    ⟨none, (.fa 26 36 0 (.t 8))⟩,
    ⟨none, (.ld 27 none (.t 26))⟩,
    ⟨none, (.fa 28 36 1 (.t 8))⟩,
    ⟨none, (.ld 29 none (.t 28))⟩,
    ⟨none, (.cb (some 30) 48 [(.t 25), (.t 27), (.t 29), (.v (.bool true))])⟩])
  (.reg [⟨none, (.mv (some 31) (.t 6))⟩,
    ⟨none, (.mv (some 32) (.t 6))⟩,
    ⟨none, (.nc (some 33) (.t 32))⟩,
    ⟨none, (.fa 34 67 1 (.t 33))⟩,
    ⟨none, (.ld 35 none (.t 34))⟩,
    ⟨none, (.mv (some 36) (.t 35))⟩,
    ⟨(some (36, false)), (.fa 37 36 1 (.t 8))⟩,
    ⟨(some (36, false)), (.ld 38 none (.t 37))⟩,
    ⟨(some (36, false)), (.ar 39 .eql (.t 38) (.v (.int .i64 0)))⟩,
    ⟨none, (.pick 40 (.t 36) (.v (.bool true)) (.t 39))⟩,
    ⟨none, (.nc (some 41) (.t 31))⟩,
    ⟨none, (.fa 42 67 1 (.t 41))⟩,
    ⟨none, (.st none (.t 42) (.t 40))⟩]))))
  (.reg [⟨none, (.ar 43 .add (.t 21) (.v (.int .i64 1)))⟩,
    ⟨none, (.mv (some 21) (.t 43))⟩])))))))
  (.seq (.reg [⟨none, (.mv (some 44) (.t 6))⟩,
    ⟨none, (.cb (some 45) 41 [(.t 44)])⟩,
    ⟨none, (.ex 46 0 (.t 45))⟩,
    ⟨none, (.ex 47 1 (.t 45))⟩,
    ⟨none, (.mv (some 4) (.t 46))⟩,
    ⟨none, (.mv (some 5) (.t 47))⟩])
  .ret)))))
noncomputable def ent29 : TEnt := ⟨29, [(.sl 36 (.agg 36 (.pair (.int .i64) (.int .i64)))), (.sl 36 (.agg 36 (.pair (.int .i64) (.int .i64))))], (.tup (.pair (.sl 36 (.agg 36 (.pair (.int .i64) (.int .i64)))) (.int .i64))), fun x => F29 x.1 x.2, .plain⟩
theorem eq29 (x : dens ent29.as) : ent29.F x = evF [ent12, ent40, ent41, ent48] SHF dc29 [(.tmp 4), (.tmp 5)] ent29.as ent29.rs x := by kernel_rfl
/-- library/libraryref17.Union -/
noncomputable def F30 (a0 : List (Int × Int)) (a1 : List (Int × Int)) : Option ((List (Int × Int)) × Int) :=
  jn (σ := Unit) (fun nextj1 =>
    nextj1 ()) fun j1 =>
  bindO (F13 a0) fun y2 =>
  cond (!y2)
    (some (([] : List (Int × Int)), (1 : Int)))
    (bindO (F13 a1) fun y3 =>
    cond (!y3)
      (some (([] : List (Int × Int)), (1 : Int)))
      (bindO (F45 a0) fun y4 =>
      bindO (F45 a1) fun y5 =>
      loopK (σ := (List (Int × Int)) × Int) (fun p6 againp6 =>
        cond (decide (p6.2 < (List.length y5 : Int)))
          (gd (0 ≤ p6.2 ∧ p6.2 < (List.length y5 : Int)) <|
          bindO (F43 p6.1 (List.getD y5 (Int.toNat p6.2) (0, 0))) fun y7 =>
          bnd (IntKind.wrap .i64 (p6.2 + (1 : Int))) fun x8 =>
          againp6 (y7, x8))
          (bindO (F44 p6.1) fun y9 =>
          some (y9.1, y9.2))) (y4, (0 : Int))))
def dc30 : DC :=
  (.jn ⟨[], [], [4, 5].map .s ++ [4].map .f⟩ (.reg [⟨none, (.nl 4 36)⟩,
    ⟨none, (.mv (some 5) (.v (.int .i64 0)))⟩])
  (.seq (.seq (.reg [⟨none, (.mv (some 9) (.t 0))⟩,
    ⟨none, (.ca (some 10) 13 [(.t 9)])⟩,
    ⟨none, (.un 11 .not (.t 10))⟩,
    ⟨none, (.mv (some 12) (.t 11))⟩,
    ⟨(some (12, false)), (.mv (some 13) (.t 1))⟩,
    ⟨(some (12, false)), (.ca (some 14) 13 [(.t 13)])⟩,
    ⟨(some (12, false)), (.un 15 .not (.t 14))⟩,
    ⟨none, (.pick 16 (.t 12) (.v (.bool true)) (.t 15))⟩])
  (.cond (.t 16)
    (.seq (.reg [⟨none, (.nl 4 36)⟩,
    ⟨none, (.mv (some 5) (.v (.int .i64 1)))⟩])
  .ret)
    .skip))
  (.seq (.reg [⟨none, (.mv (some 17) (.t 0))⟩,
    ⟨none, (.ca (some 18) 45 [(.t 17)])⟩,
    ⟨none, (.mv (some 6) (.t 18))⟩])
  (.seq (.reg [⟨none, (.mv (some 19) (.t 1))⟩,
    ⟨none, (.ca (some 20) 45 [(.t 19)])⟩,
    ⟨none, (.mv (some 7) (.t 20))⟩])
  (.seq (.seq (.reg [⟨none, (.mv (some 8) (.v (.int .i64 0)))⟩])
  (.block 0 (.loop ⟨[(6, (.lf (.sl 36 (.agg 36 (.pair (.int .i64) (.int .i64)))))), (8, (.lf (.int .i64)))], [], [21, 22, 23, 24, 25, 26, 27, 28, 29, 30, 31, 32].map .s⟩ (.seq (.seq (.reg [⟨none, (.mv (some 21) (.t 8))⟩,
    ⟨none, (.mv (some 22) (.t 7))⟩,
    ⟨none, (.ln 23 (some 36) (.t 22))⟩,
    ⟨none, (.ar 24 .lss (.t 21) (.t 23))⟩])
  (.cond (.t 24)
    .skip
    (.exit 0)))
  (.seq (.block 1 (.reg [⟨none, (.mv (some 27) (.t 6))⟩,
    ⟨none, (.mv (some 28) (.t 7))⟩,
    ⟨none, (.mv (some 29) (.t 8))⟩,
    ⟨none, (.ea 30 36 (.t 28) (.t 29))⟩,
    ⟨none, (.ld 31 (some 36) (.t 30))⟩,
    ⟨none, (.ca (some 32) 43 [(.t 27), (.t 31)])⟩,
    ⟨none, (.mv (some 6) (.t 32))⟩]))
  (.reg [⟨none, (.mv (some 25) (.t 8))⟩,
    ⟨none, (.ar 26 .add (.t 25) (.v (.int .i64 1)))⟩,
    ⟨none, (.mv (some 8) (.t 26))⟩]))))))
  (.seq (.reg [⟨none, (.mv (some 33) (.t 6))⟩,
    ⟨none, (.ca (some 34) 44 [(.t 33)])⟩,
    ⟨none, (.ex 35 0 (.t 34))⟩,
    ⟨none, (.ex 36 1 (.t 34))⟩,
    ⟨none, (.mv (some 4) (.t 35))⟩,
    ⟨none, (.mv (some 5) (.t 36))⟩])
  .ret))))))
noncomputable def ent30 : TEnt := ⟨30, [(.sl 36 (.agg 36 (.pair (.int .i64) (.int .i64)))), (.sl 36 (.agg 36 (.pair (.int .i64) (.int .i64))))], (.tup (.pair (.sl 36 (.agg 36 (.pair (.int .i64) (.int .i64)))) (.int .i64))), fun x => F30 x.1 x.2, .plain⟩
theorem eq30 (x : dens ent30.as) : ent30.F x = evF [ent13, ent43, ent44, ent45] SHF dc30 [(.tmp 4), (.tmp 5)] ent30.as ent30.rs x := by kernel_rfl
/-- library/librarylaw17.alive -/
noncomputable def F11 : Option (Bool) :=
  bindO (F16 ([53, 44, 32, 49, 45, 51, 32, 44, 52, 45, 52] : List UInt8)) fun y1 =>
  bindO (F16 ([55, 45, 44, 49] : List UInt8)) fun y2 =>
  bindO (F16 ([51, 45, 49] : List UInt8)) fun y3 =>
  bindO (F16 ([48, 49] : List UInt8)) fun y4 =>
  bindO (F27 [((7 : Int), (0 : Int))] (9 : Int) (10 : Int)) fun y5 =>
  bindO (F27 [((7 : Int), (0 : Int))] (9 : Int) (9999 : Int)) fun y6 =>
  cond (!decide (y1.2 = (0 : Int)))
    (some false)
    (cond (!decide (y2.2 = (0 : Int)))
      (some false)
      (cond (!decide (y3.2 = (2 : Int)))
        (some false)
        (cond (!decide (y4.2 = (3 : Int)))
          (some false)
          (cond (!decide (y5.2 = (0 : Int)))
            (some false)
            (cond (!decide (y6.2 = (0 : Int)))
              (some false)
              (bindO (F18 y1.1 [((1 : Int), (5 : Int))]) fun y7 =>
              cond (!y7)
                (some false)
                (bindO (F18 y2.1 [((1 : Int), (1 : Int)), ((7 : Int), (0 : Int))]) fun y8 =>
                cond (!y8)
                  (some false)
                  (bindO (F14 y2.1) fun y9 =>
                  cond (!decide (y9 = ([49, 44, 32, 55, 45] : List UInt8)))
                    (some false)
                    (bindO (F18 y5.1 [((7 : Int), (8 : Int)), ((11 : Int), (0 : Int))]) fun y10 =>
                    cond (!y10)
                      (some false)
                      (bindO (F18 y6.1 [((7 : Int), (8 : Int))]) fun y11 =>
                      cond (!y11)
                        (some false)
                        (bindO (F21 [((7 : Int), (0 : Int))] (20000 : Int)) fun y12 =>
                        cond (!decide (y12 = (9993 : Int)))
                          (some false)
                          (bindO (F23 [((1 : Int), (2 : Int)), ((5 : Int), (6 : Int))]) fun y13 =>
                          bindO (F18 y13 [((3 : Int), (4 : Int))]) fun y14 =>
                          cond (y14)
                            (bindO (F19 [((7 : Int), (0 : Int))] (7 : Int)) fun y15 =>
                            cond (y15)
                              (bindO (F12 [((7 : Int), (0 : Int))]) fun y16 =>
                              some y16)
                              (some false))
                            (some false)))))))))))))
def dc11 : DC :=
  (.seq (.reg [⟨none, (.mv (some 0) (.v (.bool false)))⟩])
  (.seq (.reg [⟨none, (.ca (some 15) 16 [(.v (.str [53, 44, 32, 49, 45, 51, 32, 44, 52, 45, 52]))])⟩,
    ⟨none, (.mv (some 14) (.t 15))⟩,
    ⟨none, (.ex 16 0 (.t 14))⟩,
    ⟨none, (.ex 17 1 (.t 14))⟩,
    ⟨none, (.mv (some 1) (.t 16))⟩,
    ⟨none, (.mv (some 2) (.t 17))⟩])
  (.seq (.reg [⟨none, (.ca (some 19) 16 [(.v (.str [55, 45, 44, 49]))])⟩,
    ⟨none, (.mv (some 18) (.t 19))⟩,
    ⟨none, (.ex 20 0 (.t 18))⟩,
    ⟨none, (.ex 21 1 (.t 18))⟩,
    ⟨none, (.mv (some 3) (.t 20))⟩,
    ⟨none, (.mv (some 4) (.t 21))⟩])
  (.seq (.reg [⟨none, (.ca (some 23) 16 [(.v (.str [51, 45, 49]))])⟩,
    ⟨none, (.mv (some 22) (.t 23))⟩,
    ⟨none, (.ex 24 0 (.t 22))⟩,
    ⟨none, (.ex 25 1 (.t 22))⟩,
    ⟨none, (.mv (some 5) (.t 24))⟩,
    ⟨none, (.mv (some 6) (.t 25))⟩])
  (.seq (.reg [⟨none, (.ca (some 27) 16 [(.v (.str [48, 49]))])⟩,
    ⟨none, (.mv (some 26) (.t 27))⟩,
    ⟨none, (.ex 28 0 (.t 26))⟩,
    ⟨none, (.ex 29 1 (.t 26))⟩,
    ⟨none, (.mv (some 7) (.t 28))⟩,
    ⟨none, (.mv (some 8) (.t 29))⟩])
  (.seq (.reg [⟨none, (.bd 30 36 [(.int .i64 0), (.int .i64 0)] [0] [(.v (.int .i64 7))])⟩,
    ⟨none, (.bs 31 36 (some 36) [(.t 30)])⟩,
    ⟨none, (.mv (some 9) (.t 31))⟩])
  (.seq (.reg [⟨none, (.mv (some 33) (.t 9))⟩,
    ⟨none, (.ca (some 34) 27 [(.t 33), (.v (.int .i64 9)), (.v (.int .i64 10))])⟩,
    ⟨none, (.mv (some 32) (.t 34))⟩,
    ⟨none, (.ex 35 0 (.t 32))⟩,
    ⟨none, (.ex 36 1 (.t 32))⟩,
    ⟨none, (.mv (some 10) (.t 35))⟩,
    ⟨none, (.mv (some 11) (.t 36))⟩])
  (.seq (.reg [⟨none, (.mv (some 38) (.t 9))⟩,
    ⟨none, (.ca (some 39) 27 [(.t 38), (.v (.int .i64 9)), (.v (.int .i64 9999))])⟩,
    ⟨none, (.mv (some 37) (.t 39))⟩,
    ⟨none, (.ex 40 0 (.t 37))⟩,
    ⟨none, (.ex 41 1 (.t 37))⟩,
    ⟨none, (.mv (some 12) (.t 40))⟩,
    ⟨none, (.mv (some 13) (.t 41))⟩])
  (.seq (.seq (.reg [⟨none, (.mv (some 42) (.t 2))⟩,
    ⟨none, (.ar 43 .neq (.t 42) (.v (.int .i64 0)))⟩,
    ⟨none, (.mv (some 44) (.t 43))⟩,
    ⟨(some (44, false)), (.mv (some 45) (.t 4))⟩,
    ⟨(some (44, false)), (.ar 46 .neq (.t 45) (.v (.int .i64 0)))⟩,
    ⟨none, (.pick 47 (.t 44) (.v (.bool true)) (.t 46))⟩,
    ⟨none, (.mv (some 48) (.t 47))⟩,
    ⟨(some (48, false)), (.mv (some 49) (.t 6))⟩,
    ⟨(some (48, false)), (.ar 50 .neq (.t 49) (.v (.int .i64 2)))⟩,
    ⟨none, (.pick 51 (.t 48) (.v (.bool true)) (.t 50))⟩,
    ⟨none, (.mv (some 52) (.t 51))⟩,
    ⟨(some (52, false)), (.mv (some 53) (.t 8))⟩,
    ⟨(some (52, false)), (.ar 54 .neq (.t 53) (.v (.int .i64 3)))⟩,
    ⟨none, (.pick 55 (.t 52) (.v (.bool true)) (.t 54))⟩,
    ⟨none, (.mv (some 56) (.t 55))⟩,
    ⟨(some (56, false)), (.mv (some 57) (.t 11))⟩,
    ⟨(some (56, false)), (.ar 58 .neq (.t 57) (.v (.int .i64 0)))⟩,
    ⟨none, (.pick 59 (.t 56) (.v (.bool true)) (.t 58))⟩,
    ⟨none, (.mv (some 60) (.t 59))⟩,
    ⟨(some (60, false)), (.mv (some 61) (.t 13))⟩,
    ⟨(some (60, false)), (.ar 62 .neq (.t 61) (.v (.int .i64 0)))⟩,
    ⟨none, (.pick 63 (.t 60) (.v (.bool true)) (.t 62))⟩])
  (.cond (.t 63)
    (.seq (.reg [⟨none, (.mv (some 0) (.v (.bool false)))⟩])
  .ret)
    .skip))
  (.seq (.seq (.reg [⟨none, (.mv (some 64) (.t 1))⟩,
    ⟨none, (.bd 65 36 [(.int .i64 0), (.int .i64 0)] [0, 1] [(.v (.int .i64 1)), (.v (.int .i64 5))])⟩,
    ⟨none, (.bs 66 36 (some 36) [(.t 65)])⟩,
    ⟨none, (.ca (some 67) 18 [(.t 64), (.t 66)])⟩,
    ⟨none, (.un 68 .not (.t 67))⟩,
    ⟨none, (.mv (some 69) (.t 68))⟩,
    ⟨(some (69, false)), (.mv (some 70) (.t 3))⟩,
    ⟨(some (69, false)), (.bd 71 36 [(.int .i64 0), (.int .i64 0)] [0, 1] [(.v (.int .i64 1)), (.v (.int .i64 1))])⟩,
    ⟨(some (69, false)), (.bd 72 36 [(.int .i64 0), (.int .i64 0)] [0] [(.v (.int .i64 7))])⟩,
    ⟨(some (69, false)), (.bs 73 36 (some 36) [(.t 71), (.t 72)])⟩,
    ⟨(some (69, false)), (.ca (some 74) 18 [(.t 70), (.t 73)])⟩,
    ⟨(some (69, false)), (.un 75 .not (.t 74))⟩,
    ⟨none, (.pick 76 (.t 69) (.v (.bool true)) (.t 75))⟩,
    ⟨none, (.mv (some 77) (.t 76))⟩,
    ⟨(some (77, false)), (.mv (some 78) (.t 3))⟩,
    ⟨(some (77, false)), (.ca (some 79) 14 [(.t 78)])⟩,
    ⟨(some (77, false)), (.ar 80 .neq (.t 79) (.v (.str [49, 44, 32, 55, 45])))⟩,
    ⟨none, (.pick 81 (.t 77) (.v (.bool true)) (.t 80))⟩])
  (.cond (.t 81)
    (.seq (.reg [⟨none, (.mv (some 0) (.v (.bool false)))⟩])
  .ret)
    .skip))
  (.seq (.seq (.reg [⟨none, (.mv (some 82) (.t 10))⟩,
    ⟨none, (.bd 83 36 [(.int .i64 0), (.int .i64 0)] [0, 1] [(.v (.int .i64 7)), (.v (.int .i64 8))])⟩,
    ⟨none, (.bd 84 36 [(.int .i64 0), (.int .i64 0)] [0] [(.v (.int .i64 11))])⟩,
    ⟨none, (.bs 85 36 (some 36) [(.t 83), (.t 84)])⟩,
    ⟨none, (.ca (some 86) 18 [(.t 82), (.t 85)])⟩,
    ⟨none, (.un 87 .not (.t 86))⟩,
    ⟨none, (.mv (some 88) (.t 87))⟩,
    ⟨(some (88, false)), (.mv (some 89) (.t 12))⟩,
    ⟨(some (88, false)), (.bd 90 36 [(.int .i64 0), (.int .i64 0)] [0, 1] [(.v (.int .i64 7)), (.v (.int .i64 8))])⟩,
    ⟨(some (88, false)), (.bs 91 36 (some 36) [(.t 90)])⟩,
    ⟨(some (88, false)), (.ca (some 92) 18 [(.t 89), (.t 91)])⟩,
    ⟨(some (88, false)), (.un 93 .not (.t 92))⟩,
    ⟨none, (.pick 94 (.t 88) (.v (.bool true)) (.t 93))⟩,
    ⟨none, (.mv (some 95) (.t 94))⟩,
    ⟨(some (95, false)), (.mv (some 96) (.t 9))⟩,
    ⟨(some (95, false)), (.ca (some 97) 21 [(.t 96), (.v (.int .i64 20000))])⟩,
    ⟨(some (95, false)), (.ar 98 .neq (.t 97) (.v (.int .i64 9993)))⟩,
    ⟨none, (.pick 99 (.t 95) (.v (.bool true)) (.t 98))⟩])
  (.cond (.t 99)
    (.seq (.reg [⟨none, (.mv (some 0) (.v (.bool false)))⟩])
  .ret)
    .skip))
  (.seq (.reg [⟨none, (.bd 100 36 [(.int .i64 0), (.int .i64 0)] [0, 1] [(.v (.int .i64 1)), (.v (.int .i64 2))])⟩,
    ⟨none, (.bd 101 36 [(.int .i64 0), (.int .i64 0)] [0, 1] [(.v (.int .i64 5)), (.v (.int .i64 6))])⟩,
    ⟨none, (.bs 102 36 (some 36) [(.t 100), (.t 101)])⟩,
    ⟨none, (.ca (some 103) 23 [(.t 102)])⟩,
    ⟨none, (.bd 104 36 [(.int .i64 0), (.int .i64 0)] [0, 1] [(.v (.int .i64 3)), (.v (.int .i64 4))])⟩,
    ⟨none, (.bs 105 36 (some 36) [(.t 104)])⟩,
    ⟨none, (.ca (some 106) 18 [(.t 103), (.t 105)])⟩,
    ⟨none, (.mv (some 107) (.t 106))⟩,
    ⟨(some (107, true)), (.mv (some 108) (.t 9))⟩,
    ⟨(some (107, true)), (.ca (some 109) 19 [(.t 108), (.v (.int .i64 7))])⟩,
    ⟨none, (.pick 110 (.t 107) (.t 109) (.v (.bool false)))⟩,
    ⟨none, (.mv (some 111) (.t 110))⟩,
    ⟨(some (111, true)), (.mv (some 112) (.t 9))⟩,
    ⟨(some (111, true)), (.ca (some 113) 12 [(.t 112)])⟩,
    ⟨none, (.pick 114 (.t 111) (.t 113) (.v (.bool false)))⟩,
    ⟨none, (.mv (some 0) (.t 114))⟩])
  .ret))))))))))))
noncomputable def ent11 : TEnt := ⟨11, [], .bool, fun _ => F11, .plain⟩
theorem eq11 (x : dens ent11.as) : ent11.F x = evF [ent12, ent14, ent16, ent18, ent19, ent21, ent23, ent27] SHF dc11 [(.tmp 0)] ent11.as ent11.rs x := by kernel_rfl
/-- library/librarylaw17.HoldingRights -/
noncomputable def F3 (a0 : List (Int × Int)) : Option (Bool) :=
  cond (decide ((60 : Int) < (List.length a0 : Int)))
    (bindO (F11) fun y1 =>
    some y1)
    (bindO (F12 a0) fun y2 =>
    bindO (F13 a0) fun y3 =>
    cond ((y2 == y3))
      (bindO (F14 a0) fun y4 =>
      bindO (F15 a0) fun y5 =>
      cond (decide (y4 = y5))
        (bindO (F11) fun y6 =>
        some y6)
        (some false))
      (some false))
def dc3 : DC :=
  (.seq (.reg [⟨none, (.mv (some 2) (.v (.bool false)))⟩])
  (.seq (.seq (.reg [⟨none, (.mv (some 3) (.t 0))⟩,
    ⟨none, (.ln 4 (some 36) (.t 3))⟩,
    ⟨none, (.ar 5 .gtr (.t 4) (.v (.int .i64 60)))⟩])
  (.cond (.t 5)
    (.seq (.reg [⟨none, (.ca (some 6) 11 [])⟩,
    ⟨none, (.mv (some 2) (.t 6))⟩])
  .ret)
    .skip))
  (.seq (.reg [⟨none, (.mv (some 7) (.t 0))⟩,
    ⟨none, (.ca (some 8) 12 [(.t 7)])⟩,
    ⟨none, (.mv (some 9) (.t 0))⟩,
    ⟨none, (.ca (some 10) 13 [(.t 9)])⟩,
    ⟨none, (.eb 11 false (.t 8) (.t 10))⟩,
    ⟨none, (.mv (some 12) (.t 11))⟩,
    ⟨(some (12, true)), (.mv (some 13) (.t 0))⟩,
    ⟨(some (12, true)), (.ca (some 14) 14 [(.t 13)])⟩,
    ⟨(some (12, true)), (.mv (some 15) (.t 0))⟩,
    ⟨(some (12, true)), (.ca (some 16) 15 [(.t 15)])⟩,
    ⟨(some (12, true)), (.ar 17 .eql (.t 14) (.t 16))⟩,
    ⟨none, (.pick 18 (.t 12) (.t 17) (.v (.bool false)))⟩,
    ⟨none, (.mv (some 19) (.t 18))⟩,
    ⟨(some (19, true)), (.ca (some 20) 11 [])⟩,
    ⟨none, (.pick 21 (.t 19) (.t 20) (.v (.bool false)))⟩,
    ⟨none, (.mv (some 2) (.t 21))⟩])
  .ret)))
noncomputable def ent3 : TEnt := ⟨3, [(.sl 36 (.agg 36 (.pair (.int .i64) (.int .i64))))], .bool, fun x => F3 x, .plain⟩
theorem eq3 (x : dens ent3.as) : ent3.F x = evF [ent11, ent12, ent13, ent14, ent15] SHF dc3 [(.tmp 2)] ent3.as ent3.rs x := by kernel_rfl
/-- library/librarylaw17.HoldingParses -/
noncomputable def F4 (a0 : List UInt8) : Option (Bool) :=
  cond (decide ((1000 : Int) < (List.length a0 : Int)))
    (bindO (F11) fun y1 =>
    some y1)
    (bindO (F16 a0) fun y2 =>
    bindO (F17 a0) fun y3 =>
    bindO (F18 y2.1 y3.1) fun y4 =>
    cond (y4)
      (cond (decide (y2.2 = y3.2))
        (bindO (F11) fun y5 =>
        some y5)
        (some false))
      (some false))
def dc4 : DC :=
  (.seq (.reg [⟨none, (.mv (some 2) (.v (.bool false)))⟩])
  (.seq (.seq (.reg [⟨none, (.mv (some 7) (.t 0))⟩,
    ⟨none, (.ln 8 none (.t 7))⟩,
    ⟨none, (.ar 9 .gtr (.t 8) (.v (.int .i64 1000)))⟩])
  (.cond (.t 9)
    (.seq (.reg [⟨none, (.ca (some 10) 11 [])⟩,
    ⟨none, (.mv (some 2) (.t 10))⟩])
  .ret)
    .skip))
  (.seq (.reg [⟨none, (.mv (some 12) (.t 0))⟩,
    ⟨none, (.ca (some 13) 16 [(.t 12)])⟩,
    ⟨none, (.mv (some 11) (.t 13))⟩,
    ⟨none, (.ex 14 0 (.t 11))⟩,
    ⟨none, (.ex 15 1 (.t 11))⟩,
    ⟨none, (.mv (some 3) (.t 14))⟩,
    ⟨none, (.mv (some 4) (.t 15))⟩])
  (.seq (.reg [⟨none, (.mv (some 17) (.t 0))⟩,
    ⟨none, (.ca (some 18) 17 [(.t 17)])⟩,
    ⟨none, (.mv (some 16) (.t 18))⟩,
    ⟨none, (.ex 19 0 (.t 16))⟩,
    ⟨none, (.ex 20 1 (.t 16))⟩,
    ⟨none, (.mv (some 5) (.t 19))⟩,
    ⟨none, (.mv (some 6) (.t 20))⟩])
  (.seq (.reg [⟨none, (.mv (some 21) (.t 3))⟩,
    ⟨none, (.mv (some 22) (.t 5))⟩,
    ⟨none, (.ca (some 23) 18 [(.t 21), (.t 22)])⟩,
    ⟨none, (.mv (some 24) (.t 23))⟩,
    ⟨(some (24, true)), (.mv (some 25) (.t 4))⟩,
    ⟨(some (24, true)), (.mv (some 26) (.t 6))⟩,
    ⟨(some (24, true)), (.ar 27 .eql (.t 25) (.t 26))⟩,
    ⟨none, (.pick 28 (.t 24) (.t 27) (.v (.bool false)))⟩,
    ⟨none, (.mv (some 29) (.t 28))⟩,
    ⟨(some (29, true)), (.ca (some 30) 11 [])⟩,
    ⟨none, (.pick 31 (.t 29) (.t 30) (.v (.bool false)))⟩,
    ⟨none, (.mv (some 2) (.t 31))⟩])
  .ret)))))
noncomputable def ent4 : TEnt := ⟨4, [.str], .bool, fun x => F4 x, .plain⟩
theorem eq4 (x : dens ent4.as) : ent4.F x = evF [ent11, ent16, ent17, ent18] SHF dc4 [(.tmp 2)] ent4.as ent4.rs x := by kernel_rfl
/-- library/librarylaw17.HoldingAsks -/
noncomputable def F5 (a0 : List (Int × Int)) (a1 : Int) : Option (Bool) :=
  cond (decide ((60 : Int) < (List.length a0 : Int)))
    (bindO (F11) fun y1 =>
    some y1)
    (bindO (F19 a0 a1) fun y2 =>
    bindO (F20 a0 a1) fun y3 =>
    cond ((y2 == y3))
      (bindO (F21 a0 a1) fun y4 =>
      bindO (F22 a0 a1) fun y5 =>
      cond (decide (y4 = y5))
        (bindO (F23 a0) fun y6 =>
        bindO (F24 a0) fun y7 =>
        bindO (F18 y6 y7) fun y8 =>
        cond (y8)
          (bindO (F11) fun y9 =>
          some y9)
          (some false))
        (some false))
      (some false))
def dc5 : DC :=
  (.seq (.reg [⟨none, (.mv (some 4) (.v (.bool false)))⟩])
  (.seq (.seq (.reg [⟨none, (.mv (some 5) (.t 0))⟩,
    ⟨none, (.ln 6 (some 36) (.t 5))⟩,
    ⟨none, (.ar 7 .gtr (.t 6) (.v (.int .i64 60)))⟩])
  (.cond (.t 7)
    (.seq (.reg [⟨none, (.ca (some 8) 11 [])⟩,
    ⟨none, (.mv (some 4) (.t 8))⟩])
  .ret)
    .skip))
  (.seq (.reg [⟨none, (.mv (some 9) (.t 0))⟩,
    ⟨none, (.mv (some 10) (.t 1))⟩,
    ⟨none, (.ca (some 11) 19 [(.t 9), (.t 10)])⟩,
    ⟨none, (.mv (some 12) (.t 0))⟩,
    ⟨none, (.mv (some 13) (.t 1))⟩,
    ⟨none, (.ca (some 14) 20 [(.t 12), (.t 13)])⟩,
    ⟨none, (.eb 15 false (.t 11) (.t 14))⟩,
    ⟨none, (.mv (some 16) (.t 15))⟩,
    ⟨(some (16, true)), (.mv (some 17) (.t 0))⟩,
    ⟨(some (16, true)), (.mv (some 18) (.t 1))⟩,
    ⟨(some (16, true)), (.ca (some 19) 21 [(.t 17), (.t 18)])⟩,
    ⟨(some (16, true)), (.mv (some 20) (.t 0))⟩,
    ⟨(some (16, true)), (.mv (some 21) (.t 1))⟩,
    ⟨(some (16, true)), (.ca (some 22) 22 [(.t 20), (.t 21)])⟩,
    ⟨(some (16, true)), (.ar 23 .eql (.t 19) (.t 22))⟩,
    ⟨none, (.pick 24 (.t 16) (.t 23) (.v (.bool false)))⟩,
    ⟨none, (.mv (some 25) (.t 24))⟩,
    ⟨(some (25, true)), (.mv (some 26) (.t 0))⟩,
    ⟨(some (25, true)), (.ca (some 27) 23 [(.t 26)])⟩,
    ⟨(some (25, true)), (.mv (some 28) (.t 0))⟩,
    ⟨(some (25, true)), (.ca (some 29) 24 [(.t 28)])⟩,
    ⟨(some (25, true)), (.ca (some 30) 18 [(.t 27), (.t 29)])⟩,
    ⟨none, (.pick 31 (.t 25) (.t 30) (.v (.bool false)))⟩,
    ⟨none, (.mv (some 32) (.t 31))⟩,
    ⟨(some (32, true)), (.ca (some 33) 11 [])⟩,
    ⟨none, (.pick 34 (.t 32) (.t 33) (.v (.bool false)))⟩,
    ⟨none, (.mv (some 4) (.t 34))⟩])
  .ret)))
noncomputable def ent5 : TEnt := ⟨5, [(.sl 36 (.agg 36 (.pair (.int .i64) (.int .i64)))), (.int .i64)], .bool, fun x => F5 x.1 x.2, .plain⟩
theorem eq5 (x : dens ent5.as) : ent5.F x = evF [ent11, ent18, ent19, ent20, ent21, ent22, ent23, ent24] SHF dc5 [(.tmp 4)] ent5.as ent5.rs x := by kernel_rfl
/-- library/librarylaw17.HoldingRestores -/
noncomputable def F6 (a0 : List (Int × Int)) (a1 : List UInt8) : Option (Bool) :=
  cond (decide ((60 : Int) < (List.length a0 : Int)))
    (bindO (F11) fun y1 =>
    some y1)
    (cond (decide ((1000 : Int) < (List.length a1 : Int)))
      (bindO (F11) fun y2 =>
      some y2)
      (jn (σ := Unit) (fun nextj3 =>
        bindO (F12 a0) fun y4 =>
        cond (y4)
          (bindO (F14 a0) fun y5 =>
          bindO (F16 y5) fun y6 =>
          cond (!decide (y6.2 = (0 : Int)))
            (some false)
            (bindO (F18 a0 y6.1) fun y7 =>
            cond (!y7)
              (some false)
              (nextj3 ())))
          (nextj3 ())) fun j3 =>
      bindO (F16 a1) fun y8 =>
      cond (!decide (y8.2 = (0 : Int)))
        (bindO (F11) fun y9 =>
        some y9)
        (bindO (F12 y8.1) fun y10 =>
        cond (y10)
          (bindO (F11) fun y11 =>
          some y11)
          (some false))))
def dc6 : DC :=
  (.seq (.reg [⟨none, (.mv (some 4) (.v (.bool false)))⟩])
  (.seq (.seq (.reg [⟨none, (.mv (some 9) (.t 0))⟩,
    ⟨none, (.ln 10 (some 36) (.t 9))⟩,
    ⟨none, (.ar 11 .gtr (.t 10) (.v (.int .i64 60)))⟩,
    ⟨none, (.mv (some 12) (.t 11))⟩,
    ⟨(some (12, false)), (.mv (some 13) (.t 1))⟩,
    ⟨(some (12, false)), (.ln 14 none (.t 13))⟩,
    ⟨(some (12, false)), (.ar 15 .gtr (.t 14) (.v (.int .i64 1000)))⟩,
    ⟨none, (.pick 16 (.t 12) (.v (.bool true)) (.t 15))⟩])
  (.cond (.t 16)
    (.seq (.reg [⟨none, (.ca (some 17) 11 [])⟩,
    ⟨none, (.mv (some 4) (.t 17))⟩])
  .ret)
    .skip))
  (.jn ⟨[], [], [5, 6, 18, 19, 20, 21, 22, 23, 24, 25, 26, 27, 28, 29, 30, 31, 32, 33].map .s⟩ (.seq (.reg [⟨none, (.mv (some 18) (.t 0))⟩,
    ⟨none, (.ca (some 19) 12 [(.t 18)])⟩])
  (.cond (.t 19)
    (.seq (.reg [⟨none, (.mv (some 21) (.t 0))⟩,
    ⟨none, (.ca (some 22) 14 [(.t 21)])⟩,
    ⟨none, (.ca (some 23) 16 [(.t 22)])⟩,
    ⟨none, (.mv (some 20) (.t 23))⟩,
    ⟨none, (.ex 24 0 (.t 20))⟩,
    ⟨none, (.ex 25 1 (.t 20))⟩,
    ⟨none, (.mv (some 5) (.t 24))⟩,
    ⟨none, (.mv (some 6) (.t 25))⟩])
  (.seq (.reg [⟨none, (.mv (some 26) (.t 6))⟩,
    ⟨none, (.ar 27 .neq (.t 26) (.v (.int .i64 0)))⟩,
    ⟨none, (.mv (some 28) (.t 27))⟩,
    ⟨(some (28, false)), (.mv (some 29) (.t 0))⟩,
    ⟨(some (28, false)), (.mv (some 30) (.t 5))⟩,
    ⟨(some (28, false)), (.ca (some 31) 18 [(.t 29), (.t 30)])⟩,
    ⟨(some (28, false)), (.un 32 .not (.t 31))⟩,
    ⟨none, (.pick 33 (.t 28) (.v (.bool true)) (.t 32))⟩])
  (.cond (.t 33)
    (.seq (.reg [⟨none, (.mv (some 4) (.v (.bool false)))⟩])
  .ret)
    .skip)))
    .skip))
  (.seq (.reg [⟨none, (.mv (some 35) (.t 1))⟩,
    ⟨none, (.ca (some 36) 16 [(.t 35)])⟩,
    ⟨none, (.mv (some 34) (.t 36))⟩,
    ⟨none, (.ex 37 0 (.t 34))⟩,
    ⟨none, (.ex 38 1 (.t 34))⟩,
    ⟨none, (.mv (some 7) (.t 37))⟩,
    ⟨none, (.mv (some 8) (.t 38))⟩])
  (.seq (.reg [⟨none, (.mv (some 39) (.t 8))⟩,
    ⟨none, (.ar 40 .neq (.t 39) (.v (.int .i64 0)))⟩,
    ⟨none, (.mv (some 41) (.t 40))⟩,
    ⟨(some (41, false)), (.mv (some 42) (.t 7))⟩,
    ⟨(some (41, false)), (.ca (some 43) 12 [(.t 42)])⟩,
    ⟨none, (.pick 44 (.t 41) (.v (.bool true)) (.t 43))⟩,
    ⟨none, (.mv (some 45) (.t 44))⟩,
    ⟨(some (45, true)), (.ca (some 46) 11 [])⟩,
    ⟨none, (.pick 47 (.t 45) (.t 46) (.v (.bool false)))⟩,
    ⟨none, (.mv (some 4) (.t 47))⟩])
  .ret)))))
noncomputable def ent6 : TEnt := ⟨6, [(.sl 36 (.agg 36 (.pair (.int .i64) (.int .i64)))), .str], .bool, fun x => F6 x.1 x.2, .plain⟩
theorem eq6 (x : dens ent6.as) : ent6.F x = evF [ent11, ent12, ent14, ent16, ent18] SHF dc6 [(.tmp 4)] ent6.as ent6.rs x := by kernel_rfl
/-- library/librarylaw17.HoldingCounts -/
noncomputable def F7 (a0 : List (Int × Int)) (a1 : Int) : Option (Bool) :=
  cond (decide ((32 : Int) < (List.length a0 : Int)))
    (bindO (F11) fun y1 =>
    some y1)
    (bindO (F12 a0) fun y2 =>
    cond (!y2)
      (bindO (F11) fun y3 =>
      some y3)
      (jn (σ := Unit) (fun nextj4 =>
        jn (σ := Bool) (fun nextj5 =>
          cond (decide ((1 : Int) ≤ a1))
            (nextj5 (decide (a1 ≤ (9999 : Int))))
            (nextj5 false)) fun j5 =>
        cond (j5)
          (jn (σ := Int) (fun nextj6 =>
            bindO (F19 a0 a1) fun y7 =>
            cond (y7)
              (nextj6 (1 : Int))
              (nextj6 (0 : Int))) fun j6 =>
          bindO (F21 a0 a1) fun y8 =>
          bnd (IntKind.wrap .i64 (a1 - (1 : Int))) fun x9 =>
          bindO (F21 a0 x9) fun y10 =>
          bnd (IntKind.wrap .i64 (y8 - y10)) fun x11 =>
          cond (!decide (x11 = j6))
            (some false)
            (nextj4 ()))
          (nextj4 ())) fun j4 =>
      bindO (F23 a0) fun y12 =>
      loopK (σ := Int) (fun p13 againp13 =>
        cond (decide (p13 < (List.length y12 : Int)))
          (gd (0 ≤ p13 ∧ p13 < (List.length y12 : Int)) <|
          cond (decide ((List.getD y12 (Int.toNat p13) (0, 0)).1 < (2 : Int)))
            (some false)
            (cond (decide ((List.getD y12 (Int.toNat p13) (0, 0)).2 < (List.getD y12 (Int.toNat p13) (0, 0)).1))
              (some false)
              (cond (decide ((9999 : Int) ≤ (List.getD y12 (Int.toNat p13) (0, 0)).2))
                (some false)
                (bindO (F19 a0 ((List.getD y12 (Int.toNat p13) (0, 0)).1)) fun y14 =>
                cond (y14)
                  (some false)
                  (bindO (F19 a0 ((List.getD y12 (Int.toNat p13) (0, 0)).2)) fun y15 =>
                  cond (y15)
                    (some false)
                    (bnd (IntKind.wrap .i64 ((List.getD y12 (Int.toNat p13) (0, 0)).1 - (1 : Int))) fun x16 =>
                    bindO (F19 a0 x16) fun y17 =>
                    cond (!y17)
                      (some false)
                      (bnd (IntKind.wrap .i64 ((List.getD y12 (Int.toNat p13) (0, 0)).2 + (1 : Int))) fun x18 =>
                      bindO (F19 a0 x18) fun y19 =>
                      cond (!y19)
                        (some false)
                        (bnd (IntKind.wrap .i64 (p13 + (1 : Int))) fun x20 =>
                        againp13 x20))))))))
          (bindO (F11) fun y21 =>
          some y21)) (0 : Int)))
def dc7 : DC :=
  (.seq (.reg [⟨none, (.mv (some 4) (.v (.bool false)))⟩])
  (.seq (.seq (.reg [⟨none, (.mv (some 8) (.t 0))⟩,
    ⟨none, (.ln 9 (some 36) (.t 8))⟩,
    ⟨none, (.ar 10 .gtr (.t 9) (.v (.int .i64 32)))⟩,
    ⟨none, (.mv (some 11) (.t 10))⟩,
    ⟨(some (11, false)), (.mv (some 12) (.t 0))⟩,
    ⟨(some (11, false)), (.ca (some 13) 12 [(.t 12)])⟩,
    ⟨(some (11, false)), (.un 14 .not (.t 13))⟩,
    ⟨none, (.pick 15 (.t 11) (.v (.bool true)) (.t 14))⟩])
  (.cond (.t 15)
    (.seq (.reg [⟨none, (.ca (some 16) 11 [])⟩,
    ⟨none, (.mv (some 4) (.t 16))⟩])
  .ret)
    .skip))
  (.jn ⟨[], [], [5, 17, 18, 19, 20, 21, 22, 23, 24, 25, 26, 27, 28, 29, 30, 31, 32, 33, 34, 35].map .s⟩ (.jn ⟨[(22, (.lf .bool))], [], [17, 18, 19, 20, 21].map .s⟩ (.reg [⟨none, (.mv (some 17) (.t 1))⟩,
    ⟨none, (.ar 18 .geq (.t 17) (.v (.int .i64 1)))⟩,
    ⟨none, (.mv (some 19) (.t 18))⟩,
    ⟨(some (19, true)), (.mv (some 20) (.t 1))⟩,
    ⟨(some (19, true)), (.ar 21 .leq (.t 20) (.v (.int .i64 9999)))⟩,
    ⟨none, (.pick 22 (.t 19) (.t 21) (.v (.bool false)))⟩])
  (.cond (.t 22)
    (.seq (.reg [⟨none, (.mv (some 5) (.v (.int .i64 0)))⟩])
  (.jn ⟨[(5, (.lf (.int .i64)))], [], [23, 24, 25].map .s⟩ (.seq (.reg [⟨none, (.mv (some 23) (.t 0))⟩,
    ⟨none, (.mv (some 24) (.t 1))⟩,
    ⟨none, (.ca (some 25) 19 [(.t 23), (.t 24)])⟩])
  (.cond (.t 25)
    (.reg [⟨none, (.mv (some 5) (.v (.int .i64 1)))⟩])
    .skip))
  (.seq (.reg [⟨none, (.mv (some 26) (.t 0))⟩,
    ⟨none, (.mv (some 27) (.t 1))⟩,
    ⟨none, (.ca (some 28) 21 [(.t 26), (.t 27)])⟩,
    ⟨none, (.mv (some 29) (.t 0))⟩,
    ⟨none, (.mv (some 30) (.t 1))⟩,
    ⟨none, (.ar 31 .sub (.t 30) (.v (.int .i64 1)))⟩,
    ⟨none, (.ca (some 32) 21 [(.t 29), (.t 31)])⟩,
    ⟨none, (.ar 33 .sub (.t 28) (.t 32))⟩,
    ⟨none, (.mv (some 34) (.t 5))⟩,
    ⟨none, (.ar 35 .neq (.t 33) (.t 34))⟩])
  (.cond (.t 35)
    (.seq (.reg [⟨none, (.mv (some 4) (.v (.bool false)))⟩])
  .ret)
    .skip))))
    .skip))
  (.seq (.seq (.reg [⟨none, (.mv (some 36) (.t 0))⟩,
    ⟨none, (.ca (some 37) 23 [(.t 36)])⟩,
    ⟨none, (.ln 38 (some 36) (.t 37))⟩,
    ⟨none, (.mv (some 39) (.v (.int .i64 0)))⟩])
  (.block 0 (.loop ⟨[(39, (.lf (.int .i64)))], [], [4, 7, 40, 41, 42, 43, 44, 45, 46, 47, 48, 49, 50, 51, 52, 53, 54, 55, 56, 57, 58, 59, 60, 61, 62, 63, 64, 65, 66, 67, 68, 69, 70, 71, 72, 73, 74, 75, 76, 77, 78, 79, 80, 81, 82, 83, 84, 85, 86].map .s ++ [7].map .b⟩ (.seq (.reg [⟨none, (.ar 40 .lss (.t 39) (.t 38))⟩])
  (.seq (.cond (.t 40)
    .skip
    (.exit 0))
  (.seq (.block 1 (.seq (.reg [⟨none, (.ea 41 36 (.t 37) (.t 39))⟩,
    ⟨none, (.ld 42 (some 36) (.t 41))⟩,
    ⟨none, (.al 7 (.agg 36 [(.int .i64 0), (.int .i64 0)]))⟩,
    ⟨none, (.st (some 36) (.t 7) (.t 42))⟩])
  (.seq (.reg [⟨none, (.fa 43 36 0 (.t 7))⟩,
    ⟨none, (.ld 44 none (.t 43))⟩,
    ⟨none, (.ar 45 .lss (.t 44) (.v (.int .i64 2)))⟩,
    ⟨none, (.mv (some 46) (.t 45))⟩,
    ⟨(some (46, false)), (.fa 47 36 1 (.t 7))⟩,
    ⟨(some (46, false)), (.ld 48 none (.t 47))⟩,
    ⟨(some (46, false)), (.fa 49 36 0 (.t 7))⟩,
    ⟨(some (46, false)), (.ld 50 none (.t 49))⟩,
    ⟨(some (46, false)), (.ar 51 .lss (.t 48) (.t 50))⟩,
    ⟨none, (.pick 52 (.t 46) (.v (.bool true)) (.t 51))⟩,
    ⟨none, (.mv (some 53) (.t 52))⟩,
    ⟨(some (53, false)), (.fa 54 36 1 (.t 7))⟩,
    ⟨(some (53, false)), (.ld 55 none (.t 54))⟩,
    ⟨(some (53, false)), (.ar 56 .geq (.t 55) (.v (.int .i64 9999)))⟩,
    ⟨none, (.pick 57 (.t 53) (.v (.bool true)) (.t 56))⟩,
    ⟨none, (.mv (some 58) (.t 57))⟩,
    ⟨(some (58, false)), (.mv (some 59) (.t 0))⟩,
    ⟨(some (58, false)), (.fa 60 36 0 (.t 7))⟩,
    ⟨(some (58, false)), (.ld 61 none (.t 60))⟩,
    ⟨(some (58, false)), (.ca (some 62) 19 [(.t 59), (.t 61)])⟩,
    ⟨none, (.pick 63 (.t 58) (.v (.bool true)) (.t 62))⟩,
    ⟨none, (.mv (some 64) (.t 63))⟩,
    ⟨(some (64, false)), (.mv (some 65) (.t 0))⟩,
    ⟨(some (64, false)), (.fa 66 36 1 (.t 7))⟩,
    ⟨(some (64, false)), (.ld 67 none (.t 66))⟩,
    ⟨(some (64, false)), (.ca (some 68) 19 [(.t 65), (.t 67)])⟩,
    ⟨none, (.pick 69 (.t 64) (.v (.bool true)) (.t 68))⟩,
    ⟨none, (.mv (some 70) (.t 69))⟩,
    ⟨(some (70, false)), (.mv (some 71) (.t 0))⟩,
    ⟨(some (70, false)), (.fa 72 36 0 (.t 7))⟩,
    ⟨(some (70, false)), (.ld 73 none (.t 72))⟩,
    ⟨(some (70, false)), (.ar 74 .sub (.t 73) (.v (.int .i64 1)))⟩,
    ⟨(some (70, false)), (.ca (some 75) 19 [(.t 71), (.t 74)])⟩,
    ⟨(some (70, false)), (.un 76 .not (.t 75))⟩,
    ⟨none, (.pick 77 (.t 70) (.v (.bool true)) (.t 76))⟩,
    ⟨none, (.mv (some 78) (.t 77))⟩,
    ⟨(some (78, false)), (.mv (some 79) (.t 0))⟩,
    ⟨(some (78, false)), (.fa 80 36 1 (.t 7))⟩,
    ⟨(some (78, false)), (.ld 81 none (.t 80))⟩,
    ⟨(some (78, false)), (.ar 82 .add (.t 81) (.v (.int .i64 1)))⟩,
    ⟨(some (78, false)), (.ca (some 83) 19 [(.t 79), (.t 82)])⟩,
    ⟨(some (78, false)), (.un 84 .not (.t 83))⟩,
    ⟨none, (.pick 85 (.t 78) (.v (.bool true)) (.t 84))⟩])
  (.cond (.t 85)
    (.seq (.reg [⟨none, (.mv (some 4) (.v (.bool false)))⟩])
  .ret)
    .skip))))
  (.reg [⟨none, (.ar 86 .add (.t 39) (.v (.int .i64 1)))⟩,
    ⟨none, (.mv (some 39) (.t 86))⟩])))))))
  (.seq (.reg [⟨none, (.ca (some 87) 11 [])⟩,
    ⟨none, (.mv (some 4) (.t 87))⟩])
  .ret)))))
noncomputable def ent7 : TEnt := ⟨7, [(.sl 36 (.agg 36 (.pair (.int .i64) (.int .i64)))), (.int .i64)], .bool, fun x => F7 x.1 x.2, .plain⟩
theorem eq7 (x : dens ent7.as) : ent7.F x = evF [ent11, ent12, ent19, ent21, ent23] SHF dc7 [(.tmp 4)] ent7.as ent7.rs x := by kernel_rfl
/-- library/librarylaw17.HoldingChanges -/
noncomputable def F8 (a0 : List (Int × Int)) (a1 : Int) (a2 : Int) : Option (Bool) :=
  cond (decide ((60 : Int) < (List.length a0 : Int)))
    (bindO (F11) fun y1 =>
    some y1)
    (bindO (F25 a0 a1 a2) fun y2 =>
    bindO (F26 a0 a1 a2) fun y3 =>
    bindO (F27 a0 a1 a2) fun y4 =>
    bindO (F28 a0 a1 a2) fun y5 =>
    bindO (F18 y2.1 y3.1) fun y6 =>
    cond (y6)
      (cond (decide (y2.2 = y3.2))
        (bindO (F18 y4.1 y5.1) fun y7 =>
        cond (y7)
          (cond (decide (y4.2 = y5.2))
            (bindO (F11) fun y8 =>
            some y8)
            (some false))
          (some false))
        (some false))
      (some false))
def dc8 : DC :=
  (.seq (.reg [⟨none, (.mv (some 6) (.v (.bool false)))⟩])
  (.seq (.seq (.reg [⟨none, (.mv (some 15) (.t 0))⟩,
    ⟨none, (.ln 16 (some 36) (.t 15))⟩,
    ⟨none, (.ar 17 .gtr (.t 16) (.v (.int .i64 60)))⟩])
  (.cond (.t 17)
    (.seq (.reg [⟨none, (.ca (some 18) 11 [])⟩,
    ⟨none, (.mv (some 6) (.t 18))⟩])
  .ret)
    .skip))
  (.seq (.reg [⟨none, (.mv (some 20) (.t 0))⟩,
    ⟨none, (.mv (some 21) (.t 1))⟩,
    ⟨none, (.mv (some 22) (.t 2))⟩,
    ⟨none, (.ca (some 23) 25 [(.t 20), (.t 21), (.t 22)])⟩,
    ⟨none, (.mv (some 19) (.t 23))⟩,
    ⟨none, (.ex 24 0 (.t 19))⟩,
    ⟨none, (.ex 25 1 (.t 19))⟩,
    ⟨none, (.mv (some 7) (.t 24))⟩,
    ⟨none, (.mv (some 8) (.t 25))⟩])
  (.seq (.reg [⟨none, (.mv (some 27) (.t 0))⟩,
    ⟨none, (.mv (some 28) (.t 1))⟩,
    ⟨none, (.mv (some 29) (.t 2))⟩,
    ⟨none, (.ca (some 30) 26 [(.t 27), (.t 28), (.t 29)])⟩,
    ⟨none, (.mv (some 26) (.t 30))⟩,
    ⟨none, (.ex 31 0 (.t 26))⟩,
    ⟨none, (.ex 32 1 (.t 26))⟩,
    ⟨none, (.mv (some 9) (.t 31))⟩,
    ⟨none, (.mv (some 10) (.t 32))⟩])
  (.seq (.reg [⟨none, (.mv (some 34) (.t 0))⟩,
    ⟨none, (.mv (some 35) (.t 1))⟩,
    ⟨none, (.mv (some 36) (.t 2))⟩,
    ⟨none, (.ca (some 37) 27 [(.t 34), (.t 35), (.t 36)])⟩,
    ⟨none, (.mv (some 33) (.t 37))⟩,
    ⟨none, (.ex 38 0 (.t 33))⟩,
    ⟨none, (.ex 39 1 (.t 33))⟩,
    ⟨none, (.mv (some 11) (.t 38))⟩,
    ⟨none, (.mv (some 12) (.t 39))⟩])
  (.seq (.reg [⟨none, (.mv (some 41) (.t 0))⟩,
    ⟨none, (.mv (some 42) (.t 1))⟩,
    ⟨none, (.mv (some 43) (.t 2))⟩,
    ⟨none, (.ca (some 44) 28 [(.t 41), (.t 42), (.t 43)])⟩,
    ⟨none, (.mv (some 40) (.t 44))⟩,
    ⟨none, (.ex 45 0 (.t 40))⟩,
    ⟨none, (.ex 46 1 (.t 40))⟩,
    ⟨none, (.mv (some 13) (.t 45))⟩,
    ⟨none, (.mv (some 14) (.t 46))⟩])
  (.seq (.reg [⟨none, (.mv (some 47) (.t 7))⟩,
    ⟨none, (.mv (some 48) (.t 9))⟩,
    ⟨none, (.ca (some 49) 18 [(.t 47), (.t 48)])⟩,
    ⟨none, (.mv (some 50) (.t 49))⟩,
    ⟨(some (50, true)), (.mv (some 51) (.t 8))⟩,
    ⟨(some (50, true)), (.mv (some 52) (.t 10))⟩,
    ⟨(some (50, true)), (.ar 53 .eql (.t 51) (.t 52))⟩,
    ⟨none, (.pick 54 (.t 50) (.t 53) (.v (.bool false)))⟩,
    ⟨none, (.mv (some 55) (.t 54))⟩,
    ⟨(some (55, true)), (.mv (some 56) (.t 11))⟩,
    ⟨(some (55, true)), (.mv (some 57) (.t 13))⟩,
    ⟨(some (55, true)), (.ca (some 58) 18 [(.t 56), (.t 57)])⟩,
    ⟨none, (.pick 59 (.t 55) (.t 58) (.v (.bool false)))⟩,
    ⟨none, (.mv (some 60) (.t 59))⟩,
    ⟨(some (60, true)), (.mv (some 61) (.t 12))⟩,
    ⟨(some (60, true)), (.mv (some 62) (.t 14))⟩,
    ⟨(some (60, true)), (.ar 63 .eql (.t 61) (.t 62))⟩,
    ⟨none, (.pick 64 (.t 60) (.t 63) (.v (.bool false)))⟩,
    ⟨none, (.mv (some 65) (.t 64))⟩,
    ⟨(some (65, true)), (.ca (some 66) 11 [])⟩,
    ⟨none, (.pick 67 (.t 65) (.t 66) (.v (.bool false)))⟩,
    ⟨none, (.mv (some 6) (.t 67))⟩])
  .ret)))))))
noncomputable def ent8 : TEnt := ⟨8, [(.sl 36 (.agg 36 (.pair (.int .i64) (.int .i64)))), (.int .i64), (.int .i64)], .bool, fun x => F8 x.1 x.2.1 x.2.2, .plain⟩
theorem eq8 (x : dens ent8.as) : ent8.F x = evF [ent11, ent18, ent25, ent26, ent27, ent28] SHF dc8 [(.tmp 6)] ent8.as ent8.rs x := by kernel_rfl
/-- library/librarylaw17.HoldingUnions -/
noncomputable def F9 (a0 : List (Int × Int)) (a1 : List (Int × Int)) : Option (Bool) :=
  cond (decide ((60 : Int) < (List.length a0 : Int)))
    (bindO (F11) fun y1 =>
    some y1)
    (cond (decide ((60 : Int) < (List.length a1 : Int)))
      (bindO (F11) fun y2 =>
      some y2)
      (bindO (F29 a0 a1) fun y3 =>
      bindO (F30 a0 a1) fun y4 =>
      bindO (F18 y3.1 y4.1) fun y5 =>
      cond (y5)
        (cond (decide (y3.2 = y4.2))
          (bindO (F11) fun y6 =>
          some y6)
          (some false))
        (some false)))
def dc9 : DC :=
  (.seq (.reg [⟨none, (.mv (some 4) (.v (.bool false)))⟩])
  (.seq (.seq (.reg [⟨none, (.mv (some 9) (.t 0))⟩,
    ⟨none, (.ln 10 (some 36) (.t 9))⟩,
    ⟨none, (.ar 11 .gtr (.t 10) (.v (.int .i64 60)))⟩,
    ⟨none, (.mv (some 12) (.t 11))⟩,
    ⟨(some (12, false)), (.mv (some 13) (.t 1))⟩,
    ⟨(some (12, false)), (.ln 14 (some 36) (.t 13))⟩,
    ⟨(some (12, false)), (.ar 15 .gtr (.t 14) (.v (.int .i64 60)))⟩,
    ⟨none, (.pick 16 (.t 12) (.v (.bool true)) (.t 15))⟩])
  (.cond (.t 16)
    (.seq (.reg [⟨none, (.ca (some 17) 11 [])⟩,
    ⟨none, (.mv (some 4) (.t 17))⟩])
  .ret)
    .skip))
  (.seq (.reg [⟨none, (.mv (some 19) (.t 0))⟩,
    ⟨none, (.mv (some 20) (.t 1))⟩,
    ⟨none, (.ca (some 21) 29 [(.t 19), (.t 20)])⟩,
    ⟨none, (.mv (some 18) (.t 21))⟩,
    ⟨none, (.ex 22 0 (.t 18))⟩,
    ⟨none, (.ex 23 1 (.t 18))⟩,
    ⟨none, (.mv (some 5) (.t 22))⟩,
    ⟨none, (.mv (some 6) (.t 23))⟩])
  (.seq (.reg [⟨none, (.mv (some 25) (.t 0))⟩,
    ⟨none, (.mv (some 26) (.t 1))⟩,
    ⟨none, (.ca (some 27) 30 [(.t 25), (.t 26)])⟩,
    ⟨none, (.mv (some 24) (.t 27))⟩,
    ⟨none, (.ex 28 0 (.t 24))⟩,
    ⟨none, (.ex 29 1 (.t 24))⟩,
    ⟨none, (.mv (some 7) (.t 28))⟩,
    ⟨none, (.mv (some 8) (.t 29))⟩])
  (.seq (.reg [⟨none, (.mv (some 30) (.t 5))⟩,
    ⟨none, (.mv (some 31) (.t 7))⟩,
    ⟨none, (.ca (some 32) 18 [(.t 30), (.t 31)])⟩,
    ⟨none, (.mv (some 33) (.t 32))⟩,
    ⟨(some (33, true)), (.mv (some 34) (.t 6))⟩,
    ⟨(some (33, true)), (.mv (some 35) (.t 8))⟩,
    ⟨(some (33, true)), (.ar 36 .eql (.t 34) (.t 35))⟩,
    ⟨none, (.pick 37 (.t 33) (.t 36) (.v (.bool false)))⟩,
    ⟨none, (.mv (some 38) (.t 37))⟩,
    ⟨(some (38, true)), (.ca (some 39) 11 [])⟩,
    ⟨none, (.pick 40 (.t 38) (.t 39) (.v (.bool false)))⟩,
    ⟨none, (.mv (some 4) (.t 40))⟩])
  .ret)))))
noncomputable def ent9 : TEnt := ⟨9, [(.sl 36 (.agg 36 (.pair (.int .i64) (.int .i64)))), (.sl 36 (.agg 36 (.pair (.int .i64) (.int .i64))))], .bool, fun x => F9 x.1 x.2, .plain⟩
theorem eq9 (x : dens ent9.as) : ent9.F x = evF [ent11, ent18, ent29, ent30] SHF dc9 [(.tmp 4)] ent9.as ent9.rs x := by kernel_rfl
/-- library/librarylaw17.HoldingCovers -/
noncomputable def F10 (a0 : List (Int × Int)) (a1 : List (Int × Int)) (a2 : List (Int)) : Option (Bool) :=
  cond (decide ((32 : Int) < (List.length a0 : Int)))
    (bindO (F11) fun y1 =>
    some y1)
    (cond (decide ((32 : Int) < (List.length a1 : Int)))
      (bindO (F11) fun y2 =>
      some y2)
      (bindO (F12 a0) fun y3 =>
      cond (!y3)
        (bindO (F11) fun y4 =>
        some y4)
        (bindO (F12 a1) fun y5 =>
        cond (!y5)
          (bindO (F11) fun y6 =>
          some y6)
          (gd (0 ≤ (0 : Int) ∧ (0 : Int) < (List.length a2 : Int)) <|
          gd ((Int.toNat (0 : Int)) < List.length a2) <|
          gd (0 ≤ (1 : Int) ∧ (1 : Int) < (List.length a2 : Int)) <|
          gd ((Int.toNat (1 : Int)) < List.length a2) <|
          bindO (F31 (List.getD a2 (Int.toNat (0 : Int)) 0) (List.getD a2 (Int.toNat (1 : Int)) 0)) fun y7 =>
          cond (!y7)
            (bindO (F11) fun y8 =>
            some y8)
            (gd (0 ≤ (2 : Int) ∧ (2 : Int) < (List.length a2 : Int)) <|
            gd ((Int.toNat (2 : Int)) < List.length a2) <|
            jn (σ := Bool × Bool) (fun nextj9 =>
              bindO (F19 a0 (List.getD a2 (Int.toNat (2 : Int)) 0)) fun y10 =>
              gd (0 ≤ (0 : Int) ∧ (0 : Int) < (List.length a2 : Int)) <|
              gd ((Int.toNat (0 : Int)) < List.length a2) <|
              cond (decide ((List.getD a2 (Int.toNat (0 : Int)) 0) ≤ (List.getD a2 (Int.toNat (2 : Int)) 0)))
                (cond (decide ((List.getD a2 (Int.toNat (2 : Int)) 0) ≤ (9999 : Int)))
                  (gd (0 ≤ (1 : Int) ∧ (1 : Int) < (List.length a2 : Int)) <|
                  gd ((Int.toNat (1 : Int)) < List.length a2) <|
                  cond (decide ((List.getD a2 (Int.toNat (1 : Int)) 0) = (0 : Int)))
                    (nextj9 (y10, true))
                    (gd (0 ≤ (1 : Int) ∧ (1 : Int) < (List.length a2 : Int)) <|
                    gd ((Int.toNat (1 : Int)) < List.length a2) <|
                    nextj9 (y10, decide ((List.getD a2 (Int.toNat (2 : Int)) 0) ≤ (List.getD a2 (Int.toNat (1 : Int)) 0)))))
                  (nextj9 (y10, false)))
                (nextj9 (y10, false))) fun j9 =>
            gd (0 ≤ (0 : Int) ∧ (0 : Int) < (List.length a2 : Int)) <|
            gd ((Int.toNat (0 : Int)) < List.length a2) <|
            gd (0 ≤ (1 : Int) ∧ (1 : Int) < (List.length a2 : Int)) <|
            gd ((Int.toNat (1 : Int)) < List.length a2) <|
            bindO (F25 a0 (List.getD a2 (Int.toNat (0 : Int)) 0) (List.getD a2 (Int.toNat (1 : Int)) 0)) fun y11 =>
            jn (σ := Unit) (fun nextj12 =>
              cond (decide (y11.2 = (0 : Int)))
                (bindO (F12 y11.1) fun y13 =>
                cond (!y13)
                  (some false)
                  (bindO (F19 y11.1 (List.getD a2 (Int.toNat (2 : Int)) 0)) fun y14 =>
                  cond (j9.1)
                    (cond (!(y14 == true))
                      (some false)
                      (nextj12 ()))
                    (cond (!(y14 == j9.2))
                      (some false)
                      (nextj12 ()))))
                (nextj12 ())) fun j12 =>
            gd (0 ≤ (0 : Int) ∧ (0 : Int) < (List.length a2 : Int)) <|
            gd ((Int.toNat (0 : Int)) < List.length a2) <|
            gd (0 ≤ (1 : Int) ∧ (1 : Int) < (List.length a2 : Int)) <|
            gd ((Int.toNat (1 : Int)) < List.length a2) <|
            bindO (F27 a0 (List.getD a2 (Int.toNat (0 : Int)) 0) (List.getD a2 (Int.toNat (1 : Int)) 0)) fun y15 =>
            jn (σ := Unit) (fun nextj16 =>
              cond (decide (y15.2 = (0 : Int)))
                (bindO (F12 y15.1) fun y17 =>
                cond (!y17)
                  (some false)
                  (bindO (F19 y15.1 (List.getD a2 (Int.toNat (2 : Int)) 0)) fun y18 =>
                  cond (j9.1)
                    (cond (!(y18 == (!j9.2)))
                      (some false)
                      (nextj16 ()))
                    (cond (!(y18 == false))
                      (some false)
                      (nextj16 ()))))
                (nextj16 ())) fun j16 =>
            bindO (F29 a0 a1) fun y19 =>
            cond (decide (y19.2 = (0 : Int)))
              (bindO (F12 y19.1) fun y20 =>
              cond (!y20)
                (some false)
                (bindO (F19 y19.1 (List.getD a2 (Int.toNat (2 : Int)) 0)) fun y21 =>
                cond (j9.1)
                  (cond (!(y21 == true))
                    (some false)
                    (bindO (F11) fun y22 =>
                    some y22))
                  (bindO (F19 a1 (List.getD a2 (Int.toNat (2 : Int)) 0)) fun y23 =>
                  cond (!(y21 == y23))
                    (some false)
                    (bindO (F11) fun y24 =>
                    some y24))))
              (bindO (F11) fun y25 =>
              some y25))))))
def dc10 : DC :=
  (.seq (.reg [⟨none, (.bx 5 (some 40) (.t 2))⟩,
    ⟨none, (.mv (some 6) (.v (.bool false)))⟩])
  (.seq (.seq (.reg [⟨none, (.mv (some 14) (.t 0))⟩,
    ⟨none, (.ln 15 (some 36) (.t 14))⟩,
    ⟨none, (.ar 16 .gtr (.t 15) (.v (.int .i64 32)))⟩,
    ⟨none, (.mv (some 17) (.t 16))⟩,
    ⟨(some (17, false)), (.mv (some 18) (.t 1))⟩,
    ⟨(some (17, false)), (.ln 19 (some 36) (.t 18))⟩,
    ⟨(some (17, false)), (.ar 20 .gtr (.t 19) (.v (.int .i64 32)))⟩,
    ⟨none, (.pick 21 (.t 17) (.v (.bool true)) (.t 20))⟩,
    ⟨none, (.mv (some 22) (.t 21))⟩,
    ⟨(some (22, false)), (.mv (some 23) (.t 0))⟩,
    ⟨(some (22, false)), (.ca (some 24) 12 [(.t 23)])⟩,
    ⟨(some (22, false)), (.un 25 .not (.t 24))⟩,
    ⟨none, (.pick 26 (.t 22) (.v (.bool true)) (.t 25))⟩,
    ⟨none, (.mv (some 27) (.t 26))⟩,
    ⟨(some (27, false)), (.mv (some 28) (.t 1))⟩,
    ⟨(some (27, false)), (.ca (some 29) 12 [(.t 28)])⟩,
    ⟨(some (27, false)), (.un 30 .not (.t 29))⟩,
    ⟨none, (.pick 31 (.t 27) (.v (.bool true)) (.t 30))⟩,
    ⟨none, (.mv (some 32) (.t 31))⟩,
    ⟨(some (32, false)), (.aa 33 40 (.t 5) (.v (.int .i64 0)))⟩,
    ⟨(some (32, false)), (.ld 34 none (.t 33))⟩,
    ⟨(some (32, false)), (.aa 35 40 (.t 5) (.v (.int .i64 1)))⟩,
    ⟨(some (32, false)), (.ld 36 none (.t 35))⟩,
    ⟨(some (32, false)), (.ca (some 37) 31 [(.t 34), (.t 36)])⟩,
    ⟨(some (32, false)), (.un 38 .not (.t 37))⟩,
    ⟨none, (.pick 39 (.t 32) (.v (.bool true)) (.t 38))⟩])
  (.cond (.t 39)
    (.seq (.reg [⟨none, (.ca (some 40) 11 [])⟩,
    ⟨none, (.mv (some 6) (.t 40))⟩])
  .ret)
    .skip))
  (.seq (.reg [⟨none, (.aa 41 40 (.t 5) (.v (.int .i64 2)))⟩,
    ⟨none, (.ld 42 none (.t 41))⟩,
    ⟨none, (.mv (some 7) (.t 42))⟩])
  (.jn ⟨[(8, (.lf .bool)), (9, (.lf .bool))], [], [43, 44, 45, 46, 47, 48, 49, 50, 51, 52, 53, 54, 55, 56, 57, 58, 59, 60, 61, 62, 63, 64].map .s⟩ (.reg [⟨none, (.mv (some 43) (.t 0))⟩,
    ⟨none, (.mv (some 44) (.t 7))⟩,
    ⟨none, (.ca (some 45) 19 [(.t 43), (.t 44)])⟩,
    ⟨none, (.mv (some 46) (.t 7))⟩,
    ⟨none, (.aa 47 40 (.t 5) (.v (.int .i64 0)))⟩,
    ⟨none, (.ld 48 none (.t 47))⟩,
    ⟨none, (.ar 49 .geq (.t 46) (.t 48))⟩,
    ⟨none, (.mv (some 50) (.t 49))⟩,
    ⟨(some (50, true)), (.mv (some 51) (.t 7))⟩,
    ⟨(some (50, true)), (.ar 52 .leq (.t 51) (.v (.int .i64 9999)))⟩,
    ⟨none, (.pick 53 (.t 50) (.t 52) (.v (.bool false)))⟩,
    ⟨none, (.mv (some 54) (.t 53))⟩,
    ⟨(some (54, true)), (.aa 55 40 (.t 5) (.v (.int .i64 1)))⟩,
    ⟨(some (54, true)), (.ld 56 none (.t 55))⟩,
    ⟨(some (54, true)), (.ar 57 .eql (.t 56) (.v (.int .i64 0)))⟩,
    ⟨(some (54, true)), (.mv (some 58) (.t 57))⟩,
    ⟨(some (58, false)), (.mv (some 59) (.t 7))⟩,
    ⟨(some (58, false)), (.aa 60 40 (.t 5) (.v (.int .i64 1)))⟩,
    ⟨(some (58, false)), (.ld 61 none (.t 60))⟩,
    ⟨(some (58, false)), (.ar 62 .leq (.t 59) (.t 61))⟩,
    ⟨(some (54, true)), (.pick 63 (.t 58) (.v (.bool true)) (.t 62))⟩,
    ⟨none, (.pick 64 (.t 54) (.t 63) (.v (.bool false)))⟩,
    ⟨none, (.mv (some 8) (.t 45))⟩,
    ⟨none, (.mv (some 9) (.t 64))⟩])
  (.seq (.reg [⟨none, (.mv (some 66) (.t 0))⟩,
    ⟨none, (.aa 67 40 (.t 5) (.v (.int .i64 0)))⟩,
    ⟨none, (.ld 68 none (.t 67))⟩,
    ⟨none, (.aa 69 40 (.t 5) (.v (.int .i64 1)))⟩,
    ⟨none, (.ld 70 none (.t 69))⟩,
    ⟨none, (.ca (some 71) 25 [(.t 66), (.t 68), (.t 70)])⟩,
    ⟨none, (.mv (some 65) (.t 71))⟩,
    ⟨none, (.ex 72 0 (.t 65))⟩,
    ⟨none, (.ex 73 1 (.t 65))⟩,
    ⟨none, (.mv (some 10) (.t 72))⟩,
    ⟨none, (.mv (some 11) (.t 73))⟩])
  (.jn ⟨[], [], [74, 75, 76, 77, 78, 79, 80, 81, 82, 83, 84, 85, 86, 87, 88, 89, 90].map .s⟩ (.seq (.reg [⟨none, (.mv (some 74) (.t 11))⟩,
    ⟨none, (.ar 75 .eql (.t 74) (.v (.int .i64 0)))⟩,
    ⟨none, (.mv (some 76) (.t 75))⟩,
    ⟨(some (76, true)), (.mv (some 77) (.t 10))⟩,
    ⟨(some (76, true)), (.ca (some 78) 12 [(.t 77)])⟩,
    ⟨(some (76, true)), (.un 79 .not (.t 78))⟩,
    ⟨(some (76, true)), (.mv (some 80) (.t 79))⟩,
    ⟨(some (80, false)), (.mv (some 81) (.t 10))⟩,
    ⟨(some (80, false)), (.mv (some 82) (.t 7))⟩,
    ⟨(some (80, false)), (.ca (some 83) 19 [(.t 81), (.t 82)])⟩,
    ⟨(some (80, false)), (.mv (some 84) (.t 8))⟩,
    ⟨(some (80, false)), (.mv (some 85) (.t 84))⟩,
    ⟨(some (85, false)), (.mv (some 86) (.t 9))⟩,
    ⟨(some (80, false)), (.pick 87 (.t 85) (.v (.bool true)) (.t 86))⟩,
    ⟨(some (80, false)), (.eb 88 true (.t 83) (.t 87))⟩,
    ⟨(some (76, true)), (.pick 89 (.t 80) (.v (.bool true)) (.t 88))⟩,
    ⟨none, (.pick 90 (.t 76) (.t 89) (.v (.bool false)))⟩])
  (.cond (.t 90)
    (.seq (.reg [⟨none, (.mv (some 6) (.v (.bool false)))⟩])
  .ret)
    .skip))
  (.seq (.reg [⟨none, (.mv (some 92) (.t 0))⟩,
    ⟨none, (.aa 93 40 (.t 5) (.v (.int .i64 0)))⟩,
    ⟨none, (.ld 94 none (.t 93))⟩,
    ⟨none, (.aa 95 40 (.t 5) (.v (.int .i64 1)))⟩,
    ⟨none, (.ld 96 none (.t 95))⟩,
    ⟨none, (.ca (some 97) 27 [(.t 92), (.t 94), (.t 96)])⟩,
    ⟨none, (.mv (some 91) (.t 97))⟩,
    ⟨none, (.ex 98 0 (.t 91))⟩,
    ⟨none, (.ex 99 1 (.t 91))⟩,
    ⟨none, (.mv (some 12) (.t 98))⟩,
    ⟨none, (.mv (some 11) (.t 99))⟩])
  (.jn ⟨[], [], [100, 101, 102, 103, 104, 105, 106, 107, 108, 109, 110, 111, 112, 113, 114, 115, 116, 117].map .s⟩ (.seq (.reg [⟨none, (.mv (some 100) (.t 11))⟩,
    ⟨none, (.ar 101 .eql (.t 100) (.v (.int .i64 0)))⟩,
    ⟨none, (.mv (some 102) (.t 101))⟩,
    ⟨(some (102, true)), (.mv (some 103) (.t 12))⟩,
    ⟨(some (102, true)), (.ca (some 104) 12 [(.t 103)])⟩,
    ⟨(some (102, true)), (.un 105 .not (.t 104))⟩,
    ⟨(some (102, true)), (.mv (some 106) (.t 105))⟩,
    ⟨(some (106, false)), (.mv (some 107) (.t 12))⟩,
    ⟨(some (106, false)), (.mv (some 108) (.t 7))⟩,
    ⟨(some (106, false)), (.ca (some 109) 19 [(.t 107), (.t 108)])⟩,
    ⟨(some (106, false)), (.mv (some 110) (.t 8))⟩,
    ⟨(some (106, false)), (.mv (some 111) (.t 110))⟩,
    ⟨(some (111, true)), (.mv (some 112) (.t 9))⟩,
    ⟨(some (111, true)), (.un 113 .not (.t 112))⟩,
    ⟨(some (106, false)), (.pick 114 (.t 111) (.t 113) (.v (.bool false)))⟩,
    ⟨(some (106, false)), (.eb 115 true (.t 109) (.t 114))⟩,
    ⟨(some (102, true)), (.pick 116 (.t 106) (.v (.bool true)) (.t 115))⟩,
    ⟨none, (.pick 117 (.t 102) (.t 116) (.v (.bool false)))⟩])
  (.cond (.t 117)
    (.seq (.reg [⟨none, (.mv (some 6) (.v (.bool false)))⟩])
  .ret)
    .skip))
  (.seq (.reg [⟨none, (.mv (some 119) (.t 0))⟩,
    ⟨none, (.mv (some 120) (.t 1))⟩,
    ⟨none, (.ca (some 121) 29 [(.t 119), (.t 120)])⟩,
    ⟨none, (.mv (some 118) (.t 121))⟩,
    ⟨none, (.ex 122 0 (.t 118))⟩,
    ⟨none, (.ex 123 1 (.t 118))⟩,
    ⟨none, (.mv (some 13) (.t 122))⟩,
    ⟨none, (.mv (some 11) (.t 123))⟩])
  (.seq (.seq (.reg [⟨none, (.mv (some 124) (.t 11))⟩,
    ⟨none, (.ar 125 .eql (.t 124) (.v (.int .i64 0)))⟩,
    ⟨none, (.mv (some 126) (.t 125))⟩,
    ⟨(some (126, true)), (.mv (some 127) (.t 13))⟩,
    ⟨(some (126, true)), (.ca (some 128) 12 [(.t 127)])⟩,
    ⟨(some (126, true)), (.un 129 .not (.t 128))⟩,
    ⟨(some (126, true)), (.mv (some 130) (.t 129))⟩,
    ⟨(some (130, false)), (.mv (some 131) (.t 13))⟩,
    ⟨(some (130, false)), (.mv (some 132) (.t 7))⟩,
    ⟨(some (130, false)), (.ca (some 133) 19 [(.t 131), (.t 132)])⟩,
    ⟨(some (130, false)), (.mv (some 134) (.t 8))⟩,
    ⟨(some (130, false)), (.mv (some 135) (.t 134))⟩,
    ⟨(some (135, false)), (.mv (some 136) (.t 1))⟩,
    ⟨(some (135, false)), (.mv (some 137) (.t 7))⟩,
    ⟨(some (135, false)), (.ca (some 138) 19 [(.t 136), (.t 137)])⟩,
    ⟨(some (130, false)), (.pick 139 (.t 135) (.v (.bool true)) (.t 138))⟩,
    ⟨(some (130, false)), (.eb 140 true (.t 133) (.t 139))⟩,
    ⟨(some (126, true)), (.pick 141 (.t 130) (.v (.bool true)) (.t 140))⟩,
    ⟨none, (.pick 142 (.t 126) (.t 141) (.v (.bool false)))⟩])
  (.cond (.t 142)
    (.seq (.reg [⟨none, (.mv (some 6) (.v (.bool false)))⟩])
  .ret)
    .skip))
  (.seq (.reg [⟨none, (.ca (some 143) 11 [])⟩,
    ⟨none, (.mv (some 6) (.t 143))⟩])
  .ret)))))))))))
noncomputable def ent10 : TEnt := ⟨10, [(.sl 36 (.agg 36 (.pair (.int .i64) (.int .i64)))), (.sl 36 (.agg 36 (.pair (.int .i64) (.int .i64)))), (.arr 40 (.int .i64))], .bool, fun x => F10 x.1 x.2.1 x.2.2, .plain⟩
theorem eq10 (x : dens ent10.as) : ent10.F x = evF [ent11, ent12, ent19, ent25, ent27, ent29, ent31] SHF dc10 [(.tmp 6)] ent10.as ent10.rs x := by kernel_rfl
theorem mixedF : Tryd.prog.follows .mixedOrders = true := by kernel_rfl
section
variable {G : World → Prop} (hG : Keeps G)
include hG in
theorem ok32 : TEnt.Ok Tryd.prog G ent32 :=
  ent_ok hG mixedF (fn := Tryd.f32) (d := dc32) (crs := [(.tmp 2)]) (hint := []) (TT := []) (SH := SHF) rfl rfl (by kernel_rfl) (by decide) rfl trivial eq32
include hG in
theorem ok12 (h32 : TEnt.Ok Tryd.prog G ent32) : TEnt.Ok Tryd.prog G ent12 :=
  ent_ok hG mixedF (fn := Tryd.f12) (d := dc12) (crs := [(.tmp 2)]) (hint := []) (TT := [ent32]) (SH := SHF) rfl rfl (by kernel_rfl) (by decide) rfl ⟨h32, trivial⟩ eq12
include hG in
theorem ok13 : TEnt.Ok Tryd.prog G ent13 :=
  ent_ok hG mixedF (fn := Tryd.f13) (d := dc13) (crs := [(.tmp 2)]) (hint := []) (TT := []) (SH := SHF) rfl rfl (by kernel_rfl) (by decide) rfl trivial eq13
include hG in
theorem ok31 : TEnt.Ok Tryd.prog G ent31 :=
  ent_ok hG mixedF (fn := Tryd.f31) (d := dc31) (crs := [(.tmp 4)]) (hint := []) (TT := []) (SH := SHF) rfl rfl (by kernel_rfl) (by decide) rfl trivial eq31
include hG in
theorem ok45 : TEnt.Ok Tryd.prog G ent45 :=
  ent_ok hG mixedF (fn := Tryd.f45) (d := dc45) (crs := [(.tmp 2)]) (hint := []) (TT := []) (SH := SHF) rfl rfl (by kernel_rfl) (by decide) rfl trivial eq45
include hG in
theorem ok63 : TEnt.Ok Tryd.prog G ent63 :=
  ent_ok hG mixedF (fn := Tryd.f63) (d := dc63) (crs := [(.tmp 4)]) (hint := []) (TT := []) (SH := SHF) rfl rfl (by kernel_rfl) (by decide) rfl trivial eq63
include hG in
theorem ok79 : TEnt.Ok Tryd.prog G ent79 :=
  ent_ok hG mixedF (fn := Tryd.f79) (d := dc79) (crs := [(.tmp 2), (.tmp 3)]) (hint := []) (TT := []) (SH := SHF) rfl rfl (by kernel_rfl) (by decide) rfl trivial eq79
include hG in
theorem ok65 : TEnt.Ok Tryd.prog G ent65 :=
  ent_ok hG mixedF (fn := Tryd.f65) (d := dc65) (crs := [(.tmp 2)]) (hint := []) (TT := []) (SH := SHF) rfl rfl (by kernel_rfl) (by decide) rfl trivial eq65
include hG in
theorem ok64 (h63 : TEnt.Ok Tryd.prog G ent63) (h79 : TEnt.Ok Tryd.prog G ent79) : TEnt.Ok Tryd.prog G ent64 :=
  ent_ok hG mixedF (fn := Tryd.f64) (d := dc64) (crs := [(.cell 2 (some 60)), (.tmp 3)]) (hint := []) (TT := [ent63, ent79]) (SH := SHF) rfl rfl (by kernel_rfl) (by decide) rfl ⟨h63, h79, trivial⟩ eq64
include hG in
theorem ok43 : TEnt.Ok Tryd.prog G ent43 :=
  ent_ok hG mixedF (fn := Tryd.f43) (d := dc43) (crs := [(.tmp 4)]) (hint := []) (TT := []) (SH := SHF) rfl rfl (by kernel_rfl) (by decide) rfl trivial eq43
include hG in
theorem ok42 (h63 : TEnt.Ok Tryd.prog G ent63) (h64 : TEnt.Ok Tryd.prog G ent64) (h65 : TEnt.Ok Tryd.prog G ent65) : TEnt.Ok Tryd.prog G ent42 :=
  ent_ok hG mixedF (fn := Tryd.f42) (d := dc42) (crs := [(.tmp 2), (.tmp 3)]) (hint := []) (TT := [ent63, ent64, ent65]) (SH := SHF) rfl rfl (by kernel_rfl) (by decide) rfl ⟨h63, h64, h65, trivial⟩ eq42
include hG in
theorem ok44 : TEnt.Ok Tryd.prog G ent44 :=
  ent_ok hG mixedF (fn := Tryd.f44) (d := dc44) (crs := [(.tmp 2), (.tmp 3)]) (hint := []) (TT := []) (SH := SHF) rfl rfl (by kernel_rfl) (by decide) rfl trivial eq44
include hG in
theorem ok17 (h42 : TEnt.Ok Tryd.prog G ent42) (h43 : TEnt.Ok Tryd.prog G ent43) (h44 : TEnt.Ok Tryd.prog G ent44) : TEnt.Ok Tryd.prog G ent17 :=
  ent_ok hG mixedF (fn := Tryd.f17) (d := dc17) (crs := [(.tmp 2), (.tmp 3)]) (hint := []) (TT := [ent42, ent43, ent44]) (SH := SHF) rfl rfl (by kernel_rfl) (by decide) rfl ⟨h42, h43, h44, trivial⟩ eq17
include hG in
theorem ok18 : TEnt.Ok Tryd.prog G ent18 :=
  ent_ok hG mixedF (fn := Tryd.f18) (d := dc18) (crs := [(.tmp 4)]) (hint := []) (TT := []) (SH := SHF) rfl rfl (by kernel_rfl) (by decide) rfl trivial eq18
include hG in
theorem ok35 : TEnt.Ok Tryd.prog G ent35 :=
  ent_ok hG mixedF (fn := Tryd.f35) (d := dc35) (crs := [(.tmp 2)]) (hint := []) (TT := []) (SH := SHF) rfl rfl (by kernel_rfl) (by decide) rfl trivial eq35
include hG in
theorem ok15 (h13 : TEnt.Ok Tryd.prog G ent13) (h35 : TEnt.Ok Tryd.prog G ent35) : TEnt.Ok Tryd.prog G ent15 :=
  ent_ok hG mixedF (fn := Tryd.f15) (d := dc15) (crs := [(.tmp 2)]) (hint := []) (TT := [ent13, ent35]) (SH := SHF) rfl rfl (by kernel_rfl) (by decide) rfl ⟨h13, h35, trivial⟩ eq15
include hG in
theorem ok14 (h12 : TEnt.Ok Tryd.prog G ent12) (h33 : TEnt.Ok Tryd.prog G entItoa) (h34 : TEnt.Ok Tryd.prog G entJoin) : TEnt.Ok Tryd.prog G ent14 :=
  ent_ok hG mixedF (fn := Tryd.f14) (d := dc14) (crs := [(.tmp 2)]) (hint := []) (TT := [ent12, entItoa, entJoin]) (SH := SHF) rfl rfl (by kernel_rfl) (by decide) rfl ⟨h12, h33, h34, trivial⟩ eq14
include hG in
theorem ok39 (h38 : TEnt.Ok Tryd.prog G entTrim) (h62 : TEnt.Ok Tryd.prog G entAtoi) : TEnt.Ok Tryd.prog G ent39 :=
  ent_ok hG mixedF (fn := Tryd.f39) (d := dc39) (crs := [(.tmp 2), (.tmp 3)]) (hint := []) (TT := [entTrim, entAtoi]) (SH := SHF) rfl rfl (by kernel_rfl) (by decide) rfl ⟨h38, h62, trivial⟩ eq39
theorem ok48 : TEnt.Ok Tryd.prog G ent48 :=
  ent_okL mixedF (fn := Tryd.f48) (d := dc48) (crs := []) (hint := []) (TT := []) (SH := SHF) rfl rfl (by kernel_rfl) (by decide) rfl rfl rfl trivial eq48
include hG in
theorem ok40 (h48 : TEnt.Ok Tryd.prog G ent48) : TEnt.Ok Tryd.prog G ent40 :=
  ent_okN hG mixedF (fn := Tryd.f40) (d := dc40) (crs := [(.tmp 2)]) (hint := []) (TT := [ent48]) (SH := SHF) rfl rfl (by kernel_rfl) (by decide) rfl ⟨h48, trivial⟩ eq40
theorem ok41 : TEnt.Ok Tryd.prog G ent41 :=
  ent_okL mixedF (fn := Tryd.f41) (d := dc41) (crs := [(.tmp 2), (.tmp 3)]) (hint := [(11, 5000004), (5000011, 4)]) (TT := []) (SH := SHF) rfl rfl (by kernel_rfl) (by decide) rfl rfl rfl trivial eq41
include hG in
theorem ok46 (h12 : TEnt.Ok Tryd.prog G ent12) (h32 : TEnt.Ok Tryd.prog G ent32) (h40 : TEnt.Ok Tryd.prog G ent40) (h41 : TEnt.Ok Tryd.prog G ent41) (h48 : TEnt.Ok Tryd.prog G ent48) : TEnt.Ok Tryd.prog G ent46 :=
  ent_ok hG mixedF (fn := Tryd.f46) (d := dc46) (crs := [(.tmp 8), (.tmp 9)]) (hint := []) (TT := [ent12, ent32, ent40, ent41, ent48]) (SH := SHF) rfl rfl (by kernel_rfl) (by decide) rfl ⟨h12, h32, h40, h41, h48, trivial⟩ eq46
include hG in
theorem ok16 (h32 : TEnt.Ok Tryd.prog G ent32) (h36 : TEnt.Ok Tryd.prog G entSplit) (h37 : TEnt.Ok Tryd.prog G entCut) (h38 : TEnt.Ok Tryd.prog G entTrim) (h39 : TEnt.Ok Tryd.prog G ent39) (h40 : TEnt.Ok Tryd.prog G ent40) (h41 : TEnt.Ok Tryd.prog G ent41) : TEnt.Ok Tryd.prog G ent16 :=
  ent_ok hG mixedF (fn := Tryd.f16) (d := dc16) (crs := [(.tmp 2), (.tmp 3)]) (hint := []) (TT := [ent32, entSplit, entCut, entTrim, ent39, ent40, ent41]) (SH := SHF) rfl rfl (by kernel_rfl) (by decide) rfl ⟨h32, h36, h37, h38, h39, h40, h41, trivial⟩ eq16
include hG in
theorem ok19 (h12 : TEnt.Ok Tryd.prog G ent12) (h32 : TEnt.Ok Tryd.prog G ent32) : TEnt.Ok Tryd.prog G ent19 :=
  ent_ok hG mixedF (fn := Tryd.f19) (d := dc19) (crs := [(.tmp 4)]) (hint := []) (TT := [ent12, ent32]) (SH := SHF) rfl rfl (by kernel_rfl) (by decide) rfl ⟨h12, h32, trivial⟩ eq19
include hG in
theorem ok20 (h13 : TEnt.Ok Tryd.prog G ent13) (h45 : TEnt.Ok Tryd.prog G ent45) : TEnt.Ok Tryd.prog G ent20 :=
  ent_ok hG mixedF (fn := Tryd.f20) (d := dc20) (crs := [(.tmp 4)]) (hint := []) (TT := [ent13, ent45]) (SH := SHF) rfl rfl (by kernel_rfl) (by decide) rfl ⟨h13, h45, trivial⟩ eq20
include hG in
theorem ok21 (h12 : TEnt.Ok Tryd.prog G ent12) : TEnt.Ok Tryd.prog G ent21 :=
  ent_ok hG mixedF (fn := Tryd.f21) (d := dc21) (crs := [(.tmp 4)]) (hint := []) (TT := [ent12]) (SH := SHF) rfl rfl (by kernel_rfl) (by decide) rfl ⟨h12, trivial⟩ eq21
include hG in
theorem ok22 (h13 : TEnt.Ok Tryd.prog G ent13) (h45 : TEnt.Ok Tryd.prog G ent45) : TEnt.Ok Tryd.prog G ent22 :=
  ent_ok hG mixedF (fn := Tryd.f22) (d := dc22) (crs := [(.tmp 4)]) (hint := []) (TT := [ent13, ent45]) (SH := SHF) rfl rfl (by kernel_rfl) (by decide) rfl ⟨h13, h45, trivial⟩ eq22
include hG in
theorem ok23 (h12 : TEnt.Ok Tryd.prog G ent12) : TEnt.Ok Tryd.prog G ent23 :=
  ent_ok hG mixedF (fn := Tryd.f23) (d := dc23) (crs := [(.tmp 2)]) (hint := []) (TT := [ent12]) (SH := SHF) rfl rfl (by kernel_rfl) (by decide) rfl ⟨h12, trivial⟩ eq23
include hG in
theorem ok24 (h13 : TEnt.Ok Tryd.prog G ent13) : TEnt.Ok Tryd.prog G ent24 :=
  ent_ok hG mixedF (fn := Tryd.f24) (d := dc24) (crs := [(.tmp 2)]) (hint := []) (TT := [ent13]) (SH := SHF) rfl rfl (by kernel_rfl) (by decide) rfl ⟨h13, trivial⟩ eq24
include hG in
theorem ok25 (h46 : TEnt.Ok Tryd.prog G ent46) : TEnt.Ok Tryd.prog G ent25 :=
  ent_ok hG mixedF (fn := Tryd.f25) (d := dc25) (crs := [(.tmp 6), (.tmp 7)]) (hint := []) (TT := [ent46]) (SH := SHF) rfl rfl (by kernel_rfl) (by decide) rfl ⟨h46, trivial⟩ eq25
include hG in
theorem ok26 (h13 : TEnt.Ok Tryd.prog G ent13) (h31 : TEnt.Ok Tryd.prog G ent31) (h43 : TEnt.Ok Tryd.prog G ent43) (h44 : TEnt.Ok Tryd.prog G ent44) (h45 : TEnt.Ok Tryd.prog G ent45) : TEnt.Ok Tryd.prog G ent26 :=
  ent_ok hG mixedF (fn := Tryd.f26) (d := dc26) (crs := [(.tmp 6), (.tmp 7)]) (hint := []) (TT := [ent13, ent31, ent43, ent44, ent45]) (SH := SHF) rfl rfl (by kernel_rfl) (by decide) rfl ⟨h13, h31, h43, h44, h45, trivial⟩ eq26
include hG in
theorem ok27 (h46 : TEnt.Ok Tryd.prog G ent46) : TEnt.Ok Tryd.prog G ent27 :=
  ent_ok hG mixedF (fn := Tryd.f27) (d := dc27) (crs := [(.tmp 6), (.tmp 7)]) (hint := []) (TT := [ent46]) (SH := SHF) rfl rfl (by kernel_rfl) (by decide) rfl ⟨h46, trivial⟩ eq27
include hG in
theorem ok47 : TEnt.Ok Tryd.prog G ent47 :=
  ent_ok hG mixedF (fn := Tryd.f47) (d := dc47) (crs := [(.tmp 4)]) (hint := []) (TT := []) (SH := SHF) rfl rfl (by kernel_rfl) (by decide) rfl trivial eq47
include hG in
theorem ok28 (h13 : TEnt.Ok Tryd.prog G ent13) (h31 : TEnt.Ok Tryd.prog G ent31) (h44 : TEnt.Ok Tryd.prog G ent44) (h45 : TEnt.Ok Tryd.prog G ent45) (h47 : TEnt.Ok Tryd.prog G ent47) : TEnt.Ok Tryd.prog G ent28 :=
  ent_ok hG mixedF (fn := Tryd.f28) (d := dc28) (crs := [(.tmp 6), (.tmp 7)]) (hint := []) (TT := [ent13, ent31, ent44, ent45, ent47]) (SH := SHF) rfl rfl (by kernel_rfl) (by decide) rfl ⟨h13, h31, h44, h45, h47, trivial⟩ eq28
include hG in
theorem ok29 (h12 : TEnt.Ok Tryd.prog G ent12) (h40 : TEnt.Ok Tryd.prog G ent40) (h41 : TEnt.Ok Tryd.prog G ent41) (h48 : TEnt.Ok Tryd.prog G ent48) : TEnt.Ok Tryd.prog G ent29 :=
  ent_ok hG mixedF (fn := Tryd.f29) (d := dc29) (crs := [(.tmp 4), (.tmp 5)]) (hint := []) (TT := [ent12, ent40, ent41, ent48]) (SH := SHF) rfl rfl (by kernel_rfl) (by decide) rfl ⟨h12, h40, h41, h48, trivial⟩ eq29
include hG in
theorem ok30 (h13 : TEnt.Ok Tryd.prog G ent13) (h43 : TEnt.Ok Tryd.prog G ent43) (h44 : TEnt.Ok Tryd.prog G ent44) (h45 : TEnt.Ok Tryd.prog G ent45) : TEnt.Ok Tryd.prog G ent30 :=
  ent_ok hG mixedF (fn := Tryd.f30) (d := dc30) (crs := [(.tmp 4), (.tmp 5)]) (hint := []) (TT := [ent13, ent43, ent44, ent45]) (SH := SHF) rfl rfl (by kernel_rfl) (by decide) rfl ⟨h13, h43, h44, h45, trivial⟩ eq30
include hG in
theorem ok11 (h12 : TEnt.Ok Tryd.prog G ent12) (h14 : TEnt.Ok Tryd.prog G ent14) (h16 : TEnt.Ok Tryd.prog G ent16) (h18 : TEnt.Ok Tryd.prog G ent18) (h19 : TEnt.Ok Tryd.prog G ent19) (h21 : TEnt.Ok Tryd.prog G ent21) (h23 : TEnt.Ok Tryd.prog G ent23) (h27 : TEnt.Ok Tryd.prog G ent27) : TEnt.Ok Tryd.prog G ent11 :=
  ent_ok hG mixedF (fn := Tryd.f11) (d := dc11) (crs := [(.tmp 0)]) (hint := []) (TT := [ent12, ent14, ent16, ent18, ent19, ent21, ent23, ent27]) (SH := SHF) rfl rfl (by kernel_rfl) (by decide) rfl ⟨h12, h14, h16, h18, h19, h21, h23, h27, trivial⟩ eq11
include hG in
theorem ok3 (h11 : TEnt.Ok Tryd.prog G ent11) (h12 : TEnt.Ok Tryd.prog G ent12) (h13 : TEnt.Ok Tryd.prog G ent13) (h14 : TEnt.Ok Tryd.prog G ent14) (h15 : TEnt.Ok Tryd.prog G ent15) : TEnt.Ok Tryd.prog G ent3 :=
  ent_ok hG mixedF (fn := Tryd.f3) (d := dc3) (crs := [(.tmp 2)]) (hint := []) (TT := [ent11, ent12, ent13, ent14, ent15]) (SH := SHF) rfl rfl (by kernel_rfl) (by decide) rfl ⟨h11, h12, h13, h14, h15, trivial⟩ eq3
include hG in
theorem ok4 (h11 : TEnt.Ok Tryd.prog G ent11) (h16 : TEnt.Ok Tryd.prog G ent16) (h17 : TEnt.Ok Tryd.prog G ent17) (h18 : TEnt.Ok Tryd.prog G ent18) : TEnt.Ok Tryd.prog G ent4 :=
  ent_ok hG mixedF (fn := Tryd.f4) (d := dc4) (crs := [(.tmp 2)]) (hint := []) (TT := [ent11, ent16, ent17, ent18]) (SH := SHF) rfl rfl (by kernel_rfl) (by decide) rfl ⟨h11, h16, h17, h18, trivial⟩ eq4
include hG in
theorem ok5 (h11 : TEnt.Ok Tryd.prog G ent11) (h18 : TEnt.Ok Tryd.prog G ent18) (h19 : TEnt.Ok Tryd.prog G ent19) (h20 : TEnt.Ok Tryd.prog G ent20) (h21 : TEnt.Ok Tryd.prog G ent21) (h22 : TEnt.Ok Tryd.prog G ent22) (h23 : TEnt.Ok Tryd.prog G ent23) (h24 : TEnt.Ok Tryd.prog G ent24) : TEnt.Ok Tryd.prog G ent5 :=
  ent_ok hG mixedF (fn := Tryd.f5) (d := dc5) (crs := [(.tmp 4)]) (hint := []) (TT := [ent11, ent18, ent19, ent20, ent21, ent22, ent23, ent24]) (SH := SHF) rfl rfl (by kernel_rfl) (by decide) rfl ⟨h11, h18, h19, h20, h21, h22, h23, h24, trivial⟩ eq5
include hG in
theorem ok6 (h11 : TEnt.Ok Tryd.prog G ent11) (h12 : TEnt.Ok Tryd.prog G ent12) (h14 : TEnt.Ok Tryd.prog G ent14) (h16 : TEnt.Ok Tryd.prog G ent16) (h18 : TEnt.Ok Tryd.prog G ent18) : TEnt.Ok Tryd.prog G ent6 :=
  ent_ok hG mixedF (fn := Tryd.f6) (d := dc6) (crs := [(.tmp 4)]) (hint := []) (TT := [ent11, ent12, ent14, ent16, ent18]) (SH := SHF) rfl rfl (by kernel_rfl) (by decide) rfl ⟨h11, h12, h14, h16, h18, trivial⟩ eq6
include hG in
theorem ok7 (h11 : TEnt.Ok Tryd.prog G ent11) (h12 : TEnt.Ok Tryd.prog G ent12) (h19 : TEnt.Ok Tryd.prog G ent19) (h21 : TEnt.Ok Tryd.prog G ent21) (h23 : TEnt.Ok Tryd.prog G ent23) : TEnt.Ok Tryd.prog G ent7 :=
  ent_ok hG mixedF (fn := Tryd.f7) (d := dc7) (crs := [(.tmp 4)]) (hint := []) (TT := [ent11, ent12, ent19, ent21, ent23]) (SH := SHF) rfl rfl (by kernel_rfl) (by decide) rfl ⟨h11, h12, h19, h21, h23, trivial⟩ eq7
include hG in
theorem ok8 (h11 : TEnt.Ok Tryd.prog G ent11) (h18 : TEnt.Ok Tryd.prog G ent18) (h25 : TEnt.Ok Tryd.prog G ent25) (h26 : TEnt.Ok Tryd.prog G ent26) (h27 : TEnt.Ok Tryd.prog G ent27) (h28 : TEnt.Ok Tryd.prog G ent28) : TEnt.Ok Tryd.prog G ent8 :=
  ent_ok hG mixedF (fn := Tryd.f8) (d := dc8) (crs := [(.tmp 6)]) (hint := []) (TT := [ent11, ent18, ent25, ent26, ent27, ent28]) (SH := SHF) rfl rfl (by kernel_rfl) (by decide) rfl ⟨h11, h18, h25, h26, h27, h28, trivial⟩ eq8
include hG in
theorem ok9 (h11 : TEnt.Ok Tryd.prog G ent11) (h18 : TEnt.Ok Tryd.prog G ent18) (h29 : TEnt.Ok Tryd.prog G ent29) (h30 : TEnt.Ok Tryd.prog G ent30) : TEnt.Ok Tryd.prog G ent9 :=
  ent_ok hG mixedF (fn := Tryd.f9) (d := dc9) (crs := [(.tmp 4)]) (hint := []) (TT := [ent11, ent18, ent29, ent30]) (SH := SHF) rfl rfl (by kernel_rfl) (by decide) rfl ⟨h11, h18, h29, h30, trivial⟩ eq9
include hG in
theorem ok10 (h11 : TEnt.Ok Tryd.prog G ent11) (h12 : TEnt.Ok Tryd.prog G ent12) (h19 : TEnt.Ok Tryd.prog G ent19) (h25 : TEnt.Ok Tryd.prog G ent25) (h27 : TEnt.Ok Tryd.prog G ent27) (h29 : TEnt.Ok Tryd.prog G ent29) (h31 : TEnt.Ok Tryd.prog G ent31) : TEnt.Ok Tryd.prog G ent10 :=
  ent_ok hG mixedF (fn := Tryd.f10) (d := dc10) (crs := [(.tmp 6)]) (hint := []) (TT := [ent11, ent12, ent19, ent25, ent27, ent29, ent31]) (SH := SHF) rfl rfl (by kernel_rfl) (by decide) rfl ⟨h11, h12, h19, h25, h27, h29, h31, trivial⟩ eq10
end
end Go.Proofs.YtdffccmlfhdkpaaDoor
