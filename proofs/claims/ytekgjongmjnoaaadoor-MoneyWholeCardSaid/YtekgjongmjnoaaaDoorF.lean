/-
  THE FUNCTIONS AS PLAIN ONES (printed by a program of ours), and that they are what the code's runs give.
-/
import Derived.Test.YtekgjongmjnoaaaDoorE
namespace Go.Proofs.YtekgjongmjnoaaaDoor
open Go Go.Nu
set_option maxRecDepth 100000
set_option linter.unusedVariables false
def SHF : List (TypeId × Sh) := [(3, (.int .i64)), (5, .byte), (49, (.arr 49 .bool)), (50, (.arr 50 .bool)), (91, (.arr 91 .byte)), (106, (.arr 106 .byte)), (109, (.arr 109 (.agg 108 (.pair .byte .byte)))), (112, (.arr 112 (.int .u64))), (113, (.arr 113 .byte)), (121, (.arr 121 .byte)), (122, (.arr 122 .byte))]
/-- library/money.Right -/
noncomputable def F16 (a0 : Int) : Option (Bool) :=
  cond (decide ((0 : Int) ≤ a0))
    (some (decide (a0 ≤ (100000000 : Int))))
    (some false)
def dc16 : DC :=
  (.seq (.reg [⟨none, (.mv (some 2) (.v (.bool false)))⟩])
  (.seq (.reg [⟨none, (.mv (some 3) (.t 0))⟩,
    ⟨none, (.ar 4 .geq (.t 3) (.v (.int .i64 0)))⟩,
    ⟨none, (.mv (some 5) (.t 4))⟩,
    ⟨(some (5, true)), (.mv (some 6) (.t 0))⟩,
    ⟨(some (5, true)), (.ar 7 .leq (.t 6) (.v (.int .i64 100000000)))⟩,
    ⟨none, (.pick 8 (.t 5) (.t 7) (.v (.bool false)))⟩,
    ⟨none, (.mv (some 2) (.t 8))⟩])
  .ret))
noncomputable def ent16 : TEnt := ⟨16, [(.int .i64)], .bool, fun x => F16 x, .plain⟩
theorem eq16 (x : dens ent16.as) : ent16.F x = evF [] SHF dc16 [(.tmp 2)] ent16.as ent16.rs x := by kernel_rfl
/-- library/libraryref04.Right -/
noncomputable def F20 (a0 : Int) : Option (Bool) :=
  cond (decide ((0 : Int) ≤ a0))
    (some (decide (a0 ≤ (100000000 : Int))))
    (some false)
def dc20 : DC :=
  (.seq (.reg [⟨none, (.mv (some 2) (.v (.bool false)))⟩])
  (.seq (.reg [⟨none, (.mv (some 3) (.t 0))⟩,
    ⟨none, (.ar 4 .geq (.t 3) (.v (.int .i64 0)))⟩,
    ⟨none, (.mv (some 5) (.t 4))⟩,
    ⟨(some (5, true)), (.mv (some 6) (.t 0))⟩,
    ⟨(some (5, true)), (.ar 7 .leq (.t 6) (.v (.int .i64 100000000)))⟩,
    ⟨none, (.pick 8 (.t 5) (.t 7) (.v (.bool false)))⟩,
    ⟨none, (.mv (some 2) (.t 8))⟩])
  .ret))
noncomputable def ent20 : TEnt := ⟨20, [(.int .i64)], .bool, fun x => F20 x, .plain⟩
theorem eq20 (x : dens ent20.as) : ent20.F x = evF [] SHF dc20 [(.tmp 2)] ent20.as ent20.rs x := by kernel_rfl
/-- library/money.Permille -/
noncomputable def F17 (a0 : Int) (a1 : Int) : Option (Int) :=
  bindO (F16 a0) fun y1 =>
  cond (!y1)
    (some (0 : Int))
    (cond (decide (a1 < (0 : Int)))
      (some (0 : Int))
      (cond (decide ((1000 : Int) < a1))
        (some (0 : Int))
        (bnd (IntKind.wrap .i64 (a0 * a1)) fun x2 =>
        gd ((1000 : Int) ≠ 0) <|
        bnd (IntKind.wrap .i64 (Int.tdiv x2 (1000 : Int))) fun x3 =>
        bnd (IntKind.wrap .i64 (a0 * a1)) fun x4 =>
        gd ((1000 : Int) ≠ 0) <|
        bnd (Int.tmod x4 (1000 : Int)) fun x5 =>
        bnd (IntKind.wrap .i64 ((2 : Int) * x5)) fun x6 =>
        cond (decide ((1000 : Int) < x6))
          (bnd (IntKind.wrap .i64 (x3 + (1 : Int))) fun x7 =>
          some x7)
          (bnd (IntKind.wrap .i64 ((2 : Int) * x5)) fun x8 =>
          cond (decide (x8 = (1000 : Int)))
            (gd ((2 : Int) ≠ 0) <|
            bnd (Int.tmod x3 (2 : Int)) fun x9 =>
            cond (decide (x9 = (1 : Int)))
              (bnd (IntKind.wrap .i64 (x3 + (1 : Int))) fun x10 =>
              some x10)
              (some x3))
            (some x3)))))
def dc17 : DC :=
  (.seq (.reg [⟨none, (.mv (some 4) (.v (.int .i64 0)))⟩])
  (.seq (.seq (.reg [⟨none, (.mv (some 7) (.t 0))⟩,
    ⟨none, (.ca (some 8) 16 [(.t 7)])⟩,
    ⟨none, (.un 9 .not (.t 8))⟩,
    ⟨none, (.mv (some 10) (.t 9))⟩,
    ⟨(some (10, false)), (.mv (some 11) (.t 1))⟩,
    ⟨(some (10, false)), (.ar 12 .lss (.t 11) (.v (.int .i64 0)))⟩,
    ⟨none, (.pick 13 (.t 10) (.v (.bool true)) (.t 12))⟩,
    ⟨none, (.mv (some 14) (.t 13))⟩,
    ⟨(some (14, false)), (.mv (some 15) (.t 1))⟩,
    ⟨(some (14, false)), (.ar 16 .gtr (.t 15) (.v (.int .i64 1000)))⟩,
    ⟨none, (.pick 17 (.t 14) (.v (.bool true)) (.t 16))⟩])
  (.cond (.t 17)
    (.seq (.reg [⟨none, (.mv (some 4) (.v (.int .i64 0)))⟩])
  .ret)
    .skip))
  (.seq (.reg [⟨none, (.mv (some 18) (.t 0))⟩,
    ⟨none, (.mv (some 19) (.t 1))⟩,
    ⟨none, (.ar 20 .mul (.t 18) (.t 19))⟩,
    ⟨none, (.ar 21 .quo (.t 20) (.v (.int .i64 1000)))⟩,
    ⟨none, (.mv (some 22) (.t 0))⟩,
    ⟨none, (.mv (some 23) (.t 1))⟩,
    ⟨none, (.ar 24 .mul (.t 22) (.t 23))⟩,
    ⟨none, (.ar 25 .rem (.t 24) (.v (.int .i64 1000)))⟩,
    ⟨none, (.mv (some 5) (.t 21))⟩,
    ⟨none, (.mv (some 6) (.t 25))⟩])
  (.seq (.seq (.reg [⟨none, (.mv (some 26) (.t 6))⟩,
    ⟨none, (.ar 27 .mul (.v (.int .i64 2)) (.t 26))⟩,
    ⟨none, (.ar 28 .gtr (.t 27) (.v (.int .i64 1000)))⟩,
    ⟨none, (.mv (some 29) (.t 28))⟩,
    ⟨(some (29, false)), (.mv (some 30) (.t 6))⟩,
    ⟨(some (29, false)), (.ar 31 .mul (.v (.int .i64 2)) (.t 30))⟩,
    ⟨(some (29, false)), (.ar 32 .eql (.t 31) (.v (.int .i64 1000)))⟩,
    ⟨(some (29, false)), (.mv (some 33) (.t 32))⟩,
    ⟨(some (33, true)), (.mv (some 34) (.t 5))⟩,
    ⟨(some (33, true)), (.ar 35 .rem (.t 34) (.v (.int .i64 2)))⟩,
    ⟨(some (33, true)), (.ar 36 .eql (.t 35) (.v (.int .i64 1)))⟩,
    ⟨(some (29, false)), (.pick 37 (.t 33) (.t 36) (.v (.bool false)))⟩,
    ⟨none, (.pick 38 (.t 29) (.v (.bool true)) (.t 37))⟩])
  (.cond (.t 38)
    (.reg [⟨none, (.mv (some 39) (.t 5))⟩,
    ⟨none, (.ar 40 .add (.t 39) (.v (.int .i64 1)))⟩,
    ⟨none, (.mv (some 5) (.t 40))⟩])
    .skip))
  (.seq (.reg [⟨none, (.mv (some 41) (.t 5))⟩,
    ⟨none, (.mv (some 4) (.t 41))⟩])
  .ret)))))
noncomputable def ent17 : TEnt := ⟨17, [(.int .i64), (.int .i64)], (.int .i64), fun x => F17 x.1 x.2, .plain⟩
theorem eq17 (x : dens ent17.as) : ent17.F x = evF [ent16] SHF dc17 [(.tmp 4)] ent17.as ent17.rs x := by kernel_rfl
/-- library/libraryref04.Permille -/
noncomputable def F21 (a0 : Int) (a1 : Int) : Option (Int) :=
  bindO (F20 a0) fun y1 =>
  cond (!y1)
    (some (0 : Int))
    (cond (decide (a1 < (0 : Int)))
      (some (0 : Int))
      (cond (decide ((1000 : Int) < a1))
        (some (0 : Int))
        (bnd (IntKind.wrap .i64 (a0 * a1)) fun x2 =>
        gd ((1000 : Int) ≠ 0) <|
        bnd (IntKind.wrap .i64 (Int.tdiv x2 (1000 : Int))) fun x3 =>
        gd ((1000 : Int) ≠ 0) <|
        bnd (Int.tmod x2 (1000 : Int)) fun x4 =>
        cond (decide ((500 : Int) < x4))
          (bnd (IntKind.wrap .i64 (x3 + (1 : Int))) fun x5 =>
          some x5)
          (cond (decide (x4 = (500 : Int)))
            (gd ((2 : Int) ≠ 0) <|
            bnd (Int.tmod x3 (2 : Int)) fun x6 =>
            cond (decide (x6 = (1 : Int)))
              (bnd (IntKind.wrap .i64 (x3 + (1 : Int))) fun x7 =>
              some x7)
              (some x3))
            (some x3)))))
def dc21 : DC :=
  (.seq (.reg [⟨none, (.mv (some 4) (.v (.int .i64 0)))⟩])
  (.seq (.seq (.reg [⟨none, (.mv (some 8) (.t 0))⟩,
    ⟨none, (.ca (some 9) 20 [(.t 8)])⟩,
    ⟨none, (.un 10 .not (.t 9))⟩,
    ⟨none, (.mv (some 11) (.t 10))⟩,
    ⟨(some (11, false)), (.mv (some 12) (.t 1))⟩,
    ⟨(some (11, false)), (.ar 13 .lss (.t 12) (.v (.int .i64 0)))⟩,
    ⟨none, (.pick 14 (.t 11) (.v (.bool true)) (.t 13))⟩,
    ⟨none, (.mv (some 15) (.t 14))⟩,
    ⟨(some (15, false)), (.mv (some 16) (.t 1))⟩,
    ⟨(some (15, false)), (.ar 17 .gtr (.t 16) (.v (.int .i64 1000)))⟩,
    ⟨none, (.pick 18 (.t 15) (.v (.bool true)) (.t 17))⟩])
  (.cond (.t 18)
    (.seq (.reg [⟨none, (.mv (some 4) (.v (.int .i64 0)))⟩])
  .ret)
    .skip))
  (.seq (.reg [⟨none, (.mv (some 19) (.t 0))⟩,
    ⟨none, (.mv (some 20) (.t 1))⟩,
    ⟨none, (.ar 21 .mul (.t 19) (.t 20))⟩,
    ⟨none, (.mv (some 5) (.t 21))⟩])
  (.seq (.reg [⟨none, (.mv (some 22) (.t 5))⟩,
    ⟨none, (.ar 23 .quo (.t 22) (.v (.int .i64 1000)))⟩,
    ⟨none, (.mv (some 6) (.t 23))⟩])
  (.seq (.reg [⟨none, (.mv (some 24) (.t 5))⟩,
    ⟨none, (.ar 25 .rem (.t 24) (.v (.int .i64 1000)))⟩,
    ⟨none, (.mv (some 7) (.t 25))⟩])
  (.seq (.seq (.reg [⟨none, (.mv (some 26) (.t 7))⟩,
    ⟨none, (.ar 27 .gtr (.t 26) (.v (.int .i64 500)))⟩,
    ⟨none, (.mv (some 28) (.t 27))⟩,
    ⟨(some (28, false)), (.mv (some 29) (.t 7))⟩,
    ⟨(some (28, false)), (.ar 30 .eql (.t 29) (.v (.int .i64 500)))⟩,
    ⟨(some (28, false)), (.mv (some 31) (.t 30))⟩,
    ⟨(some (31, true)), (.mv (some 32) (.t 6))⟩,
    ⟨(some (31, true)), (.ar 33 .rem (.t 32) (.v (.int .i64 2)))⟩,
    ⟨(some (31, true)), (.ar 34 .eql (.t 33) (.v (.int .i64 1)))⟩,
    ⟨(some (28, false)), (.pick 35 (.t 31) (.t 34) (.v (.bool false)))⟩,
    ⟨none, (.pick 36 (.t 28) (.v (.bool true)) (.t 35))⟩])
  (.cond (.t 36)
    (.reg [⟨none, (.mv (some 37) (.t 6))⟩,
    ⟨none, (.ar 38 .add (.t 37) (.v (.int .i64 1)))⟩,
    ⟨none, (.mv (some 6) (.t 38))⟩])
    .skip))
  (.seq (.reg [⟨none, (.mv (some 39) (.t 6))⟩,
    ⟨none, (.mv (some 4) (.t 39))⟩])
  .ret)))))))
noncomputable def ent21 : TEnt := ⟨21, [(.int .i64), (.int .i64)], (.int .i64), fun x => F21 x.1 x.2, .plain⟩
theorem eq21 (x : dens ent21.as) : ent21.F x = evF [ent20] SHF dc21 [(.tmp 4)] ent21.as ent21.rs x := by kernel_rfl
/-- library/money.Add -/
noncomputable def F18 (a0 : Int) (a1 : Int) : Option (Int × Int) :=
  bindO (F16 a0) fun y1 =>
  cond (!y1)
    (some ((0 : Int), (2 : Int)))
    (bindO (F16 a1) fun y2 =>
    cond (!y2)
      (some ((0 : Int), (2 : Int)))
      (bnd (IntKind.wrap .i64 (a0 + a1)) fun x3 =>
      bindO (F16 x3) fun y4 =>
      cond (!y4)
        (some ((0 : Int), (2 : Int)))
        (bnd (IntKind.wrap .i64 (a0 + a1)) fun x5 =>
        some (x5, (0 : Int)))))
def dc18 : DC :=
  (.seq (.reg [⟨none, (.mv (some 4) (.v (.int .i64 0)))⟩,
    ⟨none, (.mv (some 5) (.v (.int .i64 0)))⟩])
  (.seq (.seq (.reg [⟨none, (.mv (some 6) (.t 0))⟩,
    ⟨none, (.ca (some 7) 16 [(.t 6)])⟩,
    ⟨none, (.un 8 .not (.t 7))⟩,
    ⟨none, (.mv (some 9) (.t 8))⟩,
    ⟨(some (9, false)), (.mv (some 10) (.t 1))⟩,
    ⟨(some (9, false)), (.ca (some 11) 16 [(.t 10)])⟩,
    ⟨(some (9, false)), (.un 12 .not (.t 11))⟩,
    ⟨none, (.pick 13 (.t 9) (.v (.bool true)) (.t 12))⟩,
    ⟨none, (.mv (some 14) (.t 13))⟩,
    ⟨(some (14, false)), (.mv (some 15) (.t 0))⟩,
    ⟨(some (14, false)), (.mv (some 16) (.t 1))⟩,
    ⟨(some (14, false)), (.ar 17 .add (.t 15) (.t 16))⟩,
    ⟨(some (14, false)), (.ca (some 18) 16 [(.t 17)])⟩,
    ⟨(some (14, false)), (.un 19 .not (.t 18))⟩,
    ⟨none, (.pick 20 (.t 14) (.v (.bool true)) (.t 19))⟩])
  (.cond (.t 20)
    (.seq (.reg [⟨none, (.mv (some 4) (.v (.int .i64 0)))⟩,
    ⟨none, (.mv (some 5) (.v (.int .i64 2)))⟩])
  .ret)
    .skip))
  (.seq (.reg [⟨none, (.mv (some 21) (.t 0))⟩,
    ⟨none, (.mv (some 22) (.t 1))⟩,
    ⟨none, (.ar 23 .add (.t 21) (.t 22))⟩,
    ⟨none, (.mv (some 4) (.t 23))⟩,
    ⟨none, (.mv (some 5) (.v (.int .i64 0)))⟩])
  .ret)))
noncomputable def ent18 : TEnt := ⟨18, [(.int .i64), (.int .i64)], (.tup (.pair (.int .i64) (.int .i64))), fun x => F18 x.1 x.2, .plain⟩
theorem eq18 (x : dens ent18.as) : ent18.F x = evF [ent16] SHF dc18 [(.tmp 4), (.tmp 5)] ent18.as ent18.rs x := by kernel_rfl
/-- library/libraryref04.Add -/
noncomputable def F19 (a0 : Int) (a1 : Int) : Option (Int × Int) :=
  bindO (F20 a0) fun y1 =>
  cond (!y1)
    (some ((0 : Int), (2 : Int)))
    (bindO (F20 a1) fun y2 =>
    cond (!y2)
      (some ((0 : Int), (2 : Int)))
      (bnd (IntKind.wrap .i64 (a0 + a1)) fun x3 =>
      bindO (F20 x3) fun y4 =>
      cond (!y4)
        (some ((0 : Int), (2 : Int)))
        (bnd (IntKind.wrap .i64 (a0 + a1)) fun x5 =>
        some (x5, (0 : Int)))))
def dc19 : DC :=
  (.seq (.reg [⟨none, (.mv (some 4) (.v (.int .i64 0)))⟩,
    ⟨none, (.mv (some 5) (.v (.int .i64 0)))⟩])
  (.seq (.seq (.reg [⟨none, (.mv (some 6) (.t 0))⟩,
    ⟨none, (.ca (some 7) 20 [(.t 6)])⟩,
    ⟨none, (.un 8 .not (.t 7))⟩,
    ⟨none, (.mv (some 9) (.t 8))⟩,
    ⟨(some (9, false)), (.mv (some 10) (.t 1))⟩,
    ⟨(some (9, false)), (.ca (some 11) 20 [(.t 10)])⟩,
    ⟨(some (9, false)), (.un 12 .not (.t 11))⟩,
    ⟨none, (.pick 13 (.t 9) (.v (.bool true)) (.t 12))⟩,
    ⟨none, (.mv (some 14) (.t 13))⟩,
    ⟨(some (14, false)), (.mv (some 15) (.t 0))⟩,
    ⟨(some (14, false)), (.mv (some 16) (.t 1))⟩,
    ⟨(some (14, false)), (.ar 17 .add (.t 15) (.t 16))⟩,
    ⟨(some (14, false)), (.ca (some 18) 20 [(.t 17)])⟩,
    ⟨(some (14, false)), (.un 19 .not (.t 18))⟩,
    ⟨none, (.pick 20 (.t 14) (.v (.bool true)) (.t 19))⟩])
  (.cond (.t 20)
    (.seq (.reg [⟨none, (.mv (some 4) (.v (.int .i64 0)))⟩,
    ⟨none, (.mv (some 5) (.v (.int .i64 2)))⟩])
  .ret)
    .skip))
  (.seq (.reg [⟨none, (.mv (some 21) (.t 0))⟩,
    ⟨none, (.mv (some 22) (.t 1))⟩,
    ⟨none, (.ar 23 .add (.t 21) (.t 22))⟩,
    ⟨none, (.mv (some 4) (.t 23))⟩,
    ⟨none, (.mv (some 5) (.v (.int .i64 0)))⟩])
  .ret)))
noncomputable def ent19 : TEnt := ⟨19, [(.int .i64), (.int .i64)], (.tup (.pair (.int .i64) (.int .i64))), fun x => F19 x.1 x.2, .plain⟩
theorem eq19 (x : dens ent19.as) : ent19.F x = evF [ent20] SHF dc19 [(.tmp 4), (.tmp 5)] ent19.as ent19.rs x := by kernel_rfl
/-- library/money.Share$1 -/
noncomputable def F23 (a0 : Int) (a1 : Int) (a2 : Int) (a3 : List (Int)) (a4 : Int) : Option (Int) :=
  gd (0 ≤ a1 ∧ a1 < (List.length a3 : Int)) <|
  bnd (IntKind.wrap .i64 (a2 * (List.getD a3 (Int.toNat a1) 0))) fun x1 =>
  gd (a4 ≠ 0) <|
  bnd (Int.tmod x1 a4) fun x2 =>
  gd (0 ≤ a0 ∧ a0 < (List.length a3 : Int)) <|
  bnd (IntKind.wrap .i64 (a2 * (List.getD a3 (Int.toNat a0) 0))) fun x3 =>
  gd (a4 ≠ 0) <|
  bnd (Int.tmod x3 a4) fun x4 =>
  bnd (IntKind.wrap .i64 (x2 - x4)) fun x5 =>
  some x5
def dc23 : DC :=
  (.seq (.reg [⟨none, (.mv (some 7) (.v (.int .i64 0)))⟩])
  (.seq (.reg [⟨none, (.ld 8 none (.t 2))⟩,
    ⟨none, (.ld 9 none (.t 3))⟩,
    ⟨none, (.mv (some 10) (.t 1))⟩,
    ⟨none, (.ea 11 3 (.t 9) (.t 10))⟩,
    ⟨none, (.ld 12 none (.t 11))⟩,
    ⟨none, (.ar 13 .mul (.t 8) (.t 12))⟩,
    ⟨none, (.ld 14 none (.t 4))⟩,
    ⟨none, (.ar 15 .rem (.t 13) (.t 14))⟩,
    ⟨none, (.ld 16 none (.t 2))⟩,
    ⟨none, (.ld 17 none (.t 3))⟩,
    ⟨none, (.mv (some 18) (.t 0))⟩,
    ⟨none, (.ea 19 3 (.t 17) (.t 18))⟩,
    ⟨none, (.ld 20 none (.t 19))⟩,
    ⟨none, (.ar 21 .mul (.t 16) (.t 20))⟩,
    ⟨none, (.ld 22 none (.t 4))⟩,
    ⟨none, (.ar 23 .rem (.t 21) (.t 22))⟩,
    ⟨none, (.ar 24 .sub (.t 15) (.t 23))⟩,
    ⟨none, (.mv (some 7) (.t 24))⟩])
  .ret))
noncomputable def ent23 : TEnt := ⟨23, [(.int .i64), (.int .i64), (.rp (.int .i64)), (.rp (.sl 3 (.int .i64))), (.rp (.int .i64))], (.int .i64), fun x => F23 x.1 x.2.1 x.2.2.1 x.2.2.2.1 x.2.2.2.2, .plain⟩
theorem eq23 (x : dens ent23.as) : ent23.F x = evF [] SHF dc23 [(.tmp 7)] ent23.as ent23.rs x := by kernel_rfl
/-- slices.insertionSortCmpFunc[int] -/
noncomputable def F48 (a0 : List (Int)) (a1 : Int) (a2 : Int) (a3 : Int × List (Int) × Int × Unit) : Option (Unit × List (Int)) :=
  bnd (IntKind.wrap .i64 (a1 + (1 : Int))) fun x1 =>
  loopK (σ := Int × List (Int)) (fun p2 againp2 =>
    cond (decide (p2.1 < a2))
      (loopK (σ := Int × List (Int)) (fun p3 againp3 =>
        cond (decide (a1 < p3.1))
          (gd (0 ≤ p3.1 ∧ p3.1 < (List.length p3.2 : Int)) <|
          gd ((Int.toNat p3.1) < List.length p3.2) <|
          bnd (IntKind.wrap .i64 (p3.1 - (1 : Int))) fun x4 =>
          gd (0 ≤ x4 ∧ x4 < (List.length p3.2 : Int)) <|
          gd ((Int.toNat x4) < List.length p3.2) <|
          bindO (F23 (List.getD p3.2 (Int.toNat p3.1) 0) (List.getD p3.2 (Int.toNat x4) 0) a3.1 a3.2.1 a3.2.2.1) fun y5 =>
          cond (decide (y5 < (0 : Int)))
            (bnd (IntKind.wrap .i64 (p3.1 - (1 : Int))) fun x6 =>
            bnd (IntKind.wrap .i64 (p3.1 - (1 : Int))) fun x7 =>
            gd (0 ≤ x7 ∧ x7 < (List.length p3.2 : Int)) <|
            gd ((Int.toNat x7) < List.length p3.2) <|
            gd (0 ≤ p3.1 ∧ p3.1 < (List.length p3.2 : Int)) <|
            gd ((Int.toNat p3.1) < List.length p3.2) <|
            gd (0 ≤ p3.1 ∧ p3.1 < (List.length p3.2 : Int)) <|
            gd ((Int.toNat p3.1) < List.length p3.2) <|
            gd (0 ≤ x6 ∧ x6 < (List.length (List.set p3.2 (Int.toNat p3.1) (List.getD p3.2 (Int.toNat x7) 0)) : Int)) <|
            gd ((Int.toNat x6) < List.length (List.set p3.2 (Int.toNat p3.1) (List.getD p3.2 (Int.toNat x7) 0))) <|
            bnd (IntKind.wrap .i64 (p3.1 - (1 : Int))) fun x8 =>
            againp3 (x8, (List.set (List.set p3.2 (Int.toNat p3.1) (List.getD p3.2 (Int.toNat x7) 0)) (Int.toNat x6) (List.getD p3.2 (Int.toNat p3.1) 0))))
            (bnd (IntKind.wrap .i64 (p2.1 + (1 : Int))) fun x9 =>
            againp2 (x9, p3.2)))
          (bnd (IntKind.wrap .i64 (p2.1 + (1 : Int))) fun x10 =>
          againp2 (x10, p3.2))) (p2.1, p2.2))
      (some ((), p2.2))) (x1, a0)
def dc48 : DC :=
  (.seq (.reg [⟨none, (.mv (some 10) (.t 1))⟩,
    ⟨none, (.ar 11 .add (.t 10) (.v (.int .i64 1)))⟩,
    ⟨none, (.mv (some 8) (.t 11))⟩])
  (.block 0 (.loop ⟨[(8, (.lf (.int .i64)))], [(2000000, (.lf (.arr 1000003 (.int .i64))))], [9, 12, 13, 14, 15, 16, 17, 18, 19, 20, 21, 22, 23, 24, 25, 26, 27, 28, 29, 30, 31, 32, 33, 34, 35, 36, 37, 38, 39, 40, 41, 42, 43, 44, 45, 46, 47, 48, 49, 50, 51, 52].map .s⟩ (.seq (.seq (.reg [⟨none, (.mv (some 12) (.t 8))⟩,
    ⟨none, (.mv (some 13) (.t 2))⟩,
    ⟨none, (.ar 14 .lss (.t 12) (.t 13))⟩])
  (.cond (.t 14)
    .skip
    (.exit 0)))
  (.seq (.block 1 (.seq (.reg [⟨none, (.mv (some 17) (.t 8))⟩,
    ⟨none, (.mv (some 9) (.t 17))⟩])
  (.block 2 (.loop ⟨[(9, (.lf (.int .i64)))], [(2000000, (.lf (.arr 1000003 (.int .i64))))], [18, 19, 20, 21, 22, 23, 24, 25, 26, 27, 28, 29, 30, 31, 32, 33, 34, 35, 36, 37, 38, 39, 40, 41, 42, 43, 44, 45, 46, 47, 48, 49, 50, 51, 52].map .s⟩ (.seq (.seq (.reg [⟨none, (.mv (some 18) (.t 9))⟩,
    ⟨none, (.mv (some 19) (.t 1))⟩,
    ⟨none, (.ar 20 .gtr (.t 18) (.t 19))⟩,
    ⟨none, (.mv (some 21) (.t 20))⟩,
    ⟨(some (21, true)), (.mv (some 22) (.t 3))⟩,
    ⟨(some (21, true)), (.mv (some 23) (.t 0))⟩,
    ⟨(some (21, true)), (.mv (some 24) (.t 9))⟩,
    ⟨(some (21, true)), (.ea 25 3 (.t 23) (.t 24))⟩,
    ⟨(some (21, true)), (.ld 26 none (.t 25))⟩,
    ⟨(some (21, true)), (.mv (some 27) (.t 0))⟩,
    ⟨(some (21, true)), (.mv (some 28) (.t 9))⟩,
    ⟨(some (21, true)), (.ar 29 .sub (.t 28) (.v (.int .i64 1)))⟩,
    ⟨(some (21, true)), (.ea 30 3 (.t 27) (.t 29))⟩,
    ⟨(some (21, true)), (.ld 31 none (.t 30))⟩,
    ⟨(some (21, true)), (.cd (some 32) (.t 22) [(.t 26), (.t 31)])⟩,
    ⟨(some (21, true)), (.ar 33 .lss (.t 32) (.v (.int .i64 0)))⟩,
    ⟨none, (.pick 34 (.t 21) (.t 33) (.v (.bool false)))⟩])
  (.cond (.t 34)
    .skip
    (.exit 2)))
  (.seq (.block 3 (.reg [⟨none, (.mv (some 37) (.t 0))⟩,
    ⟨none, (.mv (some 38) (.t 9))⟩,
    ⟨none, (.mv (some 39) (.t 0))⟩,
    ⟨none, (.mv (some 40) (.t 9))⟩,
    ⟨none, (.ar 41 .sub (.t 40) (.v (.int .i64 1)))⟩,
    ⟨none, (.mv (some 42) (.t 0))⟩,
    ⟨none, (.mv (some 43) (.t 9))⟩,
    ⟨none, (.ar 44 .sub (.t 43) (.v (.int .i64 1)))⟩,
    ⟨none, (.ea 45 3 (.t 42) (.t 44))⟩,
    ⟨none, (.ld 46 none (.t 45))⟩,
    ⟨none, (.mv (some 47) (.t 0))⟩,
    ⟨none, (.mv (some 48) (.t 9))⟩,
    ⟨none, (.ea 49 3 (.t 47) (.t 48))⟩,
    ⟨none, (.ld 50 none (.t 49))⟩,
    ⟨none, (.ea 51 3 (.t 37) (.t 38))⟩,
    ⟨none, (.st none (.t 51) (.t 46))⟩,
    ⟨none, (.ea 52 3 (.t 39) (.t 41))⟩,
    ⟨none, (.st none (.t 52) (.t 50))⟩]))
  (.reg [⟨none, (.mv (some 35) (.t 9))⟩,
    ⟨none, (.ar 36 .sub (.t 35) (.v (.int .i64 1)))⟩,
    ⟨none, (.mv (some 9) (.t 36))⟩])))))))
  (.reg [⟨none, (.mv (some 15) (.t 8))⟩,
    ⟨none, (.ar 16 .add (.t 15) (.v (.int .i64 1)))⟩,
    ⟨none, (.mv (some 8) (.t 16))⟩]))))))
noncomputable def ent48 : TEnt := ⟨48, [(.arr 1000003 (.int .i64)), (.int .i64), (.int .i64), (.fn 23 (.pair (.rp (.int .i64)) (.pair (.rp (.sl 3 (.int .i64))) (.pair (.rp (.int .i64)) .unit))))], (.pair (.tup .unit) (.arr 1000003 (.int .i64))), fun x => F48 x.1 x.2.1 x.2.2.1 x.2.2.2, .lent 0⟩
theorem eq48 (x : dens ent48.as) : ent48.F x = evFL [ent23] SHF dc48 [] ent48.as (.tup .unit) (.arr 1000003 (.int .i64)) 0 x := by kernel_rfl
/-- slices.stableCmpFunc[int] -/
noncomputable def F30 (a0 : List (Int)) (a1 : Int) (a2 : Int × List (Int) × Int × Unit) : Option (Unit × List (Int)) :=
  loopK (σ := Int × Int × List (Int)) (fun p1 againp1 =>
    cond (decide (p1.2.1 ≤ a1))
      (bindO (F48 p1.2.2 p1.1 p1.2.1 a2) fun y2 =>
      gdN (List.length p1.2.2) (List.length y2.2) <|
      bnd (IntKind.wrap .i64 (p1.2.1 + (20 : Int))) fun x3 =>
      againp1 (p1.2.1, x3, y2.2))
      (bindO (F48 p1.2.2 p1.1 a1 a2) fun y4 =>
      gdN (List.length p1.2.2) (List.length y4.2) <|
      loopK (σ := Int) (fun p5 againp5 =>
        cond (decide (p5 < a1))
          (bnd (IntKind.wrap .i64 ((2 : Int) * p5)) fun x6 =>
          loopK (σ := Unit) (fun p7 againp7 =>
            cond (decide (x6 ≤ a1))
              (bnd (IntKind.wrap .i64 ((0 : Int) + p5)) fun x8 =>
              none)
              (bnd (IntKind.wrap .i64 ((0 : Int) + p5)) fun x9 =>
              cond (decide (x9 < a1))
                (none)
                (bnd (IntKind.wrap .i64 (p5 * (2 : Int))) fun x10 =>
                againp5 x10))) ())
          (some ((), y4.2))) (20 : Int))) ((0 : Int), (20 : Int), a0)
def dc30 : DC :=
  (.seq (.reg [⟨none, (.mv (some 6) (.v (.int .i64 20)))⟩])
  (.seq (.reg [⟨none, (.mv (some 10) (.t 6))⟩,
    ⟨none, (.mv (some 7) (.v (.int .i64 0)))⟩,
    ⟨none, (.mv (some 8) (.t 10))⟩])
  (.seq (.block 0 (.loop ⟨[(7, (.lf (.int .i64))), (8, (.lf (.int .i64)))], [(2000000, (.lf (.arr 1000003 (.int .i64))))], [11, 12, 13, 14, 15, 16, 17, 18, 19, 20, 21, 22].map .s⟩ (.seq (.seq (.reg [⟨none, (.mv (some 11) (.t 8))⟩,
    ⟨none, (.mv (some 12) (.t 1))⟩,
    ⟨none, (.ar 13 .leq (.t 11) (.t 12))⟩])
  (.cond (.t 13)
    .skip
    (.exit 0)))
  (.block 1 (.seq (.reg [⟨none, (.mv (some 14) (.t 0))⟩,
    ⟨none, (.mv (some 15) (.t 7))⟩,
    ⟨none, (.mv (some 16) (.t 8))⟩,
    ⟨none, (.mv (some 17) (.t 2))⟩,
    ⟨none, (.cb (some 18) 48 [(.t 14), (.t 15), (.t 16), (.t 17)])⟩])
  (.seq (.reg [⟨none, (.mv (some 19) (.t 8))⟩,
    ⟨none, (.mv (some 7) (.t 19))⟩])
  (.reg [⟨none, (.mv (some 20) (.t 8))⟩,
    ⟨none, (.mv (some 21) (.t 6))⟩,
    ⟨none, (.ar 22 .add (.t 20) (.t 21))⟩,
    ⟨none, (.mv (some 8) (.t 22))⟩])))))))
  (.seq (.reg [⟨none, (.mv (some 23) (.t 0))⟩,
    ⟨none, (.mv (some 24) (.t 7))⟩,
    ⟨none, (.mv (some 25) (.t 1))⟩,
    ⟨none, (.mv (some 26) (.t 2))⟩,
    ⟨none, (.cb (some 27) 48 [(.t 23), (.t 24), (.t 25), (.t 26)])⟩])
  (.block 2 (.loop ⟨[(6, (.lf (.int .i64)))], [], [7, 8, 9, 28, 29, 30, 31, 32, 33, 34, 35, 49, 50, 51, 52, 53, 54, 61, 62].map .s⟩ (.seq (.seq (.reg [⟨none, (.mv (some 28) (.t 6))⟩,
    ⟨none, (.mv (some 29) (.t 1))⟩,
    ⟨none, (.ar 30 .lss (.t 28) (.t 29))⟩])
  (.cond (.t 30)
    .skip
    (.exit 2)))
  (.block 3 (.seq (.reg [⟨none, (.mv (some 31) (.t 6))⟩,
    ⟨none, (.ar 32 .mul (.v (.int .i64 2)) (.t 31))⟩,
    ⟨none, (.mv (some 7) (.v (.int .i64 0)))⟩,
    ⟨none, (.mv (some 8) (.t 32))⟩])
  (.seq (.block 4 (.loop ⟨[], [], [33, 34, 35].map .s⟩ (.seq (.seq (.reg [⟨none, (.mv (some 33) (.t 8))⟩,
    ⟨none, (.mv (some 34) (.t 1))⟩,
    ⟨none, (.ar 35 .leq (.t 33) (.t 34))⟩])
  (.cond (.t 35)
    .skip
    (.exit 4)))
  (.block 5 (.seq (.reg [⟨none, (.mv (some 36) (.t 0))⟩,
    ⟨none, (.mv (some 37) (.t 7))⟩,
    ⟨none, (.mv (some 38) (.t 7))⟩,
    ⟨none, (.mv (some 39) (.t 6))⟩,
    ⟨none, (.ar 40 .add (.t 38) (.t 39))⟩,
    ⟨none, (.mv (some 41) (.t 8))⟩,
    ⟨none, (.mv (some 42) (.t 2))⟩,
    ⟨none, (.cb (some 43) 49 [(.t 36), (.t 37), (.t 40), (.t 41), (.t 42)])⟩])
  (.seq (.reg [⟨none, (.mv (some 44) (.t 8))⟩,
    ⟨none, (.mv (some 7) (.t 44))⟩])
  (.reg [⟨none, (.mv (some 45) (.t 8))⟩,
    ⟨none, (.mv (some 46) (.t 6))⟩,
    ⟨none, (.ar 47 .mul (.v (.int .i64 2)) (.t 46))⟩,
    ⟨none, (.ar 48 .add (.t 45) (.t 47))⟩,
    ⟨none, (.mv (some 8) (.t 48))⟩])))))))
  (.seq (.seq (.reg [⟨none, (.mv (some 49) (.t 7))⟩,
    ⟨none, (.mv (some 50) (.t 6))⟩,
    ⟨none, (.ar 51 .add (.t 49) (.t 50))⟩,
    ⟨none, (.mv (some 9) (.t 51))⟩])
  (.seq (.reg [⟨none, (.mv (some 52) (.t 9))⟩,
    ⟨none, (.mv (some 53) (.t 1))⟩,
    ⟨none, (.ar 54 .lss (.t 52) (.t 53))⟩])
  (.cond (.t 54)
    (.reg [⟨none, (.mv (some 55) (.t 0))⟩,
    ⟨none, (.mv (some 56) (.t 7))⟩,
    ⟨none, (.mv (some 57) (.t 9))⟩,
    ⟨none, (.mv (some 58) (.t 1))⟩,
    ⟨none, (.mv (some 59) (.t 2))⟩,
    ⟨none, (.cb (some 60) 49 [(.t 55), (.t 56), (.t 57), (.t 58), (.t 59)])⟩])
    .skip)))
  (.reg [⟨none, (.mv (some 61) (.t 6))⟩,
    ⟨none, (.ar 62 .mul (.t 61) (.v (.int .i64 2)))⟩,
    ⟨none, (.mv (some 6) (.t 62))⟩]))))))))))))
noncomputable def ent30 : TEnt := ⟨30, [(.arr 1000003 (.int .i64)), (.int .i64), (.fn 23 (.pair (.rp (.int .i64)) (.pair (.rp (.sl 3 (.int .i64))) (.pair (.rp (.int .i64)) .unit))))], (.pair (.tup .unit) (.arr 1000003 (.int .i64))), fun x => F30 x.1 x.2.1 x.2.2, .lent 0⟩
theorem eq30 (x : dens ent30.as) : ent30.F x = evFL [ent48] SHF dc30 [] ent30.as (.tup .unit) (.arr 1000003 (.int .i64)) 0 x := by kernel_rfl
/-- slices.SortStableFunc[[]int,int] -/
noncomputable def F22 (a0 : List (Int)) (a1 : Int × List (Int) × Int × Unit) : Option (Unit × List (Int)) :=
  bindO (F30 a0 (List.length a0 : Int) a1) fun y1 =>
  gdN (List.length a0) (List.length y1.2) <|
  some ((), y1.2)
def dc22 : DC :=
  (.reg [⟨none, (.mv (some 4) (.t 0))⟩,
    ⟨none, (.mv (some 5) (.t 0))⟩,
    ⟨none, (.ln 6 (some 3) (.t 5))⟩,
    ⟨none, (.mv (some 7) (.t 1))⟩,
    ⟨none, (.cb (some 8) 30 [(.t 4), (.t 6), (.t 7)])⟩])
noncomputable def ent22 : TEnt := ⟨22, [(.arr 1000003 (.int .i64)), (.fn 23 (.pair (.rp (.int .i64)) (.pair (.rp (.sl 3 (.int .i64))) (.pair (.rp (.int .i64)) .unit))))], (.pair (.tup .unit) (.arr 1000003 (.int .i64))), fun x => F22 x.1 x.2, .lent 0⟩
theorem eq22 (x : dens ent22.as) : ent22.F x = evFL [ent30] SHF dc22 [] ent22.as (.tup .unit) (.arr 1000003 (.int .i64)) 0 x := by kernel_rfl
/-- library/money.Share -/
noncomputable def F9 (a0 : Int) (a1 : List (Int)) : Option (List (Int) × Int) :=
  jn (σ := Unit × Unit × Int × List (Int)) (fun nextj1 =>
    nextj1 ((), (), a0, a1)) fun j1 =>
  loopK (σ := Int × Int) (fun p2 againp2 =>
    cond (decide (p2.1 < (List.length j1.2.2.2 : Int)))
      (gd (0 ≤ p2.1 ∧ p2.1 < (List.length j1.2.2.2 : Int)) <|
      cond (decide ((List.getD j1.2.2.2 (Int.toNat p2.1) 0) < (0 : Int)))
        (some (([] : List (Int)), (1 : Int)))
        (cond (decide ((1000 : Int) < (List.getD j1.2.2.2 (Int.toNat p2.1) 0)))
          (some (([] : List (Int)), (1 : Int)))
          (bnd (IntKind.wrap .i64 (p2.2 + (List.getD j1.2.2.2 (Int.toNat p2.1) 0))) fun x3 =>
          cond (decide ((16000 : Int) < x3))
            (some (([] : List (Int)), (1 : Int)))
            (bnd (IntKind.wrap .i64 (p2.1 + (1 : Int))) fun x4 =>
            againp2 (x4, x3)))))
      (bindO (F16 j1.2.2.1) fun y5 =>
      cond (!y5)
        (some (([] : List (Int)), (1 : Int)))
        (cond (decide ((List.length j1.2.2.2 : Int) < (1 : Int)))
          (some (([] : List (Int)), (1 : Int)))
          (cond (decide ((16 : Int) < (List.length j1.2.2.2 : Int)))
            (some (([] : List (Int)), (1 : Int)))
            (cond (decide (p2.2 = (0 : Int)))
              (some (([] : List (Int)), (1 : Int)))
              (gd (0 ≤ (List.length j1.2.2.2 : Int) ∧ (List.length j1.2.2.2 : Int) = (List.length j1.2.2.2 : Int) ∧ (List.length j1.2.2.2 : Int) ≤ (big : Int)) <|
              gd (0 ≤ (List.length j1.2.2.2 : Int) ∧ (List.length j1.2.2.2 : Int) = (List.length j1.2.2.2 : Int) ∧ (List.length j1.2.2.2 : Int) ≤ (big : Int)) <|
              loopK (σ := Int × Int × List (Int) × List (Int)) (fun p6 againp6 =>
                cond (decide (p6.2.1 < (List.length j1.2.2.2 : Int)))
                  (gd (0 ≤ p6.2.1 ∧ p6.2.1 < (List.length j1.2.2.2 : Int)) <|
                  bnd (IntKind.wrap .i64 (j1.2.2.1 * (List.getD j1.2.2.2 (Int.toNat p6.2.1) 0))) fun x7 =>
                  gd (p2.2 ≠ 0) <|
                  bnd (IntKind.wrap .i64 (Int.tdiv x7 p2.2)) fun x8 =>
                  gd (0 ≤ p6.2.1 ∧ p6.2.1 < (List.length p6.2.2.1 : Int)) <|
                  gd ((Int.toNat p6.2.1) < List.length p6.2.2.1) <|
                  gd (0 ≤ p6.2.1 ∧ p6.2.1 < (List.length p6.2.2.2 : Int)) <|
                  gd ((Int.toNat p6.2.1) < List.length p6.2.2.2) <|
                  gd (0 ≤ p6.2.1 ∧ p6.2.1 < (List.length (List.set p6.2.2.1 (Int.toNat p6.2.1) x8) : Int)) <|
                  gd ((Int.toNat p6.2.1) < List.length (List.set p6.2.2.1 (Int.toNat p6.2.1) x8)) <|
                  bnd (IntKind.wrap .i64 (p6.1 - (List.getD (List.set p6.2.2.1 (Int.toNat p6.2.1) x8) (Int.toNat p6.2.1) 0))) fun x9 =>
                  bnd (IntKind.wrap .i64 (p6.2.1 + (1 : Int))) fun x10 =>
                  againp6 (x9, x10, (List.set p6.2.2.1 (Int.toNat p6.2.1) x8), (List.set p6.2.2.2 (Int.toNat p6.2.1) p6.2.1)))
                  (bindO (F22 p6.2.2.2 (j1.2.2.1, j1.2.2.2, p2.2, ())) fun y11 =>
                  gdN (List.length p6.2.2.2) (List.length y11.2) <|
                  gd (0 ≤ p6.1 ∧ p6.1 ≤ (List.length y11.2 : Int)) <|
                  bnd (List.take (Int.toNat p6.1) y11.2) fun x12 =>
                  loopK (σ := Int × List (Int)) (fun p13 againp13 =>
                    cond (decide (p13.1 < (List.length x12 : Int)))
                      (gd (0 ≤ p13.1 ∧ p13.1 < (List.length x12 : Int)) <|
                      gd (0 ≤ (List.getD x12 (Int.toNat p13.1) 0) ∧ (List.getD x12 (Int.toNat p13.1) 0) < (List.length p13.2 : Int)) <|
                      gd ((Int.toNat (List.getD x12 (Int.toNat p13.1) 0)) < List.length p13.2) <|
                      bnd (IntKind.wrap .i64 ((List.getD p13.2 (Int.toNat (List.getD x12 (Int.toNat p13.1) 0)) 0) + (1 : Int))) fun x14 =>
                      gd (0 ≤ (List.getD x12 (Int.toNat p13.1) 0) ∧ (List.getD x12 (Int.toNat p13.1) 0) < (List.length p13.2 : Int)) <|
                      gd ((Int.toNat (List.getD x12 (Int.toNat p13.1) 0)) < List.length p13.2) <|
                      bnd (IntKind.wrap .i64 (p13.1 + (1 : Int))) fun x15 =>
                      againp13 (x15, (List.set p13.2 (Int.toNat (List.getD x12 (Int.toNat p13.1) 0)) x14)))
                      (some (p13.2, (0 : Int)))) ((0 : Int), p6.2.2.1))) (j1.2.2.1, (0 : Int), (List.replicate (Int.toNat (List.length j1.2.2.2 : Int)) (0 : Int) : List (Int)), (List.replicate (Int.toNat (List.length j1.2.2.2 : Int)) (0 : Int) : List (Int))))))))) ((0 : Int), (0 : Int))
def dc9 : DC :=
  (.jn ⟨[(2, (.con (.rf 2 []))), (3, (.con (.rf 3 [])))], [(2, (.lf (.int .i64))), (3, (.lf (.sl 3 (.int .i64))))], [4, 5].map .s ++ [4].map .f⟩ (.reg [⟨none, (.bx 2 none (.t 0))⟩,
    ⟨none, (.bx 3 none (.t 1))⟩,
    ⟨none, (.nl 4 3)⟩,
    ⟨none, (.mv (some 5) (.v (.int .i64 0)))⟩])
  (.seq (.reg [⟨none, (.al 6 (.int .i64 0))⟩,
    ⟨none, (.st none (.t 6) (.v (.int .i64 0)))⟩])
  (.seq (.seq (.reg [⟨none, (.ld 16 none (.t 3))⟩,
    ⟨none, (.ln 17 (some 3) (.t 16))⟩,
    ⟨none, (.mv (some 18) (.v (.int .i64 0)))⟩])
  (.block 0 (.loop ⟨[(18, (.lf (.int .i64)))], [(6, (.lf (.int .i64)))], [4, 5, 8, 19, 20, 21, 22, 23, 24, 25, 26, 27, 28, 29, 30, 31, 32, 33].map .s ++ [4].map .f⟩ (.seq (.reg [⟨none, (.ar 19 .lss (.t 18) (.t 17))⟩])
  (.seq (.cond (.t 19)
    .skip
    (.exit 0))
  (.seq (.block 1 (.seq (.reg [⟨none, (.ea 20 3 (.t 16) (.t 18))⟩,
    ⟨none, (.ld 21 none (.t 20))⟩,
    ⟨none, (.mv (some 8) (.t 21))⟩])
  (.seq (.seq (.reg [⟨none, (.mv (some 22) (.t 8))⟩,
    ⟨none, (.ar 23 .lss (.t 22) (.v (.int .i64 0)))⟩,
    ⟨none, (.mv (some 24) (.t 23))⟩,
    ⟨(some (24, false)), (.mv (some 25) (.t 8))⟩,
    ⟨(some (24, false)), (.ar 26 .gtr (.t 25) (.v (.int .i64 1000)))⟩,
    ⟨none, (.pick 27 (.t 24) (.v (.bool true)) (.t 26))⟩])
  (.cond (.t 27)
    (.seq (.reg [⟨none, (.nl 4 3)⟩,
    ⟨none, (.mv (some 5) (.v (.int .i64 1)))⟩])
  .ret)
    .skip))
  (.seq (.reg [⟨none, (.ld 28 none (.t 6))⟩,
    ⟨none, (.mv (some 29) (.t 8))⟩,
    ⟨none, (.ar 30 .add (.t 28) (.t 29))⟩,
    ⟨none, (.st none (.t 6) (.t 30))⟩])
  (.seq (.reg [⟨none, (.ld 31 none (.t 6))⟩,
    ⟨none, (.ar 32 .gtr (.t 31) (.v (.int .i64 16000)))⟩])
  (.cond (.t 32)
    (.seq (.reg [⟨none, (.nl 4 3)⟩,
    ⟨none, (.mv (some 5) (.v (.int .i64 1)))⟩])
  .ret)
    .skip))))))
  (.reg [⟨none, (.ar 33 .add (.t 18) (.v (.int .i64 1)))⟩,
    ⟨none, (.mv (some 18) (.t 33))⟩])))))))
  (.seq (.seq (.reg [⟨none, (.ld 34 none (.t 2))⟩,
    ⟨none, (.ca (some 35) 16 [(.t 34)])⟩,
    ⟨none, (.un 36 .not (.t 35))⟩,
    ⟨none, (.mv (some 37) (.t 36))⟩,
    ⟨(some (37, false)), (.ld 38 none (.t 3))⟩,
    ⟨(some (37, false)), (.ln 39 (some 3) (.t 38))⟩,
    ⟨(some (37, false)), (.ar 40 .lss (.t 39) (.v (.int .i64 1)))⟩,
    ⟨none, (.pick 41 (.t 37) (.v (.bool true)) (.t 40))⟩,
    ⟨none, (.mv (some 42) (.t 41))⟩,
    ⟨(some (42, false)), (.ld 43 none (.t 3))⟩,
    ⟨(some (42, false)), (.ln 44 (some 3) (.t 43))⟩,
    ⟨(some (42, false)), (.ar 45 .gtr (.t 44) (.v (.int .i64 16)))⟩,
    ⟨none, (.pick 46 (.t 42) (.v (.bool true)) (.t 45))⟩,
    ⟨none, (.mv (some 47) (.t 46))⟩,
    ⟨(some (47, false)), (.ld 48 none (.t 6))⟩,
    ⟨(some (47, false)), (.ar 49 .eql (.t 48) (.v (.int .i64 0)))⟩,
    ⟨none, (.pick 50 (.t 47) (.v (.bool true)) (.t 49))⟩])
  (.cond (.t 50)
    (.seq (.reg [⟨none, (.nl 4 3)⟩,
    ⟨none, (.mv (some 5) (.v (.int .i64 1)))⟩])
  .ret)
    .skip))
  (.seq (.reg [⟨none, (.ld 51 none (.t 3))⟩,
    ⟨none, (.ln 52 (some 3) (.t 51))⟩,
    ⟨none, (.mm 53 3 (.int .i64 0) (.t 52) (.t 52))⟩,
    ⟨none, (.mv (some 9) (.t 53))⟩])
  (.seq (.reg [⟨none, (.ld 54 none (.t 3))⟩,
    ⟨none, (.ln 55 (some 3) (.t 54))⟩,
    ⟨none, (.mm 56 3 (.int .i64 0) (.t 55) (.t 55))⟩,
    ⟨none, (.mv (some 10) (.t 56))⟩])
  (.seq (.reg [⟨none, (.ld 57 none (.t 2))⟩,
    ⟨none, (.mv (some 11) (.t 57))⟩])
  (.seq (.seq (.reg [⟨none, (.ld 58 none (.t 3))⟩,
    ⟨none, (.ln 59 (some 3) (.t 58))⟩,
    ⟨none, (.mv (some 60) (.v (.int .i64 0)))⟩])
  (.block 2 (.loop ⟨[(11, (.lf (.int .i64))), (60, (.lf (.int .i64)))], [(53, (.lf (.arr 1000003 (.int .i64)))), (56, (.lf (.arr 1000003 (.int .i64))))], [12, 13, 61, 62, 63, 64, 65, 66, 67, 68, 69, 70, 71, 72, 73, 74, 75, 76, 77, 78, 79, 80, 81, 82, 83].map .s⟩ (.seq (.reg [⟨none, (.ar 61 .lss (.t 60) (.t 59))⟩])
  (.seq (.cond (.t 61)
    .skip
    (.exit 2))
  (.seq (.block 3 (.seq (.reg [⟨none, (.mv (some 62) (.t 60))⟩,
    ⟨none, (.ea 63 3 (.t 58) (.t 60))⟩,
    ⟨none, (.ld 64 none (.t 63))⟩,
    ⟨none, (.mv (some 12) (.t 62))⟩,
    ⟨none, (.mv (some 13) (.t 64))⟩])
  (.seq (.reg [⟨none, (.mv (some 65) (.t 9))⟩,
    ⟨none, (.mv (some 66) (.t 12))⟩,
    ⟨none, (.mv (some 67) (.t 10))⟩,
    ⟨none, (.mv (some 68) (.t 12))⟩,
    ⟨none, (.ld 69 none (.t 2))⟩,
    ⟨none, (.mv (some 70) (.t 13))⟩,
    ⟨none, (.ar 71 .mul (.t 69) (.t 70))⟩,
    ⟨none, (.ld 72 none (.t 6))⟩,
    ⟨none, (.ar 73 .quo (.t 71) (.t 72))⟩,
    ⟨none, (.mv (some 74) (.t 12))⟩,
    ⟨none, (.ea 75 3 (.t 65) (.t 66))⟩,
    ⟨none, (.st none (.t 75) (.t 73))⟩,
    ⟨none, (.ea 76 3 (.t 67) (.t 68))⟩,
    ⟨none, (.st none (.t 76) (.t 74))⟩])
  (.reg [⟨none, (.mv (some 77) (.t 11))⟩,
    ⟨none, (.mv (some 78) (.t 9))⟩,
    ⟨none, (.mv (some 79) (.t 12))⟩,
    ⟨none, (.ea 80 3 (.t 78) (.t 79))⟩,
    ⟨none, (.ld 81 none (.t 80))⟩,
    ⟨none, (.ar 82 .sub (.t 77) (.t 81))⟩,
    ⟨none, (.mv (some 11) (.t 82))⟩]))))
  (.reg [⟨none, (.ar 83 .add (.t 60) (.v (.int .i64 1)))⟩,
    ⟨none, (.mv (some 60) (.t 83))⟩])))))))
  (.seq (.seq (.gh 2 [])
  (.seq (.gh 3 [])
  (.seq (.gh 6 [])
  (.seq (.reg [⟨none, (.mv (some 84) (.t 10))⟩,
    ⟨none, (.mf 85 23 [(.t 2), (.t 3), (.t 6)])⟩,
    ⟨none, (.cb (some 86) 22 [(.t 84), (.t 85)])⟩])
  (.seq (.gh 56 [])
  .skip)))))
  (.seq (.seq (.reg [⟨none, (.mv (some 87) (.t 10))⟩,
    ⟨none, (.mv (some 88) (.t 11))⟩,
    ⟨none, (.sc 89 (some 3) (.t 87) none (some (.t 88)))⟩,
    ⟨none, (.ln 90 (some 3) (.t 89))⟩,
    ⟨none, (.mv (some 91) (.v (.int .i64 0)))⟩])
  (.block 4 (.loop ⟨[(91, (.lf (.int .i64)))], [(53, (.lf (.arr 1000003 (.int .i64))))], [15, 92, 93, 94, 95, 96, 97, 98, 99, 100, 101].map .s⟩ (.seq (.reg [⟨none, (.ar 92 .lss (.t 91) (.t 90))⟩])
  (.seq (.cond (.t 92)
    .skip
    (.exit 4))
  (.seq (.block 5 (.seq (.reg [⟨none, (.ea 93 3 (.t 89) (.t 91))⟩,
    ⟨none, (.ld 94 none (.t 93))⟩,
    ⟨none, (.mv (some 15) (.t 94))⟩])
  (.reg [⟨none, (.mv (some 95) (.t 9))⟩,
    ⟨none, (.mv (some 96) (.t 15))⟩,
    ⟨none, (.ea 97 3 (.t 95) (.t 96))⟩,
    ⟨none, (.ld 98 none (.t 97))⟩,
    ⟨none, (.ar 99 .add (.t 98) (.v (.int .i64 1)))⟩,
    ⟨none, (.ea 100 3 (.t 95) (.t 96))⟩,
    ⟨none, (.st none (.t 100) (.t 99))⟩])))
  (.reg [⟨none, (.ar 101 .add (.t 91) (.v (.int .i64 1)))⟩,
    ⟨none, (.mv (some 91) (.t 101))⟩])))))))
  (.seq (.seq (.gh 53 [])
  (.reg [⟨none, (.mv (some 102) (.t 9))⟩,
    ⟨none, (.mv (some 4) (.t 102))⟩,
    ⟨none, (.mv (some 5) (.v (.int .i64 0)))⟩]))
  .ret)))))))))))
noncomputable def ent9 : TEnt := ⟨9, [(.int .i64), (.sl 3 (.int .i64))], (.tup (.pair (.sl 3 (.int .i64)) (.int .i64))), fun x => F9 x.1 x.2, .plain⟩
theorem eq9 (x : dens ent9.as) : ent9.F x = evF [ent16, ent22] SHF dc9 [(.tmp 4), (.tmp 5)] ent9.as ent9.rs x := by kernel_rfl
/-- library/libraryref04.Share -/
noncomputable def F10 (a0 : Int) (a1 : List (Int)) : Option (List (Int) × Int) :=
  jn (σ := Unit) (fun nextj1 =>
    nextj1 ()) fun j1 =>
  bindO (F20 a0) fun y2 =>
  cond (!y2)
    (some (([] : List (Int)), (1 : Int)))
    (cond (decide ((List.length a1 : Int) < (1 : Int)))
      (some (([] : List (Int)), (1 : Int)))
      (cond (decide ((16 : Int) < (List.length a1 : Int)))
        (some (([] : List (Int)), (1 : Int)))
        (loopK (σ := Int × Int) (fun p3 againp3 =>
          cond (decide (p3.2 < (List.length a1 : Int)))
            (gd (0 ≤ p3.2 ∧ p3.2 < (List.length a1 : Int)) <|
            cond (decide ((List.getD a1 (Int.toNat p3.2) 0) < (0 : Int)))
              (some (([] : List (Int)), (1 : Int)))
              (gd (0 ≤ p3.2 ∧ p3.2 < (List.length a1 : Int)) <|
              cond (decide ((1000 : Int) < (List.getD a1 (Int.toNat p3.2) 0)))
                (some (([] : List (Int)), (1 : Int)))
                (gd (0 ≤ p3.2 ∧ p3.2 < (List.length a1 : Int)) <|
                bnd (IntKind.wrap .i64 (p3.1 + (List.getD a1 (Int.toNat p3.2) 0))) fun x4 =>
                bnd (IntKind.wrap .i64 (p3.2 + (1 : Int))) fun x5 =>
                againp3 (x4, x5))))
            (cond (decide (p3.1 = (0 : Int)))
              (some (([] : List (Int)), (1 : Int)))
              (gdN (List.length ([] : List (Int))) (List.length ([] : List (Int))) <|
              gdN (List.length ([] : List (Int))) (List.length ([] : List (Int))) <|
              loopK (σ := List (Int) × List (Int) × Int × Int) (fun p6 againp6 =>
                cond (decide (p6.2.2.2 < (List.length a1 : Int)))
                  (gd (0 ≤ p6.2.2.2 ∧ p6.2.2.2 < (List.length a1 : Int)) <|
                  bnd (IntKind.wrap .i64 (a0 * (List.getD a1 (Int.toNat p6.2.2.2) 0))) fun x7 =>
                  gd (p3.1 ≠ 0) <|
                  bnd (IntKind.wrap .i64 (Int.tdiv x7 p3.1)) fun x8 =>
                  gdN (List.length p6.1) (List.length p6.1) <|
                  gd (List.length p6.1 + List.length [x8] ≤ big) <|
                  bnd (p6.1 ++ [x8]) fun l9 =>
                  gd (0 ≤ p6.2.2.2 ∧ p6.2.2.2 < (List.length a1 : Int)) <|
                  bnd (IntKind.wrap .i64 (a0 * (List.getD a1 (Int.toNat p6.2.2.2) 0))) fun x10 =>
                  gd (p3.1 ≠ 0) <|
                  bnd (Int.tmod x10 p3.1) fun x11 =>
                  gdN (List.length p6.2.1) (List.length p6.2.1) <|
                  gd (List.length p6.2.1 + List.length [x11] ≤ big) <|
                  bnd (p6.2.1 ++ [x11]) fun l12 =>
                  gd (0 ≤ p6.2.2.2 ∧ p6.2.2.2 < (List.length l9 : Int)) <|
                  bnd (IntKind.wrap .i64 (p6.2.2.1 - (List.getD l9 (Int.toNat p6.2.2.2) 0))) fun x13 =>
                  bnd (IntKind.wrap .i64 (p6.2.2.2 + (1 : Int))) fun x14 =>
                  gdN (List.length l9) (List.length l9) <|
                  gdN (List.length l12) (List.length l12) <|
                  againp6 (l9, l12, x13, x14))
                  (gdN (List.length p6.1) (List.length p6.1) <|
                  gd (0 < List.length p6.1) <|
                  gdN (List.length p6.1) (List.length p6.1) <|
                  gdN (List.length p6.2.1) (List.length p6.2.1) <|
                  gdN (List.length p6.2.1) (List.length p6.2.1) <|
                  gd (0 < List.length p6.2.1) <|
                  gdN (List.length p6.2.1) (List.length p6.2.1) <|
                  loopK (σ := Int × List (Int) × List (Int)) (fun p15 againp15 =>
                    cond (decide ((0 : Int) < p15.1))
                      (loopK (σ := Int × Int) (fun p16 againp16 =>
                        cond (decide (p16.2 < (List.length p15.2.2 : Int)))
                          (gd (0 ≤ p16.2 ∧ p16.2 < (List.length p15.2.2 : Int)) <|
                          gd ((Int.toNat p16.2) < List.length p15.2.2) <|
                          gd (0 ≤ p16.1 ∧ p16.1 < (List.length p15.2.2 : Int)) <|
                          gd ((Int.toNat p16.1) < List.length p15.2.2) <|
                          cond (decide ((List.getD p15.2.2 (Int.toNat p16.1) 0) < (List.getD p15.2.2 (Int.toNat p16.2) 0)))
                            (bnd (IntKind.wrap .i64 (p16.2 + (1 : Int))) fun x17 =>
                            againp16 (p16.2, x17))
                            (bnd (IntKind.wrap .i64 (p16.2 + (1 : Int))) fun x18 =>
                            againp16 (p16.1, x18)))
                          (gd (0 ≤ p16.1 ∧ p16.1 < (List.length p15.2.1 : Int)) <|
                          gd ((Int.toNat p16.1) < List.length p15.2.1) <|
                          bnd (IntKind.wrap .i64 ((List.getD p15.2.1 (Int.toNat p16.1) 0) + (1 : Int))) fun x19 =>
                          gd (0 ≤ p16.1 ∧ p16.1 < (List.length p15.2.1 : Int)) <|
                          gd ((Int.toNat p16.1) < List.length p15.2.1) <|
                          gd (0 ≤ p16.1 ∧ p16.1 < (List.length p15.2.2 : Int)) <|
                          gd ((Int.toNat p16.1) < List.length p15.2.2) <|
                          bnd (IntKind.wrap .i64 (p15.1 - (1 : Int))) fun x20 =>
                          againp15 (x20, (List.set p15.2.1 (Int.toNat p16.1) x19), (List.set p15.2.2 (Int.toNat p16.1) (-1 : Int))))) ((0 : Int), (1 : Int)))
                      (some (p15.2.1, (0 : Int)))) (p6.2.2.1, p6.1, p6.2.1))) (([] : List (Int)), ([] : List (Int)), a0, (0 : Int))))) ((0 : Int), (0 : Int)))))
def dc10 : DC :=
  (.jn ⟨[], [], [4, 5].map .s ++ [4].map .f⟩ (.reg [⟨none, (.nl 4 3)⟩,
    ⟨none, (.mv (some 5) (.v (.int .i64 0)))⟩])
  (.seq (.seq (.reg [⟨none, (.mv (some 14) (.t 0))⟩,
    ⟨none, (.ca (some 15) 20 [(.t 14)])⟩,
    ⟨none, (.un 16 .not (.t 15))⟩,
    ⟨none, (.mv (some 17) (.t 16))⟩,
    ⟨(some (17, false)), (.mv (some 18) (.t 1))⟩,
    ⟨(some (17, false)), (.ln 19 (some 3) (.t 18))⟩,
    ⟨(some (17, false)), (.ar 20 .lss (.t 19) (.v (.int .i64 1)))⟩,
    ⟨none, (.pick 21 (.t 17) (.v (.bool true)) (.t 20))⟩,
    ⟨none, (.mv (some 22) (.t 21))⟩,
    ⟨(some (22, false)), (.mv (some 23) (.t 1))⟩,
    ⟨(some (22, false)), (.ln 24 (some 3) (.t 23))⟩,
    ⟨(some (22, false)), (.ar 25 .gtr (.t 24) (.v (.int .i64 16)))⟩,
    ⟨none, (.pick 26 (.t 22) (.v (.bool true)) (.t 25))⟩])
  (.cond (.t 26)
    (.seq (.reg [⟨none, (.nl 4 3)⟩,
    ⟨none, (.mv (some 5) (.v (.int .i64 1)))⟩])
  .ret)
    .skip))
  (.seq (.reg [⟨none, (.mv (some 6) (.v (.int .i64 0)))⟩])
  (.seq (.seq (.reg [⟨none, (.mv (some 7) (.v (.int .i64 0)))⟩])
  (.block 0 (.loop ⟨[(6, (.lf (.int .i64))), (7, (.lf (.int .i64)))], [], [4, 5, 27, 28, 29, 30, 31, 32, 33, 34, 35, 36, 37, 38, 39, 40, 41, 42, 43, 44, 45, 46, 47, 48, 49, 50].map .s ++ [4].map .f⟩ (.seq (.seq (.reg [⟨none, (.mv (some 27) (.t 7))⟩,
    ⟨none, (.mv (some 28) (.t 1))⟩,
    ⟨none, (.ln 29 (some 3) (.t 28))⟩,
    ⟨none, (.ar 30 .lss (.t 27) (.t 29))⟩])
  (.cond (.t 30)
    .skip
    (.exit 0)))
  (.seq (.block 1 (.seq (.seq (.reg [⟨none, (.mv (some 33) (.t 1))⟩,
    ⟨none, (.mv (some 34) (.t 7))⟩,
    ⟨none, (.ea 35 3 (.t 33) (.t 34))⟩,
    ⟨none, (.ld 36 none (.t 35))⟩,
    ⟨none, (.ar 37 .lss (.t 36) (.v (.int .i64 0)))⟩,
    ⟨none, (.mv (some 38) (.t 37))⟩,
    ⟨(some (38, false)), (.mv (some 39) (.t 1))⟩,
    ⟨(some (38, false)), (.mv (some 40) (.t 7))⟩,
    ⟨(some (38, false)), (.ea 41 3 (.t 39) (.t 40))⟩,
    ⟨(some (38, false)), (.ld 42 none (.t 41))⟩,
    ⟨(some (38, false)), (.ar 43 .gtr (.t 42) (.v (.int .i64 1000)))⟩,
    ⟨none, (.pick 44 (.t 38) (.v (.bool true)) (.t 43))⟩])
  (.cond (.t 44)
    (.seq (.reg [⟨none, (.nl 4 3)⟩,
    ⟨none, (.mv (some 5) (.v (.int .i64 1)))⟩])
  .ret)
    .skip))
  (.reg [⟨none, (.mv (some 45) (.t 6))⟩,
    ⟨none, (.mv (some 46) (.t 1))⟩,
    ⟨none, (.mv (some 47) (.t 7))⟩,
    ⟨none, (.ea 48 3 (.t 46) (.t 47))⟩,
    ⟨none, (.ld 49 none (.t 48))⟩,
    ⟨none, (.ar 50 .add (.t 45) (.t 49))⟩,
    ⟨none, (.mv (some 6) (.t 50))⟩])))
  (.reg [⟨none, (.mv (some 31) (.t 7))⟩,
    ⟨none, (.ar 32 .add (.t 31) (.v (.int .i64 1)))⟩,
    ⟨none, (.mv (some 7) (.t 32))⟩]))))))
  (.seq (.seq (.reg [⟨none, (.mv (some 51) (.t 6))⟩,
    ⟨none, (.ar 52 .eql (.t 51) (.v (.int .i64 0)))⟩])
  (.cond (.t 52)
    (.seq (.reg [⟨none, (.nl 4 3)⟩,
    ⟨none, (.mv (some 5) (.v (.int .i64 1)))⟩])
  .ret)
    .skip))
  (.seq (.reg [⟨none, (.nl 8 3)⟩])
  (.seq (.reg [⟨none, (.nl 9 3)⟩])
  (.seq (.reg [⟨none, (.mv (some 53) (.t 0))⟩,
    ⟨none, (.mv (some 10) (.t 53))⟩])
  (.seq (.seq (.reg [⟨none, (.mv (some 11) (.v (.int .i64 0)))⟩])
  (.block 2 (.loop ⟨[(8, (.row 8 3 (.int .i64))), (9, (.row 9 3 (.int .i64))), (10, (.lf (.int .i64))), (11, (.lf (.int .i64)))], [], [54, 55, 56, 57, 58, 59, 60, 61, 62, 63, 64, 65, 66, 67, 68, 69, 70, 71, 72, 73, 74, 75, 76, 77, 78, 79, 80, 81, 82, 83, 84, 85, 86, 87].map .s ++ [69, 80].map .f⟩ (.seq (.seq (.reg [⟨none, (.mv (some 54) (.t 11))⟩,
    ⟨none, (.mv (some 55) (.t 1))⟩,
    ⟨none, (.ln 56 (some 3) (.t 55))⟩,
    ⟨none, (.ar 57 .lss (.t 54) (.t 56))⟩])
  (.cond (.t 57)
    .skip
    (.exit 2)))
  (.seq (.block 3 (.seq (.reg [⟨none, (.mv (some 60) (.t 8))⟩,
    ⟨none, (.mv (some 61) (.t 0))⟩,
    ⟨none, (.mv (some 62) (.t 1))⟩,
    ⟨none, (.mv (some 63) (.t 11))⟩,
    ⟨none, (.ea 64 3 (.t 62) (.t 63))⟩,
    ⟨none, (.ld 65 none (.t 64))⟩,
    ⟨none, (.ar 66 .mul (.t 61) (.t 65))⟩,
    ⟨none, (.mv (some 67) (.t 6))⟩,
    ⟨none, (.ar 68 .quo (.t 66) (.t 67))⟩,
    ⟨none, (.bs 69 3 none [(.t 68)])⟩,
    ⟨none, (.ap 70 3 (.t 60) (.t 69))⟩,
    ⟨none, (.mv (some 8) (.t 70))⟩])
  (.seq (.reg [⟨none, (.mv (some 71) (.t 9))⟩,
    ⟨none, (.mv (some 72) (.t 0))⟩,
    ⟨none, (.mv (some 73) (.t 1))⟩,
    ⟨none, (.mv (some 74) (.t 11))⟩,
    ⟨none, (.ea 75 3 (.t 73) (.t 74))⟩,
    ⟨none, (.ld 76 none (.t 75))⟩,
    ⟨none, (.ar 77 .mul (.t 72) (.t 76))⟩,
    ⟨none, (.mv (some 78) (.t 6))⟩,
    ⟨none, (.ar 79 .rem (.t 77) (.t 78))⟩,
    ⟨none, (.bs 80 3 none [(.t 79)])⟩,
    ⟨none, (.ap 81 3 (.t 71) (.t 80))⟩,
    ⟨none, (.mv (some 9) (.t 81))⟩])
  (.reg [⟨none, (.mv (some 82) (.t 10))⟩,
    ⟨none, (.mv (some 83) (.t 8))⟩,
    ⟨none, (.mv (some 84) (.t 11))⟩,
    ⟨none, (.ea 85 3 (.t 83) (.t 84))⟩,
    ⟨none, (.ld 86 none (.t 85))⟩,
    ⟨none, (.ar 87 .sub (.t 82) (.t 86))⟩,
    ⟨none, (.mv (some 10) (.t 87))⟩]))))
  (.reg [⟨none, (.mv (some 58) (.t 11))⟩,
    ⟨none, (.ar 59 .add (.t 58) (.v (.int .i64 1)))⟩,
    ⟨none, (.mv (some 11) (.t 59))⟩]))))))
  (.seq (.seq (.gh 5000008 [8, 9])
  (.seq (.gh 5000009 [9])
  (.block 4 (.loop ⟨[(10, (.lf (.int .i64)))], [(8, (.lf (.arr 1000003 (.int .i64)))), (9, (.lf (.arr 1000003 (.int .i64))))], [12, 13, 88, 89, 90, 91, 92, 93, 94, 95, 96, 97, 98, 99, 100, 101, 102, 103, 104, 105, 106, 107, 108, 109, 110, 111, 112, 113, 114, 115, 116, 117, 118].map .s⟩ (.seq (.seq (.reg [⟨none, (.mv (some 88) (.t 10))⟩,
    ⟨none, (.ar 89 .gtr (.t 88) (.v (.int .i64 0)))⟩])
  (.cond (.t 89)
    .skip
    (.exit 4)))
  (.block 5 (.seq (.reg [⟨none, (.mv (some 12) (.v (.int .i64 0)))⟩])
  (.seq (.seq (.reg [⟨none, (.mv (some 13) (.v (.int .i64 1)))⟩])
  (.block 6 (.loop ⟨[(12, (.lf (.int .i64))), (13, (.lf (.int .i64)))], [], [90, 91, 92, 93, 94, 95, 96, 97, 98, 99, 100, 101, 102, 103, 104, 105].map .s⟩ (.seq (.seq (.reg [⟨none, (.mv (some 90) (.t 13))⟩,
    ⟨none, (.mv (some 91) (.t 9))⟩,
    ⟨none, (.ln 92 (some 3) (.t 91))⟩,
    ⟨none, (.ar 93 .lss (.t 90) (.t 92))⟩])
  (.cond (.t 93)
    .skip
    (.exit 6)))
  (.seq (.block 7 (.seq (.reg [⟨none, (.mv (some 96) (.t 9))⟩,
    ⟨none, (.mv (some 97) (.t 13))⟩,
    ⟨none, (.ea 98 3 (.t 96) (.t 97))⟩,
    ⟨none, (.ld 99 none (.t 98))⟩,
    ⟨none, (.mv (some 100) (.t 9))⟩,
    ⟨none, (.mv (some 101) (.t 12))⟩,
    ⟨none, (.ea 102 3 (.t 100) (.t 101))⟩,
    ⟨none, (.ld 103 none (.t 102))⟩,
    ⟨none, (.ar 104 .gtr (.t 99) (.t 103))⟩])
  (.cond (.t 104)
    (.reg [⟨none, (.mv (some 105) (.t 13))⟩,
    ⟨none, (.mv (some 12) (.t 105))⟩])
    .skip)))
  (.reg [⟨none, (.mv (some 94) (.t 13))⟩,
    ⟨none, (.ar 95 .add (.t 94) (.v (.int .i64 1)))⟩,
    ⟨none, (.mv (some 13) (.t 95))⟩]))))))
  (.seq (.reg [⟨none, (.mv (some 106) (.t 8))⟩,
    ⟨none, (.mv (some 107) (.t 12))⟩,
    ⟨none, (.mv (some 108) (.t 8))⟩,
    ⟨none, (.mv (some 109) (.t 12))⟩,
    ⟨none, (.ea 110 3 (.t 108) (.t 109))⟩,
    ⟨none, (.ld 111 none (.t 110))⟩,
    ⟨none, (.ar 112 .add (.t 111) (.v (.int .i64 1)))⟩,
    ⟨none, (.ea 113 3 (.t 106) (.t 107))⟩,
    ⟨none, (.st none (.t 113) (.t 112))⟩])
  (.seq (.reg [⟨none, (.mv (some 114) (.t 9))⟩,
    ⟨none, (.mv (some 115) (.t 12))⟩,
    ⟨none, (.ea 116 3 (.t 114) (.t 115))⟩,
    ⟨none, (.st none (.t 116) (.v (.int .i64 (-1))))⟩])
  (.reg [⟨none, (.mv (some 117) (.t 10))⟩,
    ⟨none, (.ar 118 .sub (.t 117) (.v (.int .i64 1)))⟩,
    ⟨none, (.mv (some 10) (.t 118))⟩])))))))))))
  (.seq (.seq (.gh 8 [])
  (.reg [⟨none, (.mv (some 119) (.t 8))⟩,
    ⟨none, (.mv (some 4) (.t 119))⟩,
    ⟨none, (.mv (some 5) (.v (.int .i64 0)))⟩]))
  .ret)))))))))))
noncomputable def ent10 : TEnt := ⟨10, [(.int .i64), (.sl 3 (.int .i64))], (.tup (.pair (.sl 3 (.int .i64)) (.int .i64))), fun x => F10 x.1 x.2, .plain⟩
theorem eq10 (x : dens ent10.as) : ent10.F x = evF [ent20] SHF dc10 [(.tmp 4), (.tmp 5)] ent10.as ent10.rs x := by kernel_rfl
/-- library/libraryref01.Ints -/
noncomputable def F11 (a0 : List (Int)) (a1 : List (Int)) : Option (Bool) :=
  cond (!decide ((List.length a0 : Int) = (List.length a1 : Int)))
    (some false)
    (loopK (σ := Int) (fun p1 againp1 =>
      cond (decide (p1 < (List.length a0 : Int)))
        (gd (0 ≤ p1 ∧ p1 < (List.length a0 : Int)) <|
        gd (0 ≤ p1 ∧ p1 < (List.length a1 : Int)) <|
        cond (!decide ((List.getD a0 (Int.toNat p1) 0) = (List.getD a1 (Int.toNat p1) 0)))
          (some false)
          (bnd (IntKind.wrap .i64 (p1 + (1 : Int))) fun x2 =>
          againp1 x2))
        (some true)) (0 : Int))
def dc11 : DC :=
  (.seq (.reg [⟨none, (.mv (some 4) (.v (.bool false)))⟩])
  (.seq (.seq (.reg [⟨none, (.mv (some 6) (.t 0))⟩,
    ⟨none, (.ln 7 (some 3) (.t 6))⟩,
    ⟨none, (.mv (some 8) (.t 1))⟩,
    ⟨none, (.ln 9 (some 3) (.t 8))⟩,
    ⟨none, (.ar 10 .neq (.t 7) (.t 9))⟩])
  (.cond (.t 10)
    (.seq (.reg [⟨none, (.mv (some 4) (.v (.bool false)))⟩])
  .ret)
    .skip))
  (.seq (.seq (.reg [⟨none, (.mv (some 5) (.v (.int .i64 0)))⟩])
  (.block 0 (.loop ⟨[(5, (.lf (.int .i64)))], [], [4, 11, 12, 13, 14, 15, 16, 17, 18, 19, 20, 21, 22, 23, 24, 25].map .s⟩ (.seq (.seq (.reg [⟨none, (.mv (some 11) (.t 5))⟩,
    ⟨none, (.mv (some 12) (.t 0))⟩,
    ⟨none, (.ln 13 (some 3) (.t 12))⟩,
    ⟨none, (.ar 14 .lss (.t 11) (.t 13))⟩])
  (.cond (.t 14)
    .skip
    (.exit 0)))
  (.seq (.block 1 (.seq (.reg [⟨none, (.mv (some 17) (.t 0))⟩,
    ⟨none, (.mv (some 18) (.t 5))⟩,
    ⟨none, (.ea 19 3 (.t 17) (.t 18))⟩,
    ⟨none, (.ld 20 none (.t 19))⟩,
    ⟨none, (.mv (some 21) (.t 1))⟩,
    ⟨none, (.mv (some 22) (.t 5))⟩,
    ⟨none, (.ea 23 3 (.t 21) (.t 22))⟩,
    ⟨none, (.ld 24 none (.t 23))⟩,
    ⟨none, (.ar 25 .neq (.t 20) (.t 24))⟩])
  (.cond (.t 25)
    (.seq (.reg [⟨none, (.mv (some 4) (.v (.bool false)))⟩])
  .ret)
    .skip)))
  (.reg [⟨none, (.mv (some 15) (.t 5))⟩,
    ⟨none, (.ar 16 .add (.t 15) (.v (.int .i64 1)))⟩,
    ⟨none, (.mv (some 5) (.t 16))⟩]))))))
  (.seq (.reg [⟨none, (.mv (some 4) (.v (.bool true)))⟩])
  .ret))))
noncomputable def ent11 : TEnt := ⟨11, [(.sl 3 (.int .i64)), (.sl 3 (.int .i64))], .bool, fun x => F11 x.1 x.2, .plain⟩
theorem eq11 (x : dens ent11.as) : ent11.F x = evF [] SHF dc11 [(.tmp 4)] ent11.as ent11.rs x := by kernel_rfl
/-- library/libraryref01.Digits -/
noncomputable def F29 (a0 : Int) (a1 : Int) : Option (List UInt8) :=
  loopK (σ := Int × List UInt8) (fun p1 againp1 =>
    jn (σ := Unit) (fun nextj2 =>
      cond (decide ((0 : Int) < p1.1))
        (nextj2 ())
        (cond (decide (p1.2 = ([] : List UInt8)))
          (nextj2 ())
          (loopK (σ := List UInt8) (fun p3 againp3 =>
            cond (decide ((List.length p3 : Int) < a1))
              (gd (List.length ([48] : List UInt8) + List.length p3 ≤ big) <|
              bnd (([48] : List UInt8) ++ p3) fun x4 =>
              againp3 x4)
              (some p3)) p1.2))) fun j2 =>
    gd ((10 : Int) ≠ 0) <|
    bnd (Int.tmod p1.1 (10 : Int)) fun x5 =>
    gd ((10 : Int) ≠ 0) <|
    bnd (Int.tmod p1.1 (10 : Int)) fun x6 =>
    bnd (IntKind.wrap .i64 (x6 + (1 : Int))) fun x7 =>
    gd (0 ≤ x5 ∧ x5 ≤ x7 ∧ x7 ≤ (List.length ([48, 49, 50, 51, 52, 53, 54, 55, 56, 57] : List UInt8) : Int)) <|
    bnd (List.drop (Int.toNat x5) (List.take (Int.toNat x7) ([48, 49, 50, 51, 52, 53, 54, 55, 56, 57] : List UInt8))) fun x8 =>
    gd (List.length x8 + List.length p1.2 ≤ big) <|
    bnd (x8 ++ p1.2) fun x9 =>
    gd ((10 : Int) ≠ 0) <|
    bnd (IntKind.wrap .i64 (Int.tdiv p1.1 (10 : Int))) fun x10 =>
    againp1 (x10, x9)) (a0, ([] : List UInt8))
def dc29 : DC :=
  (.seq (.reg [⟨none, (.mv (some 4) (.v (.str [])))⟩])
  (.seq (.reg [⟨none, (.mv (some 5) (.v (.str [48, 49, 50, 51, 52, 53, 54, 55, 56, 57])))⟩])
  (.seq (.reg [⟨none, (.mv (some 6) (.v (.str [])))⟩])
  (.seq (.block 0 (.loop ⟨[(0, (.lf (.int .i64))), (6, (.lf .str))], [], [7, 8, 9, 10, 11, 12, 13, 14, 15, 16, 17, 18, 19, 20, 21, 22, 23].map .s⟩ (.jn ⟨[], [], [7, 8, 9, 10, 11, 12].map .s⟩ (.seq (.reg [⟨none, (.mv (some 7) (.t 0))⟩,
    ⟨none, (.ar 8 .gtr (.t 7) (.v (.int .i64 0)))⟩,
    ⟨none, (.mv (some 9) (.t 8))⟩,
    ⟨(some (9, false)), (.mv (some 10) (.t 6))⟩,
    ⟨(some (9, false)), (.ar 11 .eql (.t 10) (.v (.str [])))⟩,
    ⟨none, (.pick 12 (.t 9) (.v (.bool true)) (.t 11))⟩])
  (.cond (.t 12)
    .skip
    (.exit 0)))
  (.block 1 (.seq (.reg [⟨none, (.mv (some 13) (.t 5))⟩,
    ⟨none, (.mv (some 14) (.t 0))⟩,
    ⟨none, (.ar 15 .rem (.t 14) (.v (.int .i64 10)))⟩,
    ⟨none, (.mv (some 16) (.t 0))⟩,
    ⟨none, (.ar 17 .rem (.t 16) (.v (.int .i64 10)))⟩,
    ⟨none, (.ar 18 .add (.t 17) (.v (.int .i64 1)))⟩,
    ⟨none, (.sc 19 none (.t 13) (some (.t 15)) (some (.t 18)))⟩,
    ⟨none, (.mv (some 20) (.t 6))⟩,
    ⟨none, (.ar 21 .add (.t 19) (.t 20))⟩,
    ⟨none, (.mv (some 6) (.t 21))⟩])
  (.reg [⟨none, (.mv (some 22) (.t 0))⟩,
    ⟨none, (.ar 23 .quo (.t 22) (.v (.int .i64 10)))⟩,
    ⟨none, (.mv (some 0) (.t 23))⟩]))))))
  (.seq (.block 2 (.loop ⟨[(6, (.lf .str))], [], [24, 25, 26, 27, 28, 29].map .s⟩ (.seq (.seq (.reg [⟨none, (.mv (some 24) (.t 6))⟩,
    ⟨none, (.ln 25 none (.t 24))⟩,
    ⟨none, (.mv (some 26) (.t 1))⟩,
    ⟨none, (.ar 27 .lss (.t 25) (.t 26))⟩])
  (.cond (.t 27)
    .skip
    (.exit 2)))
  (.block 3 (.reg [⟨none, (.mv (some 28) (.t 6))⟩,
    ⟨none, (.ar 29 .add (.v (.str [48])) (.t 28))⟩,
    ⟨none, (.mv (some 6) (.t 29))⟩])))))
  (.seq (.reg [⟨none, (.mv (some 30) (.t 6))⟩,
    ⟨none, (.mv (some 4) (.t 30))⟩])
  .ret))))))
noncomputable def ent29 : TEnt := ⟨29, [(.int .i64), (.int .i64)], .str, fun x => F29 x.1 x.2, .plain⟩
theorem eq29 (x : dens ent29.as) : ent29.F x = evF [] SHF dc29 [(.tmp 4)] ent29.as ent29.rs x := by kernel_rfl
/-- library/money.Format -/
noncomputable def F14 (a0 : Int) : Option (List UInt8) :=
  bindO (F16 a0) fun y1 =>
  cond (!y1)
    (some ([] : List UInt8))
    (bindO (fItoa a0) fun y2 =>
    jn (σ := List UInt8) (fun nextj3 =>
      cond (decide ((List.length y2 : Int) < (3 : Int)))
        (bnd (IntKind.wrap .i64 ((3 : Int) - (List.length y2 : Int))) fun x4 =>
        bindO (fRepeat ([48] : List UInt8) x4) fun y5 =>
        gd (List.length y5 + List.length y2 ≤ big) <|
        bnd (y5 ++ y2) fun x6 =>
        nextj3 x6)
        (nextj3 y2)) fun j3 =>
    bnd (IntKind.wrap .i64 ((List.length j3 : Int) - (2 : Int))) fun x7 =>
    gd (0 ≤ x7 ∧ x7 ≤ (List.length j3 : Int)) <|
    bnd (List.take (Int.toNat x7) j3) fun x8 =>
    gd (List.length x8 + List.length ([46] : List UInt8) ≤ big) <|
    bnd (x8 ++ ([46] : List UInt8)) fun x9 =>
    bnd (IntKind.wrap .i64 ((List.length j3 : Int) - (2 : Int))) fun x10 =>
    gd (0 ≤ x10 ∧ x10 ≤ (List.length j3 : Int)) <|
    bnd (List.drop (Int.toNat x10) j3) fun x11 =>
    gd (List.length x9 + List.length x11 ≤ big) <|
    bnd (x9 ++ x11) fun x12 =>
    some x12)
def dc14 : DC :=
  (.seq (.reg [⟨none, (.mv (some 2) (.v (.str [])))⟩])
  (.seq (.seq (.reg [⟨none, (.mv (some 4) (.t 0))⟩,
    ⟨none, (.ca (some 5) 16 [(.t 4)])⟩,
    ⟨none, (.un 6 .not (.t 5))⟩])
  (.cond (.t 6)
    (.seq (.reg [⟨none, (.mv (some 2) (.v (.str [])))⟩])
  .ret)
    .skip))
  (.seq (.reg [⟨none, (.mv (some 7) (.t 0))⟩,
    ⟨none, (.ca (some 8) 26 [(.t 7)])⟩,
    ⟨none, (.mv (some 3) (.t 8))⟩])
  (.jn ⟨[(3, (.lf .str))], [], [9, 10, 11, 12, 13, 14, 15, 16, 17].map .s⟩ (.seq (.reg [⟨none, (.mv (some 9) (.t 3))⟩,
    ⟨none, (.ln 10 none (.t 9))⟩,
    ⟨none, (.ar 11 .lss (.t 10) (.v (.int .i64 3)))⟩])
  (.cond (.t 11)
    (.reg [⟨none, (.mv (some 12) (.t 3))⟩,
    ⟨none, (.ln 13 none (.t 12))⟩,
    ⟨none, (.ar 14 .sub (.v (.int .i64 3)) (.t 13))⟩,
    ⟨none, (.ca (some 15) 28 [(.v (.str [48])), (.t 14)])⟩,
    ⟨none, (.mv (some 16) (.t 3))⟩,
    ⟨none, (.ar 17 .add (.t 15) (.t 16))⟩,
    ⟨none, (.mv (some 3) (.t 17))⟩])
    .skip))
  (.seq (.reg [⟨none, (.mv (some 18) (.t 3))⟩,
    ⟨none, (.mv (some 19) (.t 3))⟩,
    ⟨none, (.ln 20 none (.t 19))⟩,
    ⟨none, (.ar 21 .sub (.t 20) (.v (.int .i64 2)))⟩,
    ⟨none, (.sc 22 none (.t 18) none (some (.t 21)))⟩,
    ⟨none, (.ar 23 .add (.t 22) (.v (.str [46])))⟩,
    ⟨none, (.mv (some 24) (.t 3))⟩,
    ⟨none, (.mv (some 25) (.t 3))⟩,
    ⟨none, (.ln 26 none (.t 25))⟩,
    ⟨none, (.ar 27 .sub (.t 26) (.v (.int .i64 2)))⟩,
    ⟨none, (.sc 28 none (.t 24) (some (.t 27)) none)⟩,
    ⟨none, (.ar 29 .add (.t 23) (.t 28))⟩,
    ⟨none, (.mv (some 2) (.t 29))⟩])
  .ret)))))
noncomputable def ent14 : TEnt := ⟨14, [(.int .i64)], .str, fun x => F14 x, .plain⟩
theorem eq14 (x : dens ent14.as) : ent14.F x = evF [ent16, entItoa, entRepeat] SHF dc14 [(.tmp 2)] ent14.as ent14.rs x := by kernel_rfl
/-- library/libraryref04.Format -/
noncomputable def F15 (a0 : Int) : Option (List UInt8) :=
  bindO (F20 a0) fun y1 =>
  cond (!y1)
    (some ([] : List UInt8))
    (gd ((100 : Int) ≠ 0) <|
    bnd (IntKind.wrap .i64 (Int.tdiv a0 (100 : Int))) fun x2 =>
    bindO (F29 x2 (1 : Int)) fun y3 =>
    gd (List.length y3 + List.length ([46] : List UInt8) ≤ big) <|
    bnd (y3 ++ ([46] : List UInt8)) fun x4 =>
    gd ((100 : Int) ≠ 0) <|
    bnd (Int.tmod a0 (100 : Int)) fun x5 =>
    bindO (F29 x5 (2 : Int)) fun y6 =>
    gd (List.length x4 + List.length y6 ≤ big) <|
    bnd (x4 ++ y6) fun x7 =>
    some x7)
def dc15 : DC :=
  (.seq (.reg [⟨none, (.mv (some 2) (.v (.str [])))⟩])
  (.seq (.seq (.reg [⟨none, (.mv (some 3) (.t 0))⟩,
    ⟨none, (.ca (some 4) 20 [(.t 3)])⟩,
    ⟨none, (.un 5 .not (.t 4))⟩])
  (.cond (.t 5)
    (.seq (.reg [⟨none, (.mv (some 2) (.v (.str [])))⟩])
  .ret)
    .skip))
  (.seq (.reg [⟨none, (.mv (some 6) (.t 0))⟩,
    ⟨none, (.ar 7 .quo (.t 6) (.v (.int .i64 100)))⟩,
    ⟨none, (.ca (some 8) 29 [(.t 7), (.v (.int .i64 1))])⟩,
    ⟨none, (.ar 9 .add (.t 8) (.v (.str [46])))⟩,
    ⟨none, (.mv (some 10) (.t 0))⟩,
    ⟨none, (.ar 11 .rem (.t 10) (.v (.int .i64 100)))⟩,
    ⟨none, (.ca (some 12) 29 [(.t 11), (.v (.int .i64 2))])⟩,
    ⟨none, (.ar 13 .add (.t 9) (.t 12))⟩,
    ⟨none, (.mv (some 2) (.t 13))⟩])
  .ret)))
noncomputable def ent15 : TEnt := ⟨15, [(.int .i64)], .str, fun x => F15 x, .plain⟩
theorem eq15 (x : dens ent15.as) : ent15.F x = evF [ent20, ent29] SHF dc15 [(.tmp 2)] ent15.as ent15.rs x := by kernel_rfl
/-- library/money.Parse -/
noncomputable def F12 (a0 : List UInt8) : Option (Int × Int) :=
  bindO (fCut a0 ([46] : List UInt8)) fun y1 =>
  jn (σ := Unit) (fun nextj2 =>
    cond (!y1.2.2)
      (some ((0 : Int), (3 : Int)))
      (cond (!decide ((List.length y1.2.1 : Int) = (2 : Int)))
        (some ((0 : Int), (3 : Int)))
        (cond (decide (y1.1 = ([] : List UInt8)))
          (some ((0 : Int), (3 : Int)))
          (cond (decide ((1 : Int) < (List.length y1.1 : Int)))
            (gd (0 ≤ (0 : Int) ∧ (0 : Int) < (List.length y1.1 : Int)) <|
            cond (decide ((UInt8.toNat (List.getD y1.1 (Int.toNat (0 : Int)) 0) : Int) = (48 : Int)))
              (some ((0 : Int), (3 : Int)))
              (gd (List.length y1.1 + List.length y1.2.1 ≤ big) <|
              bnd (y1.1 ++ y1.2.1) fun x3 =>
              bindO (fTrim x3 ([48, 49, 50, 51, 52, 53, 54, 55, 56, 57] : List UInt8)) fun y4 =>
              cond (!decide (y4 = ([] : List UInt8)))
                (some ((0 : Int), (3 : Int)))
                (nextj2 ())))
            (gd (List.length y1.1 + List.length y1.2.1 ≤ big) <|
            bnd (y1.1 ++ y1.2.1) fun x5 =>
            bindO (fTrim x5 ([48, 49, 50, 51, 52, 53, 54, 55, 56, 57] : List UInt8)) fun y6 =>
            cond (!decide (y6 = ([] : List UInt8)))
              (some ((0 : Int), (3 : Int)))
              (nextj2 ())))))) fun j2 =>
  bindO (fItoa (100000000 : Int)) fun y7 =>
  cond (decide ((List.length y7 : Int) < (List.length y1.1 : Int)))
    (some ((0 : Int), (2 : Int)))
    (gd (List.length y1.1 + List.length y1.2.1 ≤ big) <|
    bnd (y1.1 ++ y1.2.1) fun x8 =>
    bindO (fAtoi x8) fun y9 =>
    cond (!(Option.isNone y9.2))
      (some ((0 : Int), (2 : Int)))
      (bindO (F16 y9.1) fun y10 =>
      cond (!y10)
        (some ((0 : Int), (2 : Int)))
        (some (y9.1, (0 : Int)))))
def dc12 : DC :=
  (.seq (.reg [⟨none, (.mv (some 2) (.v (.int .i64 0)))⟩,
    ⟨none, (.mv (some 3) (.v (.int .i64 0)))⟩])
  (.seq (.reg [⟨none, (.mv (some 10) (.t 0))⟩,
    ⟨none, (.ca (some 11) 24 [(.t 10), (.v (.str [46]))])⟩,
    ⟨none, (.mv (some 9) (.t 11))⟩,
    ⟨none, (.ex 12 0 (.t 9))⟩,
    ⟨none, (.ex 13 1 (.t 9))⟩,
    ⟨none, (.ex 14 2 (.t 9))⟩,
    ⟨none, (.mv (some 4) (.t 12))⟩,
    ⟨none, (.mv (some 5) (.t 13))⟩,
    ⟨none, (.mv (some 6) (.t 14))⟩])
  (.jn ⟨[], [], [15, 16, 17, 18, 19, 20, 21, 22, 23, 24, 25, 26, 27, 28, 29, 30, 31, 32, 33, 34, 35, 36, 37, 38, 39, 40, 41, 42].map .s⟩ (.seq (.reg [⟨none, (.mv (some 15) (.t 6))⟩,
    ⟨none, (.un 16 .not (.t 15))⟩,
    ⟨none, (.mv (some 17) (.t 16))⟩,
    ⟨(some (17, false)), (.mv (some 18) (.t 5))⟩,
    ⟨(some (17, false)), (.ln 19 none (.t 18))⟩,
    ⟨(some (17, false)), (.ar 20 .neq (.t 19) (.v (.int .i64 2)))⟩,
    ⟨none, (.pick 21 (.t 17) (.v (.bool true)) (.t 20))⟩,
    ⟨none, (.mv (some 22) (.t 21))⟩,
    ⟨(some (22, false)), (.mv (some 23) (.t 4))⟩,
    ⟨(some (22, false)), (.ar 24 .eql (.t 23) (.v (.str [])))⟩,
    ⟨none, (.pick 25 (.t 22) (.v (.bool true)) (.t 24))⟩,
    ⟨none, (.mv (some 26) (.t 25))⟩,
    ⟨(some (26, false)), (.mv (some 27) (.t 4))⟩,
    ⟨(some (26, false)), (.ln 28 none (.t 27))⟩,
    ⟨(some (26, false)), (.ar 29 .gtr (.t 28) (.v (.int .i64 1)))⟩,
    ⟨(some (26, false)), (.mv (some 30) (.t 29))⟩,
    ⟨(some (30, true)), (.mv (some 31) (.t 4))⟩,
    ⟨(some (30, true)), (.ix 32 (.t 31) (.v (.int .i64 0)))⟩,
    ⟨(some (30, true)), (.ar 33 .eql (.t 32) (.v (.int .u8 48)))⟩,
    ⟨(some (26, false)), (.pick 34 (.t 30) (.t 33) (.v (.bool false)))⟩,
    ⟨none, (.pick 35 (.t 26) (.v (.bool true)) (.t 34))⟩,
    ⟨none, (.mv (some 36) (.t 35))⟩,
    ⟨(some (36, false)), (.mv (some 37) (.t 4))⟩,
    ⟨(some (36, false)), (.mv (some 38) (.t 5))⟩,
    ⟨(some (36, false)), (.ar 39 .add (.t 37) (.t 38))⟩,
    ⟨(some (36, false)), (.ca (some 40) 25 [(.t 39), (.v (.str [48, 49, 50, 51, 52, 53, 54, 55, 56, 57]))])⟩,
    ⟨(some (36, false)), (.ar 41 .neq (.t 40) (.v (.str [])))⟩,
    ⟨none, (.pick 42 (.t 36) (.v (.bool true)) (.t 41))⟩])
  (.cond (.t 42)
    (.seq (.reg [⟨none, (.mv (some 2) (.v (.int .i64 0)))⟩,
    ⟨none, (.mv (some 3) (.v (.int .i64 3)))⟩])
  .ret)
    .skip))
  (.seq (.seq (.reg [⟨none, (.mv (some 43) (.t 4))⟩,
    ⟨none, (.ln 44 none (.t 43))⟩,
    ⟨none, (.ca (some 45) 26 [(.v (.int .i64 100000000))])⟩,
    ⟨none, (.ln 46 none (.t 45))⟩,
    ⟨none, (.ar 47 .gtr (.t 44) (.t 46))⟩])
  (.cond (.t 47)
    (.seq (.reg [⟨none, (.mv (some 2) (.v (.int .i64 0)))⟩,
    ⟨none, (.mv (some 3) (.v (.int .i64 2)))⟩])
  .ret)
    .skip))
  (.seq (.reg [⟨none, (.mv (some 49) (.t 4))⟩,
    ⟨none, (.mv (some 50) (.t 5))⟩,
    ⟨none, (.ar 51 .add (.t 49) (.t 50))⟩,
    ⟨none, (.ca (some 52) 27 [(.t 51)])⟩,
    ⟨none, (.mv (some 48) (.t 52))⟩,
    ⟨none, (.ex 53 0 (.t 48))⟩,
    ⟨none, (.ex 54 1 (.t 48))⟩,
    ⟨none, (.mv (some 7) (.t 53))⟩,
    ⟨none, (.mv (some 8) (.t 54))⟩])
  (.seq (.seq (.reg [⟨none, (.mv (some 55) (.t 8))⟩,
    ⟨none, (.se 56 .ifc true (.t 55) (.v .nili))⟩,
    ⟨none, (.mv (some 57) (.t 56))⟩,
    ⟨(some (57, false)), (.mv (some 58) (.t 7))⟩,
    ⟨(some (57, false)), (.ca (some 59) 16 [(.t 58)])⟩,
    ⟨(some (57, false)), (.un 60 .not (.t 59))⟩,
    ⟨none, (.pick 61 (.t 57) (.v (.bool true)) (.t 60))⟩])
  (.cond (.t 61)
    (.seq (.reg [⟨none, (.mv (some 2) (.v (.int .i64 0)))⟩,
    ⟨none, (.mv (some 3) (.v (.int .i64 2)))⟩])
  .ret)
    .skip))
  (.seq (.reg [⟨none, (.mv (some 62) (.t 7))⟩,
    ⟨none, (.mv (some 2) (.t 62))⟩,
    ⟨none, (.mv (some 3) (.v (.int .i64 0)))⟩])
  .ret)))))))
noncomputable def ent12 : TEnt := ⟨12, [.str], (.tup (.pair (.int .i64) (.int .i64))), fun x => F12 x, .plain⟩
theorem eq12 (x : dens ent12.as) : ent12.F x = evF [ent16, entCut, entTrim, entItoa, entAtoi] SHF dc12 [(.tmp 2), (.tmp 3)] ent12.as ent12.rs x := by kernel_rfl
/-- library/libraryref04.Parse -/
noncomputable def F13 (a0 : List UInt8) : Option (Int × Int) :=
  bnd (IntKind.wrap .i64 ((List.length a0 : Int) - (3 : Int))) fun x1 =>
  jn (σ := Unit) (fun nextj2 =>
    cond (decide (x1 < (1 : Int)))
      (some ((0 : Int), (3 : Int)))
      (gd (0 ≤ x1 ∧ x1 < (List.length a0 : Int)) <|
      cond (!decide ((UInt8.toNat (List.getD a0 (Int.toNat x1) 0) : Int) = (46 : Int)))
        (some ((0 : Int), (3 : Int)))
        (cond (decide ((1 : Int) < x1))
          (gd (0 ≤ (0 : Int) ∧ (0 : Int) < (List.length a0 : Int)) <|
          cond (decide ((UInt8.toNat (List.getD a0 (Int.toNat (0 : Int)) 0) : Int) = (48 : Int)))
            (some ((0 : Int), (3 : Int)))
            (nextj2 ()))
          (nextj2 ())))) fun j2 =>
  loopK (σ := Int × Bool × Int) (fun p3 againp3 =>
    cond (decide (p3.2.2 < (List.length a0 : Int)))
      (cond (decide (p3.2.2 = x1))
        (bnd (IntKind.wrap .i64 (p3.2.2 + (1 : Int))) fun x4 =>
        againp3 (p3.1, p3.2.1, x4))
        (gd (0 ≤ p3.2.2 ∧ p3.2.2 < (List.length a0 : Int)) <|
        cond (decide ((UInt8.toNat (List.getD a0 (Int.toNat p3.2.2) 0) : Int) < (48 : Int)))
          (some ((0 : Int), (3 : Int)))
          (gd (0 ≤ p3.2.2 ∧ p3.2.2 < (List.length a0 : Int)) <|
          cond (decide ((57 : Int) < (UInt8.toNat (List.getD a0 (Int.toNat p3.2.2) 0) : Int)))
            (some ((0 : Int), (3 : Int)))
            (bnd (IntKind.wrap .i64 (p3.1 * (10 : Int))) fun x5 =>
            gd (0 ≤ p3.2.2 ∧ p3.2.2 < (List.length a0 : Int)) <|
            bnd (IntKind.wrap .i64 (x5 + (IntKind.wrap .i64 (UInt8.toNat (List.getD a0 (Int.toNat p3.2.2) 0) : Int)))) fun x6 =>
            bnd (IntKind.wrap .i64 (x6 - (48 : Int))) fun x7 =>
            cond (decide ((100000000 : Int) < x7))
              (bnd (IntKind.wrap .i64 (p3.2.2 + (1 : Int))) fun x8 =>
              againp3 ((100000000 : Int), true, x8))
              (bnd (IntKind.wrap .i64 (p3.2.2 + (1 : Int))) fun x9 =>
              againp3 (x7, p3.2.1, x9))))))
      (cond (p3.2.1)
        (some ((0 : Int), (2 : Int)))
        (some (p3.1, (0 : Int))))) ((0 : Int), false, (0 : Int))
def dc13 : DC :=
  (.seq (.reg [⟨none, (.mv (some 2) (.v (.int .i64 0)))⟩,
    ⟨none, (.mv (some 3) (.v (.int .i64 0)))⟩])
  (.seq (.reg [⟨none, (.mv (some 8) (.t 0))⟩,
    ⟨none, (.ln 9 none (.t 8))⟩,
    ⟨none, (.ar 10 .sub (.t 9) (.v (.int .i64 3)))⟩,
    ⟨none, (.mv (some 4) (.t 10))⟩])
  (.jn ⟨[], [], [11, 12, 13, 14, 15, 16, 17, 18, 19, 20, 21, 22, 23, 24, 25, 26, 27].map .s⟩ (.seq (.reg [⟨none, (.mv (some 11) (.t 4))⟩,
    ⟨none, (.ar 12 .lss (.t 11) (.v (.int .i64 1)))⟩,
    ⟨none, (.mv (some 13) (.t 12))⟩,
    ⟨(some (13, false)), (.mv (some 14) (.t 0))⟩,
    ⟨(some (13, false)), (.mv (some 15) (.t 4))⟩,
    ⟨(some (13, false)), (.ix 16 (.t 14) (.t 15))⟩,
    ⟨(some (13, false)), (.ar 17 .neq (.t 16) (.v (.int .u8 46)))⟩,
    ⟨none, (.pick 18 (.t 13) (.v (.bool true)) (.t 17))⟩,
    ⟨none, (.mv (some 19) (.t 18))⟩,
    ⟨(some (19, false)), (.mv (some 20) (.t 4))⟩,
    ⟨(some (19, false)), (.ar 21 .gtr (.t 20) (.v (.int .i64 1)))⟩,
    ⟨(some (19, false)), (.mv (some 22) (.t 21))⟩,
    ⟨(some (22, true)), (.mv (some 23) (.t 0))⟩,
    ⟨(some (22, true)), (.ix 24 (.t 23) (.v (.int .i64 0)))⟩,
    ⟨(some (22, true)), (.ar 25 .eql (.t 24) (.v (.int .u8 48)))⟩,
    ⟨(some (19, false)), (.pick 26 (.t 22) (.t 25) (.v (.bool false)))⟩,
    ⟨none, (.pick 27 (.t 19) (.v (.bool true)) (.t 26))⟩])
  (.cond (.t 27)
    (.seq (.reg [⟨none, (.mv (some 2) (.v (.int .i64 0)))⟩,
    ⟨none, (.mv (some 3) (.v (.int .i64 3)))⟩])
  .ret)
    .skip))
  (.seq (.reg [⟨none, (.mv (some 5) (.v (.int .i64 0)))⟩])
  (.seq (.reg [⟨none, (.mv (some 6) (.v (.bool false)))⟩])
  (.seq (.seq (.reg [⟨none, (.mv (some 7) (.v (.int .i64 0)))⟩])
  (.block 0 (.loop ⟨[(5, (.lf (.int .i64))), (6, (.lf .bool)), (7, (.lf (.int .i64)))], [], [2, 3, 28, 29, 30, 31, 32, 33, 34, 35, 36, 37, 38, 39, 40, 41, 42, 43, 44, 45, 46, 47, 48, 49, 50, 51, 52, 53, 54, 55, 56].map .s⟩ (.seq (.seq (.reg [⟨none, (.mv (some 28) (.t 7))⟩,
    ⟨none, (.mv (some 29) (.t 0))⟩,
    ⟨none, (.ln 30 none (.t 29))⟩,
    ⟨none, (.ar 31 .lss (.t 28) (.t 30))⟩])
  (.cond (.t 31)
    .skip
    (.exit 0)))
  (.seq (.block 1 (.seq (.seq (.reg [⟨none, (.mv (some 34) (.t 7))⟩,
    ⟨none, (.mv (some 35) (.t 4))⟩,
    ⟨none, (.ar 36 .eql (.t 34) (.t 35))⟩])
  (.cond (.t 36)
    (.exit 1)
    .skip))
  (.seq (.seq (.reg [⟨none, (.mv (some 37) (.t 0))⟩,
    ⟨none, (.mv (some 38) (.t 7))⟩,
    ⟨none, (.ix 39 (.t 37) (.t 38))⟩,
    ⟨none, (.ar 40 .lss (.t 39) (.v (.int .u8 48)))⟩,
    ⟨none, (.mv (some 41) (.t 40))⟩,
    ⟨(some (41, false)), (.mv (some 42) (.t 0))⟩,
    ⟨(some (41, false)), (.mv (some 43) (.t 7))⟩,
    ⟨(some (41, false)), (.ix 44 (.t 42) (.t 43))⟩,
    ⟨(some (41, false)), (.ar 45 .gtr (.t 44) (.v (.int .u8 57)))⟩,
    ⟨none, (.pick 46 (.t 41) (.v (.bool true)) (.t 45))⟩])
  (.cond (.t 46)
    (.seq (.reg [⟨none, (.mv (some 2) (.v (.int .i64 0)))⟩,
    ⟨none, (.mv (some 3) (.v (.int .i64 3)))⟩])
  .ret)
    .skip))
  (.seq (.reg [⟨none, (.mv (some 47) (.t 5))⟩,
    ⟨none, (.ar 48 .mul (.t 47) (.v (.int .i64 10)))⟩,
    ⟨none, (.mv (some 49) (.t 0))⟩,
    ⟨none, (.mv (some 50) (.t 7))⟩,
    ⟨none, (.ix 51 (.t 49) (.t 50))⟩,
    ⟨none, (.cvi 52 .i64 (.t 51))⟩,
    ⟨none, (.ar 53 .add (.t 48) (.t 52))⟩,
    ⟨none, (.ar 54 .sub (.t 53) (.v (.int .i64 48)))⟩,
    ⟨none, (.mv (some 5) (.t 54))⟩])
  (.seq (.reg [⟨none, (.mv (some 55) (.t 5))⟩,
    ⟨none, (.ar 56 .gtr (.t 55) (.v (.int .i64 100000000)))⟩])
  (.cond (.t 56)
    (.seq (.reg [⟨none, (.mv (some 6) (.v (.bool true)))⟩])
  (.reg [⟨none, (.mv (some 5) (.v (.int .i64 100000000)))⟩]))
    .skip))))))
  (.reg [⟨none, (.mv (some 32) (.t 7))⟩,
    ⟨none, (.ar 33 .add (.t 32) (.v (.int .i64 1)))⟩,
    ⟨none, (.mv (some 7) (.t 33))⟩]))))))
  (.seq (.seq (.reg [⟨none, (.mv (some 57) (.t 6))⟩])
  (.cond (.t 57)
    (.seq (.reg [⟨none, (.mv (some 2) (.v (.int .i64 0)))⟩,
    ⟨none, (.mv (some 3) (.v (.int .i64 2)))⟩])
  .ret)
    .skip))
  (.seq (.reg [⟨none, (.mv (some 58) (.t 5))⟩,
    ⟨none, (.mv (some 2) (.t 58))⟩,
    ⟨none, (.mv (some 3) (.v (.int .i64 0)))⟩])
  .ret))))))))
noncomputable def ent13 : TEnt := ⟨13, [.str], (.tup (.pair (.int .i64) (.int .i64))), fun x => F13 x, .plain⟩
theorem eq13 (x : dens ent13.as) : ent13.F x = evF [] SHF dc13 [(.tmp 2), (.tmp 3)] ent13.as ent13.rs x := by kernel_rfl
/-- library/librarylaw04.alive -/
noncomputable def F8 : Option (Bool) :=
  bindO (F9 (100 : Int) [(1 : Int), (1 : Int), (1 : Int)]) fun y1 =>
  cond (!decide (y1.2 = (0 : Int)))
    (some false)
    (bindO (F11 y1.1 [(34 : Int), (33 : Int), (33 : Int)]) fun y2 =>
    cond (!y2)
      (some false)
      (bindO (F12 ([48, 49, 46, 48, 48] : List UInt8)) fun y3 =>
      bindO (F12 ([49, 48, 48, 48, 48, 48, 48, 46, 48, 49] : List UInt8)) fun y4 =>
      bindO (F17 (25 : Int) (100 : Int)) fun y5 =>
      cond (decide (y5 = (2 : Int)))
        (bindO (F17 (35 : Int) (100 : Int)) fun y6 =>
        cond (decide (y6 = (4 : Int)))
          (bindO (F14 (1234 : Int)) fun y7 =>
          cond (decide (y7 = ([49, 50, 46, 51, 52] : List UInt8)))
            (bindO (F14 (5 : Int)) fun y8 =>
            cond (decide (y8 = ([48, 46, 48, 53] : List UInt8)))
              (cond (decide (y3.2 = (3 : Int)))
                (some (decide (y4.2 = (2 : Int))))
                (some false))
              (some false))
            (some false))
          (some false))
        (some false)))
def dc8 : DC :=
  (.seq (.reg [⟨none, (.mv (some 0) (.v (.bool false)))⟩])
  (.seq (.reg [⟨none, (.bs 8 3 none [(.v (.int .i64 1)), (.v (.int .i64 1)), (.v (.int .i64 1))])⟩,
    ⟨none, (.ca (some 9) 9 [(.v (.int .i64 100)), (.t 8)])⟩,
    ⟨none, (.mv (some 7) (.t 9))⟩,
    ⟨none, (.ex 10 0 (.t 7))⟩,
    ⟨none, (.ex 11 1 (.t 7))⟩,
    ⟨none, (.mv (some 1) (.t 10))⟩,
    ⟨none, (.mv (some 2) (.t 11))⟩])
  (.seq (.seq (.reg [⟨none, (.mv (some 12) (.t 2))⟩,
    ⟨none, (.ar 13 .neq (.t 12) (.v (.int .i64 0)))⟩,
    ⟨none, (.mv (some 14) (.t 13))⟩,
    ⟨(some (14, false)), (.mv (some 15) (.t 1))⟩,
    ⟨(some (14, false)), (.bs 16 3 none [(.v (.int .i64 34)), (.v (.int .i64 33)), (.v (.int .i64 33))])⟩,
    ⟨(some (14, false)), (.ca (some 17) 11 [(.t 15), (.t 16)])⟩,
    ⟨(some (14, false)), (.un 18 .not (.t 17))⟩,
    ⟨none, (.pick 19 (.t 14) (.v (.bool true)) (.t 18))⟩])
  (.cond (.t 19)
    (.seq (.reg [⟨none, (.mv (some 0) (.v (.bool false)))⟩])
  .ret)
    .skip))
  (.seq (.reg [⟨none, (.ca (some 21) 12 [(.v (.str [48, 49, 46, 48, 48]))])⟩,
    ⟨none, (.mv (some 20) (.t 21))⟩,
    ⟨none, (.ex 22 0 (.t 20))⟩,
    ⟨none, (.ex 23 1 (.t 20))⟩,
    ⟨none, (.mv (some 3) (.t 22))⟩,
    ⟨none, (.mv (some 4) (.t 23))⟩])
  (.seq (.reg [⟨none, (.ca (some 25) 12 [(.v (.str [49, 48, 48, 48, 48, 48, 48, 46, 48, 49]))])⟩,
    ⟨none, (.mv (some 24) (.t 25))⟩,
    ⟨none, (.ex 26 0 (.t 24))⟩,
    ⟨none, (.ex 27 1 (.t 24))⟩,
    ⟨none, (.mv (some 5) (.t 26))⟩,
    ⟨none, (.mv (some 6) (.t 27))⟩])
  (.seq (.reg [⟨none, (.ca (some 28) 17 [(.v (.int .i64 25)), (.v (.int .i64 100))])⟩,
    ⟨none, (.ar 29 .eql (.t 28) (.v (.int .i64 2)))⟩,
    ⟨none, (.mv (some 30) (.t 29))⟩,
    ⟨(some (30, true)), (.ca (some 31) 17 [(.v (.int .i64 35)), (.v (.int .i64 100))])⟩,
    ⟨(some (30, true)), (.ar 32 .eql (.t 31) (.v (.int .i64 4)))⟩,
    ⟨none, (.pick 33 (.t 30) (.t 32) (.v (.bool false)))⟩,
    ⟨none, (.mv (some 34) (.t 33))⟩,
    ⟨(some (34, true)), (.ca (some 35) 14 [(.v (.int .i64 1234))])⟩,
    ⟨(some (34, true)), (.ar 36 .eql (.t 35) (.v (.str [49, 50, 46, 51, 52])))⟩,
    ⟨none, (.pick 37 (.t 34) (.t 36) (.v (.bool false)))⟩,
    ⟨none, (.mv (some 38) (.t 37))⟩,
    ⟨(some (38, true)), (.ca (some 39) 14 [(.v (.int .i64 5))])⟩,
    ⟨(some (38, true)), (.ar 40 .eql (.t 39) (.v (.str [48, 46, 48, 53])))⟩,
    ⟨none, (.pick 41 (.t 38) (.t 40) (.v (.bool false)))⟩,
    ⟨none, (.mv (some 42) (.t 41))⟩,
    ⟨(some (42, true)), (.mv (some 43) (.t 4))⟩,
    ⟨(some (42, true)), (.ar 44 .eql (.t 43) (.v (.int .i64 3)))⟩,
    ⟨none, (.pick 45 (.t 42) (.t 44) (.v (.bool false)))⟩,
    ⟨none, (.mv (some 46) (.t 45))⟩,
    ⟨(some (46, true)), (.mv (some 47) (.t 6))⟩,
    ⟨(some (46, true)), (.ar 48 .eql (.t 47) (.v (.int .i64 2)))⟩,
    ⟨none, (.pick 49 (.t 46) (.t 48) (.v (.bool false)))⟩,
    ⟨none, (.mv (some 0) (.t 49))⟩])
  .ret))))))
noncomputable def ent8 : TEnt := ⟨8, [], .bool, fun _ => F8, .plain⟩
theorem eq8 (x : dens ent8.as) : ent8.F x = evF [ent9, ent11, ent12, ent14, ent17] SHF dc8 [(.tmp 0)] ent8.as ent8.rs x := by kernel_rfl
/-- library/librarylaw04.MoneyShares -/
noncomputable def F3 (a0 : Int) (a1 : List (Int)) : Option (Bool) :=
  bindO (F8) fun y1 =>
  cond (!y1)
    (some false)
    (cond (decide ((40 : Int) < (List.length a1 : Int)))
      (some true)
      (bindO (F9 a0 a1) fun y2 =>
      bindO (F10 a0 a1) fun y3 =>
      cond (decide (y2.2 = y3.2))
        (bindO (F11 y2.1 y3.1) fun y4 =>
        some y4)
        (some false)))
def dc3 : DC :=
  (.seq (.reg [⟨none, (.mv (some 4) (.v (.bool false)))⟩])
  (.seq (.seq (.reg [⟨none, (.ca (some 9) 8 [])⟩,
    ⟨none, (.un 10 .not (.t 9))⟩])
  (.cond (.t 10)
    (.seq (.reg [⟨none, (.mv (some 4) (.v (.bool false)))⟩])
  .ret)
    .skip))
  (.seq (.seq (.reg [⟨none, (.mv (some 11) (.t 1))⟩,
    ⟨none, (.ln 12 (some 3) (.t 11))⟩,
    ⟨none, (.ar 13 .gtr (.t 12) (.v (.int .i64 40)))⟩])
  (.cond (.t 13)
    (.seq (.reg [⟨none, (.mv (some 4) (.v (.bool true)))⟩])
  .ret)
    .skip))
  (.seq (.reg [⟨none, (.mv (some 15) (.t 0))⟩,
    ⟨none, (.mv (some 16) (.t 1))⟩,
    ⟨none, (.ca (some 17) 9 [(.t 15), (.t 16)])⟩,
    ⟨none, (.mv (some 14) (.t 17))⟩,
    ⟨none, (.ex 18 0 (.t 14))⟩,
    ⟨none, (.ex 19 1 (.t 14))⟩,
    ⟨none, (.mv (some 5) (.t 18))⟩,
    ⟨none, (.mv (some 6) (.t 19))⟩])
  (.seq (.reg [⟨none, (.mv (some 21) (.t 0))⟩,
    ⟨none, (.mv (some 22) (.t 1))⟩,
    ⟨none, (.ca (some 23) 10 [(.t 21), (.t 22)])⟩,
    ⟨none, (.mv (some 20) (.t 23))⟩,
    ⟨none, (.ex 24 0 (.t 20))⟩,
    ⟨none, (.ex 25 1 (.t 20))⟩,
    ⟨none, (.mv (some 7) (.t 24))⟩,
    ⟨none, (.mv (some 8) (.t 25))⟩])
  (.seq (.reg [⟨none, (.mv (some 26) (.t 6))⟩,
    ⟨none, (.mv (some 27) (.t 8))⟩,
    ⟨none, (.ar 28 .eql (.t 26) (.t 27))⟩,
    ⟨none, (.mv (some 29) (.t 28))⟩,
    ⟨(some (29, true)), (.mv (some 30) (.t 5))⟩,
    ⟨(some (29, true)), (.mv (some 31) (.t 7))⟩,
    ⟨(some (29, true)), (.ca (some 32) 11 [(.t 30), (.t 31)])⟩,
    ⟨none, (.pick 33 (.t 29) (.t 32) (.v (.bool false)))⟩,
    ⟨none, (.mv (some 4) (.t 33))⟩])
  .ret))))))
noncomputable def ent3 : TEnt := ⟨3, [(.int .i64), (.sl 3 (.int .i64))], .bool, fun x => F3 x.1 x.2, .plain⟩
theorem eq3 (x : dens ent3.as) : ent3.F x = evF [ent8, ent9, ent10, ent11] SHF dc3 [(.tmp 4)] ent3.as ent3.rs x := by kernel_rfl
/-- library/librarylaw04.MoneyTexts -/
noncomputable def F4 (a0 : Int) (a1 : List UInt8) : Option (Bool) :=
  bindO (F8) fun y1 =>
  cond (!y1)
    (some false)
    (cond (decide ((300 : Int) < (List.length a1 : Int)))
      (some true)
      (bindO (F12 a1) fun y2 =>
      bindO (F13 a1) fun y3 =>
      bindO (F14 a0) fun y4 =>
      bindO (F15 a0) fun y5 =>
      cond (decide (y4 = y5))
        (cond (decide (y2.1 = y3.1))
          (some (decide (y2.2 = y3.2)))
          (some false))
        (some false)))
def dc4 : DC :=
  (.seq (.reg [⟨none, (.mv (some 4) (.v (.bool false)))⟩])
  (.seq (.seq (.reg [⟨none, (.ca (some 9) 8 [])⟩,
    ⟨none, (.un 10 .not (.t 9))⟩])
  (.cond (.t 10)
    (.seq (.reg [⟨none, (.mv (some 4) (.v (.bool false)))⟩])
  .ret)
    .skip))
  (.seq (.seq (.reg [⟨none, (.mv (some 11) (.t 1))⟩,
    ⟨none, (.ln 12 none (.t 11))⟩,
    ⟨none, (.ar 13 .gtr (.t 12) (.v (.int .i64 300)))⟩])
  (.cond (.t 13)
    (.seq (.reg [⟨none, (.mv (some 4) (.v (.bool true)))⟩])
  .ret)
    .skip))
  (.seq (.reg [⟨none, (.mv (some 15) (.t 1))⟩,
    ⟨none, (.ca (some 16) 12 [(.t 15)])⟩,
    ⟨none, (.mv (some 14) (.t 16))⟩,
    ⟨none, (.ex 17 0 (.t 14))⟩,
    ⟨none, (.ex 18 1 (.t 14))⟩,
    ⟨none, (.mv (some 5) (.t 17))⟩,
    ⟨none, (.mv (some 6) (.t 18))⟩])
  (.seq (.reg [⟨none, (.mv (some 20) (.t 1))⟩,
    ⟨none, (.ca (some 21) 13 [(.t 20)])⟩,
    ⟨none, (.mv (some 19) (.t 21))⟩,
    ⟨none, (.ex 22 0 (.t 19))⟩,
    ⟨none, (.ex 23 1 (.t 19))⟩,
    ⟨none, (.mv (some 7) (.t 22))⟩,
    ⟨none, (.mv (some 8) (.t 23))⟩])
  (.seq (.reg [⟨none, (.mv (some 24) (.t 0))⟩,
    ⟨none, (.ca (some 25) 14 [(.t 24)])⟩,
    ⟨none, (.mv (some 26) (.t 0))⟩,
    ⟨none, (.ca (some 27) 15 [(.t 26)])⟩,
    ⟨none, (.ar 28 .eql (.t 25) (.t 27))⟩,
    ⟨none, (.mv (some 29) (.t 28))⟩,
    ⟨(some (29, true)), (.mv (some 30) (.t 5))⟩,
    ⟨(some (29, true)), (.mv (some 31) (.t 7))⟩,
    ⟨(some (29, true)), (.ar 32 .eql (.t 30) (.t 31))⟩,
    ⟨none, (.pick 33 (.t 29) (.t 32) (.v (.bool false)))⟩,
    ⟨none, (.mv (some 34) (.t 33))⟩,
    ⟨(some (34, true)), (.mv (some 35) (.t 6))⟩,
    ⟨(some (34, true)), (.mv (some 36) (.t 8))⟩,
    ⟨(some (34, true)), (.ar 37 .eql (.t 35) (.t 36))⟩,
    ⟨none, (.pick 38 (.t 34) (.t 37) (.v (.bool false)))⟩,
    ⟨none, (.mv (some 4) (.t 38))⟩])
  .ret))))))
noncomputable def ent4 : TEnt := ⟨4, [(.int .i64), .str], .bool, fun x => F4 x.1 x.2, .plain⟩
theorem eq4 (x : dens ent4.as) : ent4.F x = evF [ent8, ent12, ent13, ent14, ent15] SHF dc4 [(.tmp 4)] ent4.as ent4.rs x := by kernel_rfl
/-- library/librarylaw04.MoneyWhole -/
noncomputable def F5 (a0 : Int) (a1 : List (Int)) : Option (Bool) :=
  bindO (F8) fun y1 =>
  cond (!y1)
    (some false)
    (cond (decide ((40 : Int) < (List.length a1 : Int)))
      (some true)
      (bindO (F9 a0 a1) fun y2 =>
      cond (!decide (y2.2 = (0 : Int)))
        (none)
        (cond (!decide ((List.length y2.1 : Int) = (List.length a1 : Int)))
          (some false)
          (loopK (σ := Int × Int × Int) (fun p3 againp3 =>
            cond (decide (p3.2.2 < (List.length y2.1 : Int)))
              (gd (0 ≤ p3.2.2 ∧ p3.2.2 < (List.length a1 : Int)) <|
              bnd (IntKind.wrap .i64 (p3.1 + (List.getD a1 (Int.toNat p3.2.2) 0))) fun x4 =>
              gd (0 ≤ p3.2.2 ∧ p3.2.2 < (List.length y2.1 : Int)) <|
              bnd (IntKind.wrap .i64 (p3.2.1 + (List.getD y2.1 (Int.toNat p3.2.2) 0))) fun x5 =>
              bnd (IntKind.wrap .i64 (p3.2.2 + (1 : Int))) fun x6 =>
              againp3 (x4, x5, x6))
              (loopK (σ := Int) (fun p7 againp7 =>
                cond (decide (p7 < (List.length y2.1 : Int)))
                  (gd (0 ≤ p7 ∧ p7 < (List.length y2.1 : Int)) <|
                  bnd (IntKind.wrap .i64 ((List.getD y2.1 (Int.toNat p7) 0) * p3.1)) fun x8 =>
                  gd (0 ≤ p7 ∧ p7 < (List.length a1 : Int)) <|
                  bnd (IntKind.wrap .i64 (a0 * (List.getD a1 (Int.toNat p7) 0))) fun x9 =>
                  bnd (IntKind.wrap .i64 (x8 - x9)) fun x10 =>
                  jn (σ := Int × Int × Int × Bool × List (Int) × Int × Int × Int × Bool × Bool × Bool) (fun nextj11 =>
                    cond (decide (p3.1 ≤ x10))
                      (some false)
                      (bnd (IntKind.wrap .i64 (0 - p3.1)) fun x12 =>
                      cond (decide (x10 ≤ x12))
                        (some false)
                        (gd (0 ≤ p7 ∧ p7 < (List.length a1 : Int)) <|
                        cond (decide ((List.getD a1 (Int.toNat p7) 0) = (0 : Int)))
                          (gd (0 ≤ p7 ∧ p7 < (List.length y2.1 : Int)) <|
                          cond (!decide ((List.getD y2.1 (Int.toNat p7) 0) = (0 : Int)))
                            (some false)
                            (nextj11 (x10, p3.1, x12, decide (x10 ≤ x12), a1, p7, (List.getD a1 (Int.toNat p7) 0), (List.getD a1 (Int.toNat p7) 0), decide ((List.getD a1 (Int.toNat p7) 0) = (0 : Int)), true, !decide ((List.getD y2.1 (Int.toNat p7) 0) = (0 : Int)))))
                          (nextj11 (x10, p3.1, x12, decide (x10 ≤ x12), a1, p7, (List.getD a1 (Int.toNat p7) 0), (List.getD a1 (Int.toNat p7) 0), decide ((List.getD a1 (Int.toNat p7) 0) = (0 : Int)), false, false))))) fun j11 =>
                  loopK (σ := Int) (fun p13 againp13 =>
                    cond (decide (p13 < (List.length y2.1 : Int)))
                      (gd (0 ≤ p13 ∧ p13 < (List.length a1 : Int)) <|
                      gd (0 ≤ p7 ∧ p7 < (List.length a1 : Int)) <|
                      cond (decide ((List.getD a1 (Int.toNat p7) 0) < (List.getD a1 (Int.toNat p13) 0)))
                        (gd (0 ≤ p13 ∧ p13 < (List.length y2.1 : Int)) <|
                        gd (0 ≤ p7 ∧ p7 < (List.length y2.1 : Int)) <|
                        cond (decide ((List.getD y2.1 (Int.toNat p13) 0) < (List.getD y2.1 (Int.toNat p7) 0)))
                          (some false)
                          (bnd (IntKind.wrap .i64 (p13 + (1 : Int))) fun x14 =>
                          againp13 x14))
                        (bnd (IntKind.wrap .i64 (p13 + (1 : Int))) fun x15 =>
                        againp13 x15))
                      (bnd (IntKind.wrap .i64 (p7 + (1 : Int))) fun x16 =>
                      againp7 x16)) (0 : Int))
                  (some (decide (p3.2.1 = a0)))) (0 : Int))) ((0 : Int), (0 : Int), (0 : Int))))))
def dc5 : DC :=
  (.seq (.reg [⟨none, (.mv (some 4) (.v (.bool false)))⟩])
  (.seq (.seq (.reg [⟨none, (.ca (some 13) 8 [])⟩,
    ⟨none, (.un 14 .not (.t 13))⟩])
  (.cond (.t 14)
    (.seq (.reg [⟨none, (.mv (some 4) (.v (.bool false)))⟩])
  .ret)
    .skip))
  (.seq (.seq (.reg [⟨none, (.mv (some 15) (.t 1))⟩,
    ⟨none, (.ln 16 (some 3) (.t 15))⟩,
    ⟨none, (.ar 17 .gtr (.t 16) (.v (.int .i64 40)))⟩])
  (.cond (.t 17)
    (.seq (.reg [⟨none, (.mv (some 4) (.v (.bool true)))⟩])
  .ret)
    .skip))
  (.seq (.reg [⟨none, (.mv (some 19) (.t 0))⟩,
    ⟨none, (.mv (some 20) (.t 1))⟩,
    ⟨none, (.ca (some 21) 9 [(.t 19), (.t 20)])⟩,
    ⟨none, (.mv (some 18) (.t 21))⟩,
    ⟨none, (.ex 22 0 (.t 18))⟩,
    ⟨none, (.ex 23 1 (.t 18))⟩,
    ⟨none, (.mv (some 5) (.t 22))⟩,
    ⟨none, (.mv (some 6) (.t 23))⟩])
  (.seq (.seq (.reg [⟨none, (.mv (some 24) (.t 6))⟩,
    ⟨none, (.ar 25 .neq (.t 24) (.v (.int .i64 0)))⟩])
  (.cond (.t 25)
    (.seq (.reg [⟨none, (.mv (some 26) (.t 5))⟩,
    ⟨none, (.se 27 .no false (.t 26) (.t 26))⟩,
    ⟨none, (.mv (some 28) (.t 27))⟩,
    ⟨(some (28, false)), (.mv (some 29) (.t 5))⟩,
    ⟨(some (28, false)), (.ln 30 (some 3) (.t 29))⟩,
    ⟨(some (28, false)), (.ar 31 .eql (.t 30) (.v (.int .i64 0)))⟩,
    ⟨none, (.pick 32 (.t 28) (.v (.bool true)) (.t 31))⟩,
    ⟨none, (.mv (some 4) (.t 32))⟩])
  .ret)
    .skip))
  (.seq (.seq (.reg [⟨none, (.mv (some 33) (.t 5))⟩,
    ⟨none, (.ln 34 (some 3) (.t 33))⟩,
    ⟨none, (.mv (some 35) (.t 1))⟩,
    ⟨none, (.ln 36 (some 3) (.t 35))⟩,
    ⟨none, (.ar 37 .neq (.t 34) (.t 36))⟩])
  (.cond (.t 37)
    (.seq (.reg [⟨none, (.mv (some 4) (.v (.bool false)))⟩])
  .ret)
    .skip))
  (.seq (.reg [⟨none, (.mv (some 7) (.v (.int .i64 0)))⟩])
  (.seq (.reg [⟨none, (.mv (some 8) (.v (.int .i64 0)))⟩])
  (.seq (.seq (.reg [⟨none, (.mv (some 9) (.v (.int .i64 0)))⟩])
  (.block 0 (.loop ⟨[(7, (.lf (.int .i64))), (8, (.lf (.int .i64))), (9, (.lf (.int .i64)))], [], [38, 39, 40, 41, 42, 43, 44, 45, 46, 47, 48, 49, 50, 51, 52, 53, 54, 55].map .s⟩ (.seq (.seq (.reg [⟨none, (.mv (some 38) (.t 9))⟩,
    ⟨none, (.mv (some 39) (.t 5))⟩,
    ⟨none, (.ln 40 (some 3) (.t 39))⟩,
    ⟨none, (.ar 41 .lss (.t 38) (.t 40))⟩])
  (.cond (.t 41)
    .skip
    (.exit 0)))
  (.seq (.block 1 (.seq (.reg [⟨none, (.mv (some 44) (.t 7))⟩,
    ⟨none, (.mv (some 45) (.t 1))⟩,
    ⟨none, (.mv (some 46) (.t 9))⟩,
    ⟨none, (.ea 47 3 (.t 45) (.t 46))⟩,
    ⟨none, (.ld 48 none (.t 47))⟩,
    ⟨none, (.ar 49 .add (.t 44) (.t 48))⟩,
    ⟨none, (.mv (some 7) (.t 49))⟩])
  (.reg [⟨none, (.mv (some 50) (.t 8))⟩,
    ⟨none, (.mv (some 51) (.t 5))⟩,
    ⟨none, (.mv (some 52) (.t 9))⟩,
    ⟨none, (.ea 53 3 (.t 51) (.t 52))⟩,
    ⟨none, (.ld 54 none (.t 53))⟩,
    ⟨none, (.ar 55 .add (.t 50) (.t 54))⟩,
    ⟨none, (.mv (some 8) (.t 55))⟩])))
  (.reg [⟨none, (.mv (some 42) (.t 9))⟩,
    ⟨none, (.ar 43 .add (.t 42) (.v (.int .i64 1)))⟩,
    ⟨none, (.mv (some 9) (.t 43))⟩]))))))
  (.seq (.seq (.reg [⟨none, (.mv (some 10) (.v (.int .i64 0)))⟩])
  (.block 2 (.loop ⟨[(10, (.lf (.int .i64)))], [], [4, 11, 12, 56, 57, 58, 59, 60, 61, 62, 63, 64, 65, 66, 67, 68, 69, 70, 71, 72, 73, 74, 75, 76, 77, 78, 79, 80, 81, 82, 83, 84, 85, 86, 87, 88, 89, 90, 91, 92, 93, 94, 95, 96, 97, 98, 99, 100, 101, 102, 103, 104, 105, 106, 107, 108, 109, 110, 111, 112, 113, 114, 115, 116, 117, 118, 119, 120, 121, 122, 123].map .s⟩ (.seq (.seq (.reg [⟨none, (.mv (some 56) (.t 10))⟩,
    ⟨none, (.mv (some 57) (.t 5))⟩,
    ⟨none, (.ln 58 (some 3) (.t 57))⟩,
    ⟨none, (.ar 59 .lss (.t 56) (.t 58))⟩])
  (.cond (.t 59)
    .skip
    (.exit 2)))
  (.seq (.block 3 (.seq (.reg [⟨none, (.mv (some 62) (.t 5))⟩,
    ⟨none, (.mv (some 63) (.t 10))⟩,
    ⟨none, (.ea 64 3 (.t 62) (.t 63))⟩,
    ⟨none, (.ld 65 none (.t 64))⟩,
    ⟨none, (.mv (some 66) (.t 7))⟩,
    ⟨none, (.ar 67 .mul (.t 65) (.t 66))⟩,
    ⟨none, (.mv (some 68) (.t 0))⟩,
    ⟨none, (.mv (some 69) (.t 1))⟩,
    ⟨none, (.mv (some 70) (.t 10))⟩,
    ⟨none, (.ea 71 3 (.t 69) (.t 70))⟩,
    ⟨none, (.ld 72 none (.t 71))⟩,
    ⟨none, (.ar 73 .mul (.t 68) (.t 72))⟩,
    ⟨none, (.ar 74 .sub (.t 67) (.t 73))⟩,
    ⟨none, (.mv (some 11) (.t 74))⟩])
  (.jn ⟨[(79, (.lf (.int .i64))), (80, (.lf (.int .i64))), (81, (.lf (.int .i64))), (82, (.lf .bool)), (85, (.lf (.sl 3 (.int .i64)))), (86, (.lf (.int .i64))), (87, (.lf (.rp (.int .i64)))), (88, (.lf (.int .i64))), (89, (.lf .bool)), (90, (.lf .bool)), (96, (.lf .bool))], [], [75, 76, 77, 78, 83, 84, 91, 92, 93, 94, 95, 97].map .s⟩ (.seq (.reg [⟨none, (.mv (some 75) (.t 11))⟩,
    ⟨none, (.mv (some 76) (.t 7))⟩,
    ⟨none, (.ar 77 .geq (.t 75) (.t 76))⟩,
    ⟨none, (.mv (some 78) (.t 77))⟩,
    ⟨(some (78, false)), (.mv (some 79) (.t 11))⟩,
    ⟨(some (78, false)), (.mv (some 80) (.t 7))⟩,
    ⟨(some (78, false)), (.un 81 .neg (.t 80))⟩,
    ⟨(some (78, false)), (.ar 82 .leq (.t 79) (.t 81))⟩,
    ⟨none, (.pick 83 (.t 78) (.v (.bool true)) (.t 82))⟩,
    ⟨none, (.mv (some 84) (.t 83))⟩,
    ⟨(some (84, false)), (.mv (some 85) (.t 1))⟩,
    ⟨(some (84, false)), (.mv (some 86) (.t 10))⟩,
    ⟨(some (84, false)), (.ea 87 3 (.t 85) (.t 86))⟩,
    ⟨(some (84, false)), (.ld 88 none (.t 87))⟩,
    ⟨(some (84, false)), (.ar 89 .eql (.t 88) (.v (.int .i64 0)))⟩,
    ⟨(some (84, false)), (.mv (some 90) (.t 89))⟩,
    ⟨(some (90, true)), (.mv (some 91) (.t 5))⟩,
    ⟨(some (90, true)), (.mv (some 92) (.t 10))⟩,
    ⟨(some (90, true)), (.ea 93 3 (.t 91) (.t 92))⟩,
    ⟨(some (90, true)), (.ld 94 none (.t 93))⟩,
    ⟨(some (90, true)), (.ar 95 .neq (.t 94) (.v (.int .i64 0)))⟩,
    ⟨(some (84, false)), (.pick 96 (.t 90) (.t 95) (.v (.bool false)))⟩,
    ⟨none, (.pick 97 (.t 84) (.v (.bool true)) (.t 96))⟩])
  (.cond (.t 97)
    (.seq (.reg [⟨none, (.mv (some 4) (.v (.bool false)))⟩])
  .ret)
    .skip))
  (.seq (.reg [⟨none, (.mv (some 12) (.v (.int .i64 0)))⟩])
  (.block 4 (.loop ⟨[(12, (.lf (.int .i64)))], [], [4, 98, 99, 100, 101, 102, 103, 104, 105, 106, 107, 108, 109, 110, 111, 112, 113, 114, 115, 116, 117, 118, 119, 120, 121, 122, 123].map .s⟩ (.seq (.seq (.reg [⟨none, (.mv (some 98) (.t 12))⟩,
    ⟨none, (.mv (some 99) (.t 5))⟩,
    ⟨none, (.ln 100 (some 3) (.t 99))⟩,
    ⟨none, (.ar 101 .lss (.t 98) (.t 100))⟩])
  (.cond (.t 101)
    .skip
    (.exit 4)))
  (.seq (.block 5 (.seq (.reg [⟨none, (.mv (some 104) (.t 1))⟩,
    ⟨none, (.mv (some 105) (.t 12))⟩,
    ⟨none, (.ea 106 3 (.t 104) (.t 105))⟩,
    ⟨none, (.ld 107 none (.t 106))⟩,
    ⟨none, (.mv (some 108) (.t 1))⟩,
    ⟨none, (.mv (some 109) (.t 10))⟩,
    ⟨none, (.ea 110 3 (.t 108) (.t 109))⟩,
    ⟨none, (.ld 111 none (.t 110))⟩,
    ⟨none, (.ar 112 .gtr (.t 107) (.t 111))⟩,
    ⟨none, (.mv (some 113) (.t 112))⟩,
    ⟨(some (113, true)), (.mv (some 114) (.t 5))⟩,
    ⟨(some (113, true)), (.mv (some 115) (.t 12))⟩,
    ⟨(some (113, true)), (.ea 116 3 (.t 114) (.t 115))⟩,
    ⟨(some (113, true)), (.ld 117 none (.t 116))⟩,
    ⟨(some (113, true)), (.mv (some 118) (.t 5))⟩,
    ⟨(some (113, true)), (.mv (some 119) (.t 10))⟩,
    ⟨(some (113, true)), (.ea 120 3 (.t 118) (.t 119))⟩,
    ⟨(some (113, true)), (.ld 121 none (.t 120))⟩,
    ⟨(some (113, true)), (.ar 122 .lss (.t 117) (.t 121))⟩,
    ⟨none, (.pick 123 (.t 113) (.t 122) (.v (.bool false)))⟩])
  (.cond (.t 123)
    (.seq (.reg [⟨none, (.mv (some 4) (.v (.bool false)))⟩])
  .ret)
    .skip)))
  (.reg [⟨none, (.mv (some 102) (.t 12))⟩,
    ⟨none, (.ar 103 .add (.t 102) (.v (.int .i64 1)))⟩,
    ⟨none, (.mv (some 12) (.t 103))⟩])))))))))
  (.reg [⟨none, (.mv (some 60) (.t 10))⟩,
    ⟨none, (.ar 61 .add (.t 60) (.v (.int .i64 1)))⟩,
    ⟨none, (.mv (some 10) (.t 61))⟩]))))))
  (.seq (.reg [⟨none, (.mv (some 124) (.t 8))⟩,
    ⟨none, (.mv (some 125) (.t 0))⟩,
    ⟨none, (.ar 126 .eql (.t 124) (.t 125))⟩,
    ⟨none, (.mv (some 4) (.t 126))⟩])
  .ret)))))))))))
noncomputable def ent5 : TEnt := ⟨5, [(.int .i64), (.sl 3 (.int .i64))], .bool, fun x => F5 x.1 x.2, .plain⟩
theorem eq5 (x : dens ent5.as) : ent5.F x = evF [ent8, ent9] SHF dc5 [(.tmp 4)] ent5.as ent5.rs x := by kernel_rfl
/-- library/librarylaw04.MoneyBack -/
noncomputable def F6 (a0 : Int) (a1 : Int) : Option (Bool) :=
  bindO (F8) fun y1 =>
  cond (!y1)
    (some false)
    (jn (σ := Bool) (fun nextj2 =>
      bindO (F16 a0) fun y3 =>
      cond (!y3)
        (nextj2 true)
        (cond (decide (a1 < (0 : Int)))
          (nextj2 true)
          (nextj2 (decide ((1000 : Int) < a1))))) fun j2 =>
    cond (j2)
      (bindO (F16 a0) fun y4 =>
      cond (y4)
        (some true)
        (bindO (F14 a0) fun y5 =>
        some (decide (y5 = ([] : List UInt8)))))
      (bindO (F14 a0) fun y6 =>
      bindO (F12 y6) fun y7 =>
      cond (!decide (y7.1 = a0))
        (some false)
        (cond (!decide (y7.2 = (0 : Int)))
          (some false)
          (bindO (F17 a0 a1) fun y8 =>
          bnd (IntKind.wrap .i64 ((1000 : Int) - a1)) fun x9 =>
          bindO (F17 a0 x9) fun y10 =>
          bnd (IntKind.wrap .i64 (y8 + y10)) fun x11 =>
          bnd (IntKind.wrap .i64 (x11 - a0)) fun x12 =>
          cond (decide (y8 < (0 : Int)))
            (some false)
            (cond (decide (a0 < y8))
              (some false)
              (cond (decide (x12 < (-1 : Int)))
                (some false)
                (cond (decide ((1 : Int) < x12))
                  (some false)
                  (jn (σ := Unit) (fun nextj13 =>
                    cond (decide (a0 < (100000000 : Int)))
                      (bnd (IntKind.wrap .i64 (a0 + (1 : Int))) fun x14 =>
                      bindO (F17 x14 a1) fun y15 =>
                      cond (decide (y15 < y8))
                        (some false)
                        (nextj13 ()))
                      (nextj13 ())) fun j13 =>
                  cond (decide (a1 = (1000 : Int)))
                    (some true)
                    (bnd (IntKind.wrap .i64 (a1 + (1 : Int))) fun x16 =>
                    bindO (F17 a0 x16) fun y17 =>
                    some (decide (y8 ≤ y17)))))))))))
def dc6 : DC :=
  (.seq (.reg [⟨none, (.mv (some 4) (.v (.bool false)))⟩])
  (.seq (.seq (.reg [⟨none, (.ca (some 9) 8 [])⟩,
    ⟨none, (.un 10 .not (.t 9))⟩])
  (.cond (.t 10)
    (.seq (.reg [⟨none, (.mv (some 4) (.v (.bool false)))⟩])
  .ret)
    .skip))
  (.seq (.jn ⟨[(21, (.lf .bool))], [], [11, 12, 13, 14, 15, 16, 17, 18, 19, 20].map .s⟩ (.reg [⟨none, (.mv (some 11) (.t 0))⟩,
    ⟨none, (.ca (some 12) 16 [(.t 11)])⟩,
    ⟨none, (.un 13 .not (.t 12))⟩,
    ⟨none, (.mv (some 14) (.t 13))⟩,
    ⟨(some (14, false)), (.mv (some 15) (.t 1))⟩,
    ⟨(some (14, false)), (.ar 16 .lss (.t 15) (.v (.int .i64 0)))⟩,
    ⟨none, (.pick 17 (.t 14) (.v (.bool true)) (.t 16))⟩,
    ⟨none, (.mv (some 18) (.t 17))⟩,
    ⟨(some (18, false)), (.mv (some 19) (.t 1))⟩,
    ⟨(some (18, false)), (.ar 20 .gtr (.t 19) (.v (.int .i64 1000)))⟩,
    ⟨none, (.pick 21 (.t 18) (.v (.bool true)) (.t 20))⟩])
  (.cond (.t 21)
    (.seq (.reg [⟨none, (.mv (some 22) (.t 0))⟩,
    ⟨none, (.ca (some 23) 16 [(.t 22)])⟩,
    ⟨none, (.mv (some 24) (.t 23))⟩,
    ⟨(some (24, false)), (.mv (some 25) (.t 0))⟩,
    ⟨(some (24, false)), (.ca (some 26) 14 [(.t 25)])⟩,
    ⟨(some (24, false)), (.ar 27 .eql (.t 26) (.v (.str [])))⟩,
    ⟨none, (.pick 28 (.t 24) (.v (.bool true)) (.t 27))⟩,
    ⟨none, (.mv (some 4) (.t 28))⟩])
  .ret)
    .skip))
  (.seq (.reg [⟨none, (.mv (some 30) (.t 0))⟩,
    ⟨none, (.ca (some 31) 14 [(.t 30)])⟩,
    ⟨none, (.ca (some 32) 12 [(.t 31)])⟩,
    ⟨none, (.mv (some 29) (.t 32))⟩,
    ⟨none, (.ex 33 0 (.t 29))⟩,
    ⟨none, (.ex 34 1 (.t 29))⟩,
    ⟨none, (.mv (some 5) (.t 33))⟩,
    ⟨none, (.mv (some 6) (.t 34))⟩])
  (.seq (.seq (.reg [⟨none, (.mv (some 35) (.t 5))⟩,
    ⟨none, (.mv (some 36) (.t 0))⟩,
    ⟨none, (.ar 37 .neq (.t 35) (.t 36))⟩,
    ⟨none, (.mv (some 38) (.t 37))⟩,
    ⟨(some (38, false)), (.mv (some 39) (.t 6))⟩,
    ⟨(some (38, false)), (.ar 40 .neq (.t 39) (.v (.int .i64 0)))⟩,
    ⟨none, (.pick 41 (.t 38) (.v (.bool true)) (.t 40))⟩])
  (.cond (.t 41)
    (.seq (.reg [⟨none, (.mv (some 4) (.v (.bool false)))⟩])
  .ret)
    .skip))
  (.seq (.reg [⟨none, (.mv (some 42) (.t 0))⟩,
    ⟨none, (.mv (some 43) (.t 1))⟩,
    ⟨none, (.ca (some 44) 17 [(.t 42), (.t 43)])⟩,
    ⟨none, (.mv (some 7) (.t 44))⟩])
  (.seq (.reg [⟨none, (.mv (some 45) (.t 7))⟩,
    ⟨none, (.mv (some 46) (.t 0))⟩,
    ⟨none, (.mv (some 47) (.t 1))⟩,
    ⟨none, (.ar 48 .sub (.v (.int .i64 1000)) (.t 47))⟩,
    ⟨none, (.ca (some 49) 17 [(.t 46), (.t 48)])⟩,
    ⟨none, (.ar 50 .add (.t 45) (.t 49))⟩,
    ⟨none, (.mv (some 51) (.t 0))⟩,
    ⟨none, (.ar 52 .sub (.t 50) (.t 51))⟩,
    ⟨none, (.mv (some 8) (.t 52))⟩])
  (.seq (.seq (.reg [⟨none, (.mv (some 53) (.t 7))⟩,
    ⟨none, (.ar 54 .lss (.t 53) (.v (.int .i64 0)))⟩,
    ⟨none, (.mv (some 55) (.t 54))⟩,
    ⟨(some (55, false)), (.mv (some 56) (.t 7))⟩,
    ⟨(some (55, false)), (.mv (some 57) (.t 0))⟩,
    ⟨(some (55, false)), (.ar 58 .gtr (.t 56) (.t 57))⟩,
    ⟨none, (.pick 59 (.t 55) (.v (.bool true)) (.t 58))⟩,
    ⟨none, (.mv (some 60) (.t 59))⟩,
    ⟨(some (60, false)), (.mv (some 61) (.t 8))⟩,
    ⟨(some (60, false)), (.ar 62 .lss (.t 61) (.v (.int .i64 (-1))))⟩,
    ⟨none, (.pick 63 (.t 60) (.v (.bool true)) (.t 62))⟩,
    ⟨none, (.mv (some 64) (.t 63))⟩,
    ⟨(some (64, false)), (.mv (some 65) (.t 8))⟩,
    ⟨(some (64, false)), (.ar 66 .gtr (.t 65) (.v (.int .i64 1)))⟩,
    ⟨none, (.pick 67 (.t 64) (.v (.bool true)) (.t 66))⟩])
  (.cond (.t 67)
    (.seq (.reg [⟨none, (.mv (some 4) (.v (.bool false)))⟩])
  .ret)
    .skip))
  (.jn ⟨[], [], [68, 69, 70, 71, 72, 73, 74, 75, 76, 77].map .s⟩ (.seq (.reg [⟨none, (.mv (some 68) (.t 0))⟩,
    ⟨none, (.ar 69 .lss (.t 68) (.v (.int .i64 100000000)))⟩,
    ⟨none, (.mv (some 70) (.t 69))⟩,
    ⟨(some (70, true)), (.mv (some 71) (.t 0))⟩,
    ⟨(some (70, true)), (.ar 72 .add (.t 71) (.v (.int .i64 1)))⟩,
    ⟨(some (70, true)), (.mv (some 73) (.t 1))⟩,
    ⟨(some (70, true)), (.ca (some 74) 17 [(.t 72), (.t 73)])⟩,
    ⟨(some (70, true)), (.mv (some 75) (.t 7))⟩,
    ⟨(some (70, true)), (.ar 76 .lss (.t 74) (.t 75))⟩,
    ⟨none, (.pick 77 (.t 70) (.t 76) (.v (.bool false)))⟩])
  (.cond (.t 77)
    (.seq (.reg [⟨none, (.mv (some 4) (.v (.bool false)))⟩])
  .ret)
    .skip))
  (.seq (.reg [⟨none, (.mv (some 78) (.t 1))⟩,
    ⟨none, (.ar 79 .eql (.t 78) (.v (.int .i64 1000)))⟩,
    ⟨none, (.mv (some 80) (.t 79))⟩,
    ⟨(some (80, false)), (.mv (some 81) (.t 0))⟩,
    ⟨(some (80, false)), (.mv (some 82) (.t 1))⟩,
    ⟨(some (80, false)), (.ar 83 .add (.t 82) (.v (.int .i64 1)))⟩,
    ⟨(some (80, false)), (.ca (some 84) 17 [(.t 81), (.t 83)])⟩,
    ⟨(some (80, false)), (.mv (some 85) (.t 7))⟩,
    ⟨(some (80, false)), (.ar 86 .geq (.t 84) (.t 85))⟩,
    ⟨none, (.pick 87 (.t 80) (.v (.bool true)) (.t 86))⟩,
    ⟨none, (.mv (some 4) (.t 87))⟩])
  .ret))))))))))
noncomputable def ent6 : TEnt := ⟨6, [(.int .i64), (.int .i64)], .bool, fun x => F6 x.1 x.2, .plain⟩
theorem eq6 (x : dens ent6.as) : ent6.F x = evF [ent8, ent12, ent14, ent16, ent17] SHF dc6 [(.tmp 4)] ent6.as ent6.rs x := by kernel_rfl
/-- library/librarylaw04.MoneyAdds -/
noncomputable def F7 (a0 : Int) (a1 : Int) : Option (Bool) :=
  bindO (F8) fun y1 =>
  cond (!y1)
    (some false)
    (bindO (F18 a0 a1) fun y2 =>
    bindO (F19 a0 a1) fun y3 =>
    bindO (F16 a0) fun y4 =>
    bindO (F20 a0) fun y5 =>
    cond ((y4 == y5))
      (cond (decide (y2.1 = y3.1))
        (cond (decide (y2.2 = y3.2))
          (bindO (F17 a0 a1) fun y6 =>
          bindO (F21 a0 a1) fun y7 =>
          some (decide (y6 = y7)))
          (some false))
        (some false))
      (some false))
def dc7 : DC :=
  (.seq (.reg [⟨none, (.mv (some 4) (.v (.bool false)))⟩])
  (.seq (.seq (.reg [⟨none, (.ca (some 9) 8 [])⟩,
    ⟨none, (.un 10 .not (.t 9))⟩])
  (.cond (.t 10)
    (.seq (.reg [⟨none, (.mv (some 4) (.v (.bool false)))⟩])
  .ret)
    .skip))
  (.seq (.reg [⟨none, (.mv (some 12) (.t 0))⟩,
    ⟨none, (.mv (some 13) (.t 1))⟩,
    ⟨none, (.ca (some 14) 18 [(.t 12), (.t 13)])⟩,
    ⟨none, (.mv (some 11) (.t 14))⟩,
    ⟨none, (.ex 15 0 (.t 11))⟩,
    ⟨none, (.ex 16 1 (.t 11))⟩,
    ⟨none, (.mv (some 5) (.t 15))⟩,
    ⟨none, (.mv (some 6) (.t 16))⟩])
  (.seq (.reg [⟨none, (.mv (some 18) (.t 0))⟩,
    ⟨none, (.mv (some 19) (.t 1))⟩,
    ⟨none, (.ca (some 20) 19 [(.t 18), (.t 19)])⟩,
    ⟨none, (.mv (some 17) (.t 20))⟩,
    ⟨none, (.ex 21 0 (.t 17))⟩,
    ⟨none, (.ex 22 1 (.t 17))⟩,
    ⟨none, (.mv (some 7) (.t 21))⟩,
    ⟨none, (.mv (some 8) (.t 22))⟩])
  (.seq (.reg [⟨none, (.mv (some 23) (.t 0))⟩,
    ⟨none, (.ca (some 24) 16 [(.t 23)])⟩,
    ⟨none, (.mv (some 25) (.t 0))⟩,
    ⟨none, (.ca (some 26) 20 [(.t 25)])⟩,
    ⟨none, (.eb 27 false (.t 24) (.t 26))⟩,
    ⟨none, (.mv (some 28) (.t 27))⟩,
    ⟨(some (28, true)), (.mv (some 29) (.t 5))⟩,
    ⟨(some (28, true)), (.mv (some 30) (.t 7))⟩,
    ⟨(some (28, true)), (.ar 31 .eql (.t 29) (.t 30))⟩,
    ⟨none, (.pick 32 (.t 28) (.t 31) (.v (.bool false)))⟩,
    ⟨none, (.mv (some 33) (.t 32))⟩,
    ⟨(some (33, true)), (.mv (some 34) (.t 6))⟩,
    ⟨(some (33, true)), (.mv (some 35) (.t 8))⟩,
    ⟨(some (33, true)), (.ar 36 .eql (.t 34) (.t 35))⟩,
    ⟨none, (.pick 37 (.t 33) (.t 36) (.v (.bool false)))⟩,
    ⟨none, (.mv (some 38) (.t 37))⟩,
    ⟨(some (38, true)), (.mv (some 39) (.t 0))⟩,
    ⟨(some (38, true)), (.mv (some 40) (.t 1))⟩,
    ⟨(some (38, true)), (.ca (some 41) 17 [(.t 39), (.t 40)])⟩,
    ⟨(some (38, true)), (.mv (some 42) (.t 0))⟩,
    ⟨(some (38, true)), (.mv (some 43) (.t 1))⟩,
    ⟨(some (38, true)), (.ca (some 44) 21 [(.t 42), (.t 43)])⟩,
    ⟨(some (38, true)), (.ar 45 .eql (.t 41) (.t 44))⟩,
    ⟨none, (.pick 46 (.t 38) (.t 45) (.v (.bool false)))⟩,
    ⟨none, (.mv (some 4) (.t 46))⟩])
  .ret)))))
noncomputable def ent7 : TEnt := ⟨7, [(.int .i64), (.int .i64)], .bool, fun x => F7 x.1 x.2, .plain⟩
theorem eq7 (x : dens ent7.as) : ent7.F x = evF [ent8, ent16, ent17, ent18, ent19, ent20, ent21] SHF dc7 [(.tmp 4)] ent7.as ent7.rs x := by kernel_rfl
theorem mixedF : Tryd.prog.follows .mixedOrders = true := by kernel_rfl
section
variable {G : World → Prop} (hG : Keeps G)
include hG in
theorem ok16 : TEnt.Ok Tryd.prog G ent16 :=
  ent_ok hG mixedF (fn := Tryd.f16) (d := dc16) (crs := [(.tmp 2)]) (hint := []) (TT := []) (SH := SHF) rfl rfl (by kernel_rfl) (splitsNil (by kernel_rfl)) (by decide) rfl trivial eq16
include hG in
theorem ok20 : TEnt.Ok Tryd.prog G ent20 :=
  ent_ok hG mixedF (fn := Tryd.f20) (d := dc20) (crs := [(.tmp 2)]) (hint := []) (TT := []) (SH := SHF) rfl rfl (by kernel_rfl) (splitsNil (by kernel_rfl)) (by decide) rfl trivial eq20
include hG in
theorem ok17 (h16 : TEnt.Ok Tryd.prog G ent16) : TEnt.Ok Tryd.prog G ent17 :=
  ent_ok hG mixedF (fn := Tryd.f17) (d := dc17) (crs := [(.tmp 4)]) (hint := []) (TT := [ent16]) (SH := SHF) rfl rfl (by kernel_rfl) (splitsNil (by kernel_rfl)) (by decide) rfl ⟨h16, trivial⟩ eq17
include hG in
theorem ok21 (h20 : TEnt.Ok Tryd.prog G ent20) : TEnt.Ok Tryd.prog G ent21 :=
  ent_ok hG mixedF (fn := Tryd.f21) (d := dc21) (crs := [(.tmp 4)]) (hint := []) (TT := [ent20]) (SH := SHF) rfl rfl (by kernel_rfl) (splitsNil (by kernel_rfl)) (by decide) rfl ⟨h20, trivial⟩ eq21
include hG in
theorem ok18 (h16 : TEnt.Ok Tryd.prog G ent16) : TEnt.Ok Tryd.prog G ent18 :=
  ent_ok hG mixedF (fn := Tryd.f18) (d := dc18) (crs := [(.tmp 4), (.tmp 5)]) (hint := []) (TT := [ent16]) (SH := SHF) rfl rfl (by kernel_rfl) (splitsNil (by kernel_rfl)) (by decide) rfl ⟨h16, trivial⟩ eq18
include hG in
theorem ok19 (h20 : TEnt.Ok Tryd.prog G ent20) : TEnt.Ok Tryd.prog G ent19 :=
  ent_ok hG mixedF (fn := Tryd.f19) (d := dc19) (crs := [(.tmp 4), (.tmp 5)]) (hint := []) (TT := [ent20]) (SH := SHF) rfl rfl (by kernel_rfl) (splitsNil (by kernel_rfl)) (by decide) rfl ⟨h20, trivial⟩ eq19
include hG in
theorem ok23 : TEnt.Ok Tryd.prog G ent23 :=
  ent_ok hG mixedF (fn := Tryd.f23) (d := dc23) (crs := [(.tmp 7)]) (hint := []) (TT := []) (SH := SHF) rfl rfl (by kernel_rfl) (splitsNil (by kernel_rfl)) (by decide) rfl trivial eq23
theorem ok48 (h23 : TEnt.Ok Tryd.prog G ent23) : TEnt.Ok Tryd.prog G ent48 :=
  ent_okL mixedF (fn := Tryd.f48) (d := dc48) (crs := []) (hint := []) (TT := [ent23]) (SH := SHF) rfl rfl (by kernel_rfl) (splitsNil (by kernel_rfl)) (by decide) rfl rfl rfl ⟨h23, trivial⟩ eq48
theorem ok30 (h48 : TEnt.Ok Tryd.prog G ent48) : TEnt.Ok Tryd.prog G ent30 :=
  ent_okL mixedF (fn := Tryd.f30) (d := dc30) (crs := []) (hint := []) (TT := [ent48]) (SH := SHF) rfl rfl (by kernel_rfl) (splitsNil (by kernel_rfl)) (by decide) rfl rfl rfl ⟨h48, trivial⟩ eq30
theorem ok22 (h30 : TEnt.Ok Tryd.prog G ent30) : TEnt.Ok Tryd.prog G ent22 :=
  ent_okL mixedF (fn := Tryd.f22) (d := dc22) (crs := []) (hint := []) (TT := [ent30]) (SH := SHF) rfl rfl (by kernel_rfl) (splitsNil (by kernel_rfl)) (by decide) rfl rfl rfl ⟨h30, trivial⟩ eq22
include hG in
theorem ok9 (h16 : TEnt.Ok Tryd.prog G ent16) (h22 : TEnt.Ok Tryd.prog G ent22) : TEnt.Ok Tryd.prog G ent9 :=
  ent_ok hG mixedF (fn := Tryd.f9) (d := dc9) (crs := [(.tmp 4), (.tmp 5)]) (hint := [(22, 2), (22, 3), (22, 6), (5000022, 56), (28, 53)]) (TT := [ent16, ent22]) (SH := SHF) rfl rfl (by kernel_rfl) (splitsNil (by kernel_rfl)) (by decide) rfl ⟨h16, h22, trivial⟩ eq9
include hG in
theorem ok10 (h20 : TEnt.Ok Tryd.prog G ent20) : TEnt.Ok Tryd.prog G ent10 :=
  ent_ok hG mixedF (fn := Tryd.f10) (d := dc10) (crs := [(.tmp 4), (.tmp 5)]) (hint := [(10000004, 5000008), (10000004, 5000009), (31, 8)]) (TT := [ent20]) (SH := SHF) rfl rfl (by kernel_rfl) (splitsNil (by kernel_rfl)) (by decide) rfl ⟨h20, trivial⟩ eq10
include hG in
theorem ok11 : TEnt.Ok Tryd.prog G ent11 :=
  ent_ok hG mixedF (fn := Tryd.f11) (d := dc11) (crs := [(.tmp 4)]) (hint := []) (TT := []) (SH := SHF) rfl rfl (by kernel_rfl) (splitsNil (by kernel_rfl)) (by decide) rfl trivial eq11
include hG in
theorem ok29 : TEnt.Ok Tryd.prog G ent29 :=
  ent_ok hG mixedF (fn := Tryd.f29) (d := dc29) (crs := [(.tmp 4)]) (hint := []) (TT := []) (SH := SHF) rfl rfl (by kernel_rfl) (splitsNil (by kernel_rfl)) (by decide) rfl trivial eq29
include hG in
theorem ok14 (h16 : TEnt.Ok Tryd.prog G ent16) (h26 : TEnt.Ok Tryd.prog G entItoa) (h28 : TEnt.Ok Tryd.prog G entRepeat) : TEnt.Ok Tryd.prog G ent14 :=
  ent_ok hG mixedF (fn := Tryd.f14) (d := dc14) (crs := [(.tmp 2)]) (hint := []) (TT := [ent16, entItoa, entRepeat]) (SH := SHF) rfl rfl (by kernel_rfl) (splitsNil (by kernel_rfl)) (by decide) rfl ⟨h16, h26, h28, trivial⟩ eq14
include hG in
theorem ok15 (h20 : TEnt.Ok Tryd.prog G ent20) (h29 : TEnt.Ok Tryd.prog G ent29) : TEnt.Ok Tryd.prog G ent15 :=
  ent_ok hG mixedF (fn := Tryd.f15) (d := dc15) (crs := [(.tmp 2)]) (hint := []) (TT := [ent20, ent29]) (SH := SHF) rfl rfl (by kernel_rfl) (splitsNil (by kernel_rfl)) (by decide) rfl ⟨h20, h29, trivial⟩ eq15
include hG in
theorem ok12 (h16 : TEnt.Ok Tryd.prog G ent16) (h24 : TEnt.Ok Tryd.prog G entCut) (h25 : TEnt.Ok Tryd.prog G entTrim) (h26 : TEnt.Ok Tryd.prog G entItoa) (h27 : TEnt.Ok Tryd.prog G entAtoi) : TEnt.Ok Tryd.prog G ent12 :=
  ent_ok hG mixedF (fn := Tryd.f12) (d := dc12) (crs := [(.tmp 2), (.tmp 3)]) (hint := []) (TT := [ent16, entCut, entTrim, entItoa, entAtoi]) (SH := SHF) rfl rfl (by kernel_rfl) (splitsNil (by kernel_rfl)) (by decide) rfl ⟨h16, h24, h25, h26, h27, trivial⟩ eq12
include hG in
theorem ok13 : TEnt.Ok Tryd.prog G ent13 :=
  ent_ok hG mixedF (fn := Tryd.f13) (d := dc13) (crs := [(.tmp 2), (.tmp 3)]) (hint := []) (TT := []) (SH := SHF) rfl rfl (by kernel_rfl) (splitsNil (by kernel_rfl)) (by decide) rfl trivial eq13
include hG in
theorem ok8 (h9 : TEnt.Ok Tryd.prog G ent9) (h11 : TEnt.Ok Tryd.prog G ent11) (h12 : TEnt.Ok Tryd.prog G ent12) (h14 : TEnt.Ok Tryd.prog G ent14) (h17 : TEnt.Ok Tryd.prog G ent17) : TEnt.Ok Tryd.prog G ent8 :=
  ent_ok hG mixedF (fn := Tryd.f8) (d := dc8) (crs := [(.tmp 0)]) (hint := []) (TT := [ent9, ent11, ent12, ent14, ent17]) (SH := SHF) rfl rfl (by kernel_rfl) (splitsNil (by kernel_rfl)) (by decide) rfl ⟨h9, h11, h12, h14, h17, trivial⟩ eq8
include hG in
theorem ok3 (h8 : TEnt.Ok Tryd.prog G ent8) (h9 : TEnt.Ok Tryd.prog G ent9) (h10 : TEnt.Ok Tryd.prog G ent10) (h11 : TEnt.Ok Tryd.prog G ent11) : TEnt.Ok Tryd.prog G ent3 :=
  ent_ok hG mixedF (fn := Tryd.f3) (d := dc3) (crs := [(.tmp 4)]) (hint := []) (TT := [ent8, ent9, ent10, ent11]) (SH := SHF) rfl rfl (by kernel_rfl) (splitsNil (by kernel_rfl)) (by decide) rfl ⟨h8, h9, h10, h11, trivial⟩ eq3
include hG in
theorem ok4 (h8 : TEnt.Ok Tryd.prog G ent8) (h12 : TEnt.Ok Tryd.prog G ent12) (h13 : TEnt.Ok Tryd.prog G ent13) (h14 : TEnt.Ok Tryd.prog G ent14) (h15 : TEnt.Ok Tryd.prog G ent15) : TEnt.Ok Tryd.prog G ent4 :=
  ent_ok hG mixedF (fn := Tryd.f4) (d := dc4) (crs := [(.tmp 4)]) (hint := []) (TT := [ent8, ent12, ent13, ent14, ent15]) (SH := SHF) rfl rfl (by kernel_rfl) (splitsNil (by kernel_rfl)) (by decide) rfl ⟨h8, h12, h13, h14, h15, trivial⟩ eq4
include hG in
theorem ok5 (h8 : TEnt.Ok Tryd.prog G ent8) (h9 : TEnt.Ok Tryd.prog G ent9) : TEnt.Ok Tryd.prog G ent5 :=
  ent_ok hG mixedF (fn := Tryd.f5) (d := dc5) (crs := [(.tmp 4)]) (hint := []) (TT := [ent8, ent9]) (SH := SHF) rfl rfl (by kernel_rfl) (splitsNil (by kernel_rfl)) (by decide) rfl ⟨h8, h9, trivial⟩ eq5
include hG in
theorem ok6 (h8 : TEnt.Ok Tryd.prog G ent8) (h12 : TEnt.Ok Tryd.prog G ent12) (h14 : TEnt.Ok Tryd.prog G ent14) (h16 : TEnt.Ok Tryd.prog G ent16) (h17 : TEnt.Ok Tryd.prog G ent17) : TEnt.Ok Tryd.prog G ent6 :=
  ent_ok hG mixedF (fn := Tryd.f6) (d := dc6) (crs := [(.tmp 4)]) (hint := []) (TT := [ent8, ent12, ent14, ent16, ent17]) (SH := SHF) rfl rfl (by kernel_rfl) (splitsNil (by kernel_rfl)) (by decide) rfl ⟨h8, h12, h14, h16, h17, trivial⟩ eq6
include hG in
theorem ok7 (h8 : TEnt.Ok Tryd.prog G ent8) (h16 : TEnt.Ok Tryd.prog G ent16) (h17 : TEnt.Ok Tryd.prog G ent17) (h18 : TEnt.Ok Tryd.prog G ent18) (h19 : TEnt.Ok Tryd.prog G ent19) (h20 : TEnt.Ok Tryd.prog G ent20) (h21 : TEnt.Ok Tryd.prog G ent21) : TEnt.Ok Tryd.prog G ent7 :=
  ent_ok hG mixedF (fn := Tryd.f7) (d := dc7) (crs := [(.tmp 4)]) (hint := []) (TT := [ent8, ent16, ent17, ent18, ent19, ent20, ent21]) (SH := SHF) rfl rfl (by kernel_rfl) (splitsNil (by kernel_rfl)) (by decide) rfl ⟨h8, h16, h17, h18, h19, h20, h21, trivial⟩ eq7
end
end Go.Proofs.YtekgjongmjnoaaaDoor
