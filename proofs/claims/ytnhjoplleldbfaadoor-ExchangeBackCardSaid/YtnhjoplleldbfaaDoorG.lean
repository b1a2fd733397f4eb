/-
  THE FUNCTIONS AS PLAIN ONES (printed by a program of ours), and that they are what the code's runs give.
-/
import Derived.Test.YtnhjoplleldbfaaDoorF
import Derived.Test.YtnhjoplleldbfaaDoorK4
namespace Go.Proofs.YtnhjoplleldbfaaDoor
open Go Go.Nu
set_option maxRecDepth 100000
set_option linter.unusedVariables false
def SHG : List (TypeId × Sh) := [(5, .byte), (9, .str), (24, (.agg 24 (.pair (.int .i64) (.pair (.int .i64) (.pair (.int .i64) (.pair .str (.sl 49 (.agg 49 (.pair .str (.pair .str (.pair (.sl 46 (.agg 46 (.pair .byte .str))) (.int .i64)))))))))))), (46, (.agg 46 (.pair .byte .str))), (49, (.agg 49 (.pair .str (.pair .str (.pair (.sl 46 (.agg 46 (.pair .byte .str))) (.int .i64)))))), (78, (.arr 78 .bool)), (79, (.arr 79 .bool)), (106, (.arr 106 .byte)), (119, (.arr 119 (.int .u64))), (120, (.arr 120 .byte)), (124, (.arr 124 .byte)), (127, (.arr 127 (.agg 126 (.pair .byte .byte)))), (131, (.arr 131 .byte)), (132, (.arr 132 .byte))]
/-- library/exchange.Split -/
noncomputable def F11 (a0 : List UInt8) : Option (List (List UInt8) × Int) :=
  gdN (0) (List.length ([] : List (List UInt8))) <|
  loopK (σ := List UInt8 × List (List UInt8)) (fun p1 againp1 =>
    cond (!decide (p1.1 = ([] : List UInt8)))
      (caseO (F30 p1.1 (0 : Int) (5 : Int))
        (some ([], (3 : Int))) fun y2 =>
      caseO (F29 y2)
        (some ([], (3 : Int))) fun y3 =>
      cond (decide (y3 < (26 : Int)))
        (some ([], (3 : Int)))
        (caseO (F30 p1.1 (0 : Int) y3)
          (some ([], (3 : Int))) fun y4 =>
        gdN (List.length p1.2) (List.length p1.2) <|
        gd (List.length p1.2 + List.length [y4] ≤ big) <|
        bnd (p1.2 ++ [y4]) fun l5 =>
        gd (0 ≤ y3 ∧ y3 ≤ (List.length p1.1 : Int)) <|
        bnd (List.drop (Int.toNat y3) p1.1) fun x6 =>
        gdN (List.length l5) (List.length l5) <|
        againp1 (x6, l5)))
      (some (p1.2, (0 : Int)))) (a0, ([] : List (List UInt8)))
def dc11a : DC :=
  (.reg [⟨none, (.al 2 (.sl (some 5900000) 9 []))⟩,
    ⟨none, (.al 3 (.int .i64 0))⟩])
def dc11 : DC :=
  (.seq (.seq (.gh 6000299 [])
  (.block 0 (.loop ⟨[(0, (.lf .str))], [(2, (.row 6000299 9 .str))], [4, 6, 7, 8, 9, 10, 11, 12, 15, 16, 17, 18, 19, 20, 21, 22, 23].map .s ++ [19].map .f⟩ (.seq (.seq (.reg [⟨none, (.mv (some 6) (.t 0))⟩,
    ⟨none, (.ar 7 .neq (.t 6) (.v (.str [])))⟩])
  (.cond (.t 7)
    .skip
    (.exit 0)))
  (.block 1 (.seq (.regP 64 [⟨none, (.mv (some 8) (.t 0))⟩,
    ⟨none, (.ca (some 9) 30 [(.t 8), (.v (.int .i64 0)), (.v (.int .i64 5))])⟩,
    ⟨none, (.ca (some 10) 29 [(.t 9)])⟩,
    ⟨none, (.mv (some 4) (.t 10))⟩])
  (.seq (.seq (.reg [⟨none, (.mv (some 11) (.t 4))⟩,
    ⟨none, (.ar 12 .lss (.t 11) (.v (.int .i64 26)))⟩])
  (.cond (.t 12)
    (.regP 64 [⟨none, (.bd 13 64 [] [] [])⟩,
    ⟨none, (.mi 14 64 (.t 13))⟩,
    ⟨none, (.pn (.t 14))⟩])
    .skip))
  (.seq (.regP 64 [⟨none, (.ld 15 none (.t 2))⟩,
    ⟨none, (.mv (some 16) (.t 0))⟩,
    ⟨none, (.mv (some 17) (.t 4))⟩,
    ⟨none, (.ca (some 18) 30 [(.t 16), (.v (.int .i64 0)), (.t 17)])⟩,
    ⟨none, (.bs 19 9 none [(.t 18)])⟩,
    ⟨none, (.ap 20 9 (.t 15) (.t 19))⟩,
    ⟨none, (.st none (.t 2) (.t 20))⟩])
  (.reg [⟨none, (.mv (some 21) (.t 0))⟩,
    ⟨none, (.mv (some 22) (.t 4))⟩,
    ⟨none, (.sc 23 none (.t 21) (some (.t 22)) none)⟩,
    ⟨none, (.mv (some 0) (.t 23))⟩])))))))))
  (.seq (.reg [⟨none, (.ld 24 none (.t 2))⟩,
    ⟨none, (.st none (.t 2) (.t 24))⟩,
    ⟨none, (.st none (.t 3) (.v (.int .i64 0)))⟩])
  .ret))
noncomputable def ent11 : TEnt := ⟨11, [.str], (.tup (.pair (.sl 9 .str) (.int .i64))), fun x => F11 x, .plain⟩
theorem eq11 (x : dens ent11.as) : ent11.F x = evFd [ent29, ent30] SHG dc11a dc11 5 2 3 [(.cell 2 none), (.cell 3 none)] ent11.as ent11.rs 64 (some ([], (3 : Int))) x := by kernel_rfl
-- called by 11: ent29 ent30
/-- library/exchange.Decode -/
noncomputable def F13 (a0 : List UInt8) : Option ((Int × Int × Int × List UInt8 × List (List UInt8 × List UInt8 × (List (UInt8 × List UInt8)) × Int)) × Int) :=
  caseO (F32 a0)
    (none) fun y1 =>
  bindO (F9 y1) fun y2 =>
  cond (!decide (y2.2 = (0 : Int)))
    (some (((0 : Int), (0 : Int), (0 : Int), ([] : List UInt8), ([] : List (List UInt8 × List UInt8 × (List (UInt8 × List UInt8)) × Int))), (3 : Int)))
    (cond (!decide (y2.1 = a0))
      (some (((0 : Int), (0 : Int), (0 : Int), ([] : List UInt8), ([] : List (List UInt8 × List UInt8 × (List (UInt8 × List UInt8)) × Int))), (3 : Int)))
      (some (y1, (0 : Int))))
def dc13a : DC :=
  (.reg [⟨none, (.al 2 (.agg 24 [(.int .i64 0), (.int .i64 0), (.int .i64 0), (.str []), (.sl none 49 [])]))⟩,
    ⟨none, (.al 3 (.int .i64 0))⟩])
def dc13 : DC :=
  (.seq (.regP 64 [⟨none, (.mv (some 7) (.t 0))⟩,
    ⟨none, (.ca (some 8) 32 [(.t 7)])⟩,
    ⟨none, (.st (some 24) (.t 2) (.t 8))⟩])
  (.seq (.seq (.reg [⟨none, (.ld 10 (some 24) (.t 2))⟩,
    ⟨none, (.ca (some 11) 9 [(.t 10)])⟩,
    ⟨none, (.mv (some 9) (.t 11))⟩,
    ⟨none, (.ex 12 0 (.t 9))⟩,
    ⟨none, (.ex 13 1 (.t 9))⟩,
    ⟨none, (.mv (some 4) (.t 12))⟩,
    ⟨none, (.mv (some 5) (.t 13))⟩])
  (.seq (.reg [⟨none, (.mv (some 14) (.t 5))⟩,
    ⟨none, (.ar 15 .neq (.t 14) (.v (.int .i64 0)))⟩,
    ⟨none, (.mv (some 16) (.t 15))⟩,
    ⟨(some (16, false)), (.mv (some 17) (.t 4))⟩,
    ⟨(some (16, false)), (.mv (some 18) (.t 0))⟩,
    ⟨(some (16, false)), (.ar 19 .neq (.t 17) (.t 18))⟩,
    ⟨none, (.pick 20 (.t 16) (.v (.bool true)) (.t 19))⟩])
  (.cond (.t 20)
    (.seq (.reg [⟨none, (.bd 21 24 [(.int .i64 0), (.int .i64 0), (.int .i64 0), (.str []), (.sl none 49 [])] [] [])⟩,
    ⟨none, (.st (some 24) (.t 2) (.t 21))⟩,
    ⟨none, (.st none (.t 3) (.v (.int .i64 3)))⟩])
  .ret)
    .skip)))
  (.seq (.reg [⟨none, (.ld 22 (some 24) (.t 2))⟩,
    ⟨none, (.st (some 24) (.t 2) (.t 22))⟩,
    ⟨none, (.st none (.t 3) (.v (.int .i64 0)))⟩])
  .ret)))
noncomputable def ent13 : TEnt := ⟨13, [.str], (.tup (.pair (.agg 24 (.pair (.int .i64) (.pair (.int .i64) (.pair (.int .i64) (.pair .str (.sl 49 (.agg 49 (.pair .str (.pair .str (.pair (.sl 46 (.agg 46 (.pair .byte .str))) (.int .i64))))))))))) (.int .i64))), fun x => F13 x, .plain⟩
theorem eq13 (x : dens ent13.as) : ent13.F x = evFd [ent9, ent32] SHG dc13a dc13 6 2 3 [(.cell 2 (some 24)), (.cell 3 none)] ent13.as ent13.rs 64 (none) x := by kernel_rfl
-- called by 13: ent9 ent32
theorem mixedG : Tryd.prog.follows .mixedOrders = true := by kernel_rfl
section
variable {G : World → Prop} (hG : Keeps G)
end
end Go.Proofs.YtnhjoplleldbfaaDoor
