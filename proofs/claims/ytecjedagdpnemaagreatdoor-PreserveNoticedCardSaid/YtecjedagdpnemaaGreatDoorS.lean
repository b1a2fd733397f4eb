/-
 THE FUNCTIONS AS PLAIN ONES (printed by a program of ours), and that they are what the code's runs give.
-/
import Derived.Test.YtecjedagdpnemaaGreatDoorF
namespace Go.Proofs.YtecjedagdpnemaaGreatDoor
open Go Go.Nu
set_option maxRecDepth 100000
set_option linter.unusedVariables false
def SHS : List (TypeId × Sh) := [(3, (.int .i64)), (5, .byte), (9, .str), (30, (.sl 65 shFix)), (63, shEdn), (65, shFix), (70, shFile), (72, shFmt), (133, (.arr 133 .bool)), (134, (.arr 134 .bool)), (153, (.arr 153 .byte)), (171, (.arr 171 (.int .u64))), (172, (.arr 172 .byte)), (174, (.arr 174 .byte)), (177, (.arr 177 (.agg 176 (.pair .byte .byte)))), (181, (.arr 181 .byte)), (182, (.arr 182 .byte))]
noncomputable def F12 (a0 : Int) (a1 : Int) (a2 : Int) (a3 : Int) (a4 : List (File)) (a5 : Int × Int × Int × Int) : Option ((Obj) × Int) :=
 bindO (F36 a0) fun y1 =>
 cond (!y1)
 (some (((0, 0, [], [], 0, 0, 0, 0) : Obj), (2 : Int)))
 (bindO (F36 a1) fun y2 =>
 cond (!y2)
 (some (((0, 0, [], [], 0, 0, 0, 0) : Obj), (2 : Int)))
 (bindO (F36 a2) fun y3 =>
 cond (!y3)
 (some (((0, 0, [], [], 0, 0, 0, 0) : Obj), (2 : Int)))
 (bindO (F37 a3) fun y4 =>
 cond (!y4)
 (some (((0, 0, [], [], 0, 0, 0, 0) : Obj), (2 : Int)))
 (bindO (F38 a4) fun y5 =>
 cond (!decide (y5 = (0 : Int)))
 (some (((0, 0, [], [], 0, 0, 0, 0) : Obj), y5))
 (bindO (F39 a5) fun y6 =>
 cond (!decide (y6 = (0 : Int)))
 (some (((0, 0, [], [], 0, 0, 0, 0) : Obj), y6))
 (bindO (F40 a4) fun y7 =>
 none))))))
def dc12 : DC :=
 (.seq (.reg [Bx 11 24 5, ⟨none, (.al 12 (.agg 32 zO))⟩, Mi 13 0])
 (.seq (.seq (.reg [Mt 18 0, Ca 19 36 18, Un 20 19, Mt 21 20, Gd 21 (Mt 22 1), Gd 21 (Ca 23 36 22), Gd 21 (Un 24 23), Po 25 21 24, Mt 26 25, Gd 26 (Mt 27 2), Gd 26 (Ca 28 36 27), Gd 26 (Un 29 28), Po 30 26 29, Mt 31 30, Gd 31 (Mt 32 3), Gd 31 (Ca 33 37 32), Gd 31 (Un 34 33), Po 35 31 34])
 (.cond (.t 35)
 (.seq (.reg [⟨none, (.bd 36 32 zO [] [])⟩, Sr 32 12 36, Mi 13 2])
 .ret)
 .skip))
 (.seq (.seq (.reg [Mt 37 4, Ca 38 38 37, Mt 14 38])
 (.seq (.reg [Mt 39 14, Ai 40 .neq 39 0])
 (.cond (.t 40)
 (.seq (.reg [⟨none, (.bd 41 32 zO [] [])⟩, Mt 42 14, Sr 32 12 41, Mt 13 42])
 .ret)
 .skip)))
 (.seq (.seq (.reg [Lt 43 24 11, Ca 44 39 43, Mt 15 44])
 (.seq (.reg [Mt 45 15, Ai 46 .neq 45 0])
 (.cond (.t 46)
 (.seq (.reg [⟨none, (.bd 47 32 zO [] [])⟩, Mt 48 15, Sr 32 12 47, Mt 13 48])
 .ret)
 .skip)))
 (.seq (.reg [Mt 49 4, Ca 50 40 49, Mt 16 50])
 (.seq (.reg [Mt 51 0, Mt 52 1, Lt 53 24 11, ⟨none, (.bd 54 32 zO [0, 1, 4] [(.t 51), (.t 52), (.t 53)])⟩, ⟨none, (.bd 55 78 [(.agg 32 zO), (.sl none 65 [])] [0] [(.t 54)])⟩, Bx 56 78 55, Mt 17 56])
 (.seq (.reg [Mt 57 17, Mt 58 2, Mt 59 3, Mt 60 16, Mt 61 4, Ca 62 41 61, ⟨none, (.bd 63 63 [(.int .i64 0), (.int .i64 0), (.int .i64 0), (.str []), (.sl none 70 [])] [0, 1, 2, 3, 4] [(.t 58), (.v (.int .i64 (-1))), (.t 59), (.t 60), (.t 62)])⟩, ⟨none, (.bs 64 63 (some 63) [(.t 63)])⟩, ⟨none, (.nc (some 65) (.t 57))⟩, Fa 66 78 0 65, Fa 67 32 2 66, Su 67 64])
 (.seq (.reg [Mt 68 17, Mt 69 3, Mt 70 16, ⟨none, (.bd 71 65 [(.int .i64 0), (.int .i64 0), (.int .i64 0), (.str []), (.str []), (.bool false)] [0, 1, 3, 5] [(.t 69), (.v (.int .i64 1)), (.t 70), (.v (.bool true))])⟩, ⟨none, (.cb (some 72) 42 [(.t 68), (.t 71)])⟩])
 (.seq (.reg [Mt 73 17, ⟨none, (.cb (some 74) 43 [(.t 73)])⟩, Sr 32 12 74, Mi 13 0])
 .ret)))))))))
noncomputable def ent12 : TEnt := ⟨12, [(.int .i64), (.int .i64), (.int .i64), (.int .i64), (.sl 70 shFile), (.agg 24 (.pair (.int .i64) (.pair (.int .i64) (.pair (.int .i64) (.int .i64)))))], (.tup (.pair shObj (.int .i64))), fun x => F12 x.1 x.2.1 x.2.2.1 x.2.2.2.1 x.2.2.2.2.1 x.2.2.2.2.2, .plain⟩
theorem eq12 (x : dens ent12.as) : ent12.F x = evF [ent36, ent37, ent38, ent39, ent40] SHS dc12 [(.cell 12 (some 32)), (.tmp 13)] ent12.as ent12.rs x := by kernel_rfl
noncomputable def F17 (a0 : Obj) (a1 : Int) : Option ((Obj) × List (Int) × Int) :=
 jn (σ := Unit × Unit × (Obj) × Obj) (fun nextj1 =>
 nextj1 ((), (), a0, ((0, 0, [], [], 0, 0, 0, 0) : Obj))) fun j1 =>
 bindO (F15 j1.2.2.1) fun y2 =>
 cond (!decide (y2 = (0 : Int)))
 (some (((0, 0, [], [], 0, 0, 0, 0) : Obj), ([] : List (Int)), (1 : Int)))
 (bindO (F51 j1.2.2.1 a1) fun y3 =>
 cond (!decide (y3 = (0 : Int)))
 (some (((0, 0, [], [], 0, 0, 0, 0) : Obj), ([] : List (Int)), y3))
 (bnd (IntKind.wrap .i64 ((List.length j1.2.2.1.2.2.2.1 : Int) + (List.length j1.2.2.1.2.2.1 : Int))) fun x4 =>
 cond (decide ((64 : Int) < x4))
 (some (((0, 0, [], [], 0, 0, 0, 0) : Obj), ([] : List (Int)), (13 : Int)))
 (loopK (σ := Unit) (fun p5 againp5 =>
 cond (decide ((0 : Int) < (List.length j1.2.2.1.2.2.1 : Int)))
 (gd (0 ≤ (0 : Int) ∧ (0 : Int) < (List.length j1.2.2.1.2.2.1 : Int)) <|
 bindO (F40 ((List.getD j1.2.2.1.2.2.1 (Int.toNat (0 : Int)) (0, (0, (0, ([], []))))).2.2.2.2)) fun y6 =>
 none)
 (none)) ())))
def dc17 : DC :=
 (.jn ⟨[(2, (.con (.rf 2 []))), (4, (.con (.rf 4 [])))], [(2, (.lf shObj)), (4, (.lf shObj))], [5, 6].map .s ++ [5].map .f⟩ (.reg [Bx 2 32 0, ⟨none, (.al 4 (.agg 32 zO))⟩, Nl 5 3, Mi 6 0])
 (.seq (.seq (.reg [Lt 12 32 2, Ca 13 15 12, Ai 14 .neq 13 0])
 (.cond (.t 14)
 (.seq (.reg [⟨none, (.bd 15 32 zO [] [])⟩, Sr 32 4 15, Nl 5 3, Mi 6 1])
 .ret)
 .skip))
 (.seq (.seq (.reg [Lt 16 32 2, Mt 17 1, Cb 18 51 16 17, Mt 7 18])
 (.seq (.reg [Mt 19 7, Ai 20 .neq 19 0])
 (.cond (.t 20)
 (.seq (.reg [⟨none, (.bd 21 32 zO [] [])⟩, Mt 22 7, Sr 32 4 21, Nl 5 3, Mt 6 22])
 .ret)
 .skip)))
 (.seq (.seq (.reg [Fa 23 32 3 2, Ld 24 23, Ln 25 65 24, Fa 26 32 2 2, Ld 27 26, Ln 28 63 27, Ar 29 .add 25 28, Ai 30 .gtr 29 64])
 (.cond (.t 30)
 (.seq (.reg [⟨none, (.bd 31 32 zO [] [])⟩, Sr 32 4 31, Nl 5 3, Mi 6 13])
 .ret)
 .skip))
 (.seq (.reg [Nl 8 3])
 (.seq (.reg [Lt 32 32 2, ⟨none, (.bd 33 78 [(.agg 32 zO), (.sl none 65 [])] [0] [(.t 32)])⟩, Bx 34 78 33, Mt 9 34])
 (.seq (.seq (.reg [Mt 35 9, ⟨none, (.nc (some 36) (.t 35))⟩, Fa 37 78 0 36, Fa 38 32 2 37, Ld 39 38, Ln 40 63 39, Mi 41 0])
 (.block 0 (.loop ⟨[], [], [42].map .s⟩ (.seq (.reg [Ar 42 .lss 41 40])
 (.seq (.cond (.t 42)
 .skip
 (.exit 0))
 (.seq (.block 1 (.seq (.reg [Mt 43 41, Ea 44 63 39 41, Lt 45 63 44, ⟨none, (.al 11 (.agg 63 [(.int .i64 0), (.int .i64 0), (.int .i64 0), (.str []), (.sl none 70 [])]))⟩, Mt 10 43, Sr 63 11 45])
 (.seq (.reg [Mt 46 9, Mt 47 1, Mt 48 10, Fa 49 63 4 11, Ld 50 49, Ca 51 40 50, Mt 52 9, Mt 53 10, ⟨none, (.cb (some 54) 52 [(.t 52), (.t 53)])⟩, ⟨none, (.bd 55 65 [(.int .i64 0), (.int .i64 0), (.int .i64 0), (.str []), (.str []), (.bool false)] [0, 1, 2, 3, 5] [(.t 47), (.v (.int .i64 2)), (.t 48), (.t 51), (.t 54)])⟩, ⟨none, (.cb (some 56) 42 [(.t 46), (.t 55)])⟩])
 (.seq (.reg [Mt 57 9, Mt 58 10, ⟨none, (.cb (some 59) 52 [(.t 57), (.t 58)])⟩, Un 60 59])
 (.cond (.t 60)
 (.reg [Mt 61 8, Mt 62 10, ⟨none, (.bs 63 3 none [(.t 62)])⟩, Ap 64 3 61 63, Mt 8 64])
 .skip)))))
 (.reg [Ai 65 .add 41 1, Mt 41 65])))))))
 (.seq (.reg [Mt 66 9, ⟨none, (.cb (some 67) 43 [(.t 66)])⟩, Mt 68 8, Sr 32 4 67, Mt 5 68, Mi 6 0])
 .ret))))))))
noncomputable def ent17 : TEnt := ⟨17, [shObj, (.int .i64)], (.tup (.pair shObj (.pair (.sl 3 (.int .i64)) (.int .i64)))), fun x => F17 x.1 x.2, .plain⟩
theorem eq17 (x : dens ent17.as) : ent17.F x = evF [ent15, ent40, ent51] SHS dc17 [(.cell 4 (some 32)), (.tmp 5), (.tmp 6)] ent17.as ent17.rs x := by kernel_rfl
noncomputable def F23 (a0 : Obj) (a1 : List (Fmt)) (a2 : Int) (a3 : Int) : Option ((Obj) × Int) :=
 bindO (F15 a0) fun y1 =>
 cond (!decide (y1 = (0 : Int)))
 (some (((0, 0, [], [], 0, 0, 0, 0) : Obj), (1 : Int)))
 (bindO (F51 a0 a3) fun y2 =>
 cond (!decide (y2 = (0 : Int)))
 (some (((0, 0, [], [], 0, 0, 0, 0) : Obj), y2))
 (bindO (F21 a0) fun y3 =>
 gd (0 ≤ y3 ∧ y3 < (List.length a0.2.2.1 : Int)) <|
 bindO (F60 a1 ((List.getD a0.2.2.1 (Int.toNat y3) (0, (0, (0, ([], []))))).1)) fun y4 =>
 bindO (F60 a1 a2) fun y5 =>
 jn (σ := Bool) (fun nextj6 =>
 cond (!y4.2)
 (nextj6 true)
 (nextj6 (!y5.2))) fun j6 =>
 cond (j6)
 (some (((0, 0, [], [], 0, 0, 0, 0) : Obj), (9 : Int)))
 (bindO (F61 y4.1.2.2.2.2.2.2 a2) fun y7 =>
 cond (!y7)
 (some (((0, 0, [], [], 0, 0, 0, 0) : Obj), (1 : Int)))
 (none))))
def dc23 : DC :=
 (.seq (.reg [Bx 4 32 0, ⟨none, (.al 8 (.agg 32 zO))⟩, Mi 9 0])
 (.seq (.seq (.reg [Lt 20 32 4, Ca 21 15 20, Ai 22 .neq 21 0])
 (.cond (.t 22)
 (.seq (.reg [⟨none, (.bd 23 32 zO [] [])⟩, Sr 32 8 23, Mi 9 1])
 .ret)
 .skip))
 (.seq (.seq (.reg [Lt 24 32 4, Mt 25 3, Cb 26 51 24 25, Mt 10 26])
 (.seq (.reg [Mt 27 10, Ai 28 .neq 27 0])
 (.cond (.t 28)
 (.seq (.reg [⟨none, (.bd 29 32 zO [] [])⟩, Mt 30 10, Sr 32 8 29, Mt 9 30])
 .ret)
 .skip)))
 (.seq (.reg [Lt 31 32 4, ⟨none, (.bd 32 78 [(.agg 32 zO), (.sl none 65 [])] [0] [(.t 31)])⟩, Bx 33 78 32, Mt 11 33])
 (.seq (.reg [Lt 34 32 4, Ca 35 21 34, Mt 12 35])
 (.seq (.reg [Mt 37 1, Mt 38 11, ⟨none, (.nc (some 39) (.t 38))⟩, Fa 40 78 0 39, Fa 41 32 2 40, Ld 42 41, Mt 43 12, Ea 44 63 42 43, Fa 45 63 0 44, Ld 46 45, Cb 47 60 37 46, Mt 36 47, Ex 48 0 36, Ex 49 1 36, ⟨none, (.al 13 (.agg 72 [(.int .i64 0), (.int .i64 0), (.int .i64 0), (.int .i64 0), (.str []), (.str []), (.sl none 3 [])]))⟩, Sr 72 13 48, Mt 14 49])
 (.seq (.reg [Mt 51 1, Mt 52 2, Cb 53 60 51 52, Mt 50 53, Ex 54 0 50, Ex 55 1 50, ⟨none, (.al 15 (.agg 72 [(.int .i64 0), (.int .i64 0), (.int .i64 0), (.int .i64 0), (.str []), (.str []), (.sl none 3 [])]))⟩, Sr 72 15 54, Mt 16 55])
 (.seq (.block 0 (.jn ⟨[(56, (.lf .bool))], [], [57, 58, 59, 60, 61, 62].map .s⟩ (.reg [Mt 57 14, Un 58 57, Mt 59 58, Gd 59 (Mt 60 16), Gd 59 (Un 61 60), Po 62 59 61, Mt 56 62])
 (.cond (.t 56)
 (.seq (.reg [⟨none, (.bd 63 32 zO [] [])⟩, Sr 32 8 63, Mi 9 9])
 .ret)
 (.seq (.reg [Fa 65 72 6 13, Ld 66 65, Mt 67 2, Cb 68 61 66 67, Un 69 68, Mt 64 69])
 (.cond (.t 64)
 (.seq (.reg [⟨none, (.bd 70 32 zO [] [])⟩, Sr 32 8 70, Mi 9 1])
 .ret)
 (.seq (.reg [Mt 72 11, Mt 73 12, ⟨none, (.cb (some 74) 52 [(.t 72), (.t 73)])⟩, Un 75 74, Mt 71 75])
 (.cond (.t 71)
 (.seq (.reg [⟨none, (.bd 76 32 zO [] [])⟩, Sr 32 8 76, Mi 9 19])
 .ret)
 .skip)))))))
 (.seq (.reg [Mt 78 11, ⟨none, (.nc (some 79) (.t 78))⟩, Fa 80 78 0 79, Fa 81 32 2 80, Ld 82 81, Mt 83 12, Ea 84 63 82 83, Fa 85 63 4 84, Ld 86 85, Lt 87 72 13, Lt 88 72 15, ⟨none, (.ca (some 89) 62 [(.t 86), (.t 87), (.t 88)])⟩, Mt 77 89, Ex 90 0 77, Ex 91 1 77, Mt 17 90, Mt 18 91])
 (.seq (.seq (.reg [Mt 92 18, Ai 93 .neq 92 0])
 (.cond (.t 93)
 (.seq (.reg [⟨none, (.bd 94 32 zO [] [])⟩, Mt 95 18, Sr 32 8 94, Mt 9 95])
 .ret)
 .skip))
 (.seq (.seq (.reg [Mt 96 11, ⟨none, (.nc (some 97) (.t 96))⟩, Fa 98 78 0 97, Fa 99 32 2 98, Ld 100 99, Ln 101 63 100, Ai 102 .geq 101 8, Mt 103 102, Gd 103 (Mt 104 11), ⟨(some (103, false)), (.nc (some 105) (.t 104))⟩, Gd 103 (Fa 106 78 0 105), Gd 103 (Fa 107 32 3 106), Gd 103 (Ld 108 107), Gd 103 (Ln 109 65 108), Gd 103 (Ai 110 .geq 109 64), Po 111 103 110])
 (.cond (.t 111)
 (.seq (.reg [⟨none, (.bd 112 32 zO [] [])⟩, Sr 32 8 112, Mi 9 13])
 .ret)
 .skip))
 (.seq (.reg [Mt 113 17, Ca 114 40 113, Mt 19 114])
 (.seq (.reg [Mt 115 11, Mt 116 11, ⟨none, (.nc (some 117) (.t 116))⟩, Fa 118 78 0 117, Fa 119 32 2 118, Ld 120 119, Ca 121 63 120, Mt 122 2, Mt 123 12, Mt 124 3, Mt 125 19, Mt 126 17, ⟨none, (.bd 127 63 [(.int .i64 0), (.int .i64 0), (.int .i64 0), (.str []), (.sl none 70 [])] [0, 1, 2, 3, 4] [(.t 122), (.t 123), (.t 124), (.t 125), (.t 126)])⟩, ⟨none, (.bs 128 63 (some 63) [(.t 127)])⟩, Ap 129 63 121 128, ⟨none, (.nc (some 130) (.t 115))⟩, Fa 131 78 0 130, Fa 132 32 2 131, Su 132 129])
 (.seq (.reg [Mt 133 11, Mt 134 3, Mt 135 12, Ai 136 .add 135 1, Mt 137 19, ⟨none, (.bd 138 65 [(.int .i64 0), (.int .i64 0), (.int .i64 0), (.str []), (.str []), (.bool false)] [0, 1, 2, 3, 5] [(.t 134), (.v (.int .i64 3)), (.t 136), (.t 137), (.v (.bool true))])⟩, ⟨none, (.cb (some 139) 42 [(.t 133), (.t 138)])⟩])
 (.seq (.reg [Mt 140 11, ⟨none, (.cb (some 141) 43 [(.t 140)])⟩, Sr 32 8 141, Mi 9 0])
 .ret)))))))))))))))
noncomputable def ent23 : TEnt := ⟨23, [shObj, (.sl 72 shFmt), (.int .i64), (.int .i64)], (.tup (.pair shObj (.int .i64))), fun x => F23 x.1 x.2.1 x.2.2.1 x.2.2.2, .plain⟩
theorem eq23 (x : dens ent23.as) : ent23.F x = evF [ent15, ent21, ent51, ent60, ent61] SHS dc23 [(.cell 8 (some 32)), (.tmp 9)] ent23.as ent23.rs x := by kernel_rfl
noncomputable def F25 (a0 : Obj) (a1 : Int) (a2 : Int) (a3 : Int) : Option ((Obj) × Int) :=
 bindO (F15 a0) fun y1 =>
 cond (!decide (y1 = (0 : Int)))
 (some (((0, 0, [], [], 0, 0, 0, 0) : Obj), (1 : Int)))
 (cond (decide (a1 < (0 : Int)))
 (some (((0, 0, [], [], 0, 0, 0, 0) : Obj), (2 : Int)))
 (cond (decide ((List.length a0.2.2.1 : Int) ≤ a1))
 (some (((0, 0, [], [], 0, 0, 0, 0) : Obj), (2 : Int)))
 (cond (decide (a2 < (0 : Int)))
 (some (((0, 0, [], [], 0, 0, 0, 0) : Obj), (2 : Int)))
 (gd (0 ≤ a1 ∧ a1 < (List.length a0.2.2.1 : Int)) <|
 cond (decide ((List.length ((List.getD a0.2.2.1 (Int.toNat a1) (0, (0, (0, ([], []))))).2.2.2.2) : Int) ≤ a2))
 (some (((0, 0, [], [], 0, 0, 0, 0) : Obj), (2 : Int)))
 (cond (decide (a3 < (0 : Int)))
 (some (((0, 0, [], [], 0, 0, 0, 0) : Obj), (2 : Int)))
 (gd (0 ≤ a1 ∧ a1 < (List.length a0.2.2.1 : Int)) <|
 gd (0 ≤ a2 ∧ a2 < (List.length ((List.getD a0.2.2.1 (Int.toNat a1) (0, (0, (0, ([], []))))).2.2.2.2) : Int)) <|
 cond (decide ((List.length ((List.getD ((List.getD a0.2.2.1 (Int.toNat a1) (0, (0, (0, ([], []))))).2.2.2.2) (Int.toNat a2) ([], [])).2) : Int) ≤ a3))
 (some (((0, 0, [], [], 0, 0, 0, 0) : Obj), (2 : Int)))
 (gd (0 ≤ a1 ∧ a1 < (List.length a0.2.2.1 : Int)) <|
 none)))))))
def dc25 : DC :=
 (.seq (.reg [Bx 4 32 0, ⟨none, (.al 8 (.agg 32 zO))⟩, Mi 9 0])
 (.seq (.block 0 (.seq (.reg [Lt 13 32 4, Ca 14 15 13, Ai 15 .neq 14 0, Mt 12 15])
 (.cond (.t 12)
 (.seq (.reg [⟨none, (.bd 16 32 zO [] [])⟩, Sr 32 8 16, Mi 9 1])
 .ret)
 (.seq (.reg [Mt 18 1, Ai 19 .lss 18 0, Mt 20 19, Gd 20 (Mt 21 1), Gd 20 (Fa 22 32 2 4), Gd 20 (Ld 23 22), Gd 20 (Ln 24 63 23), Gd 20 (Ar 25 .geq 21 24), Po 26 20 25, Mt 27 26, Gd 27 (Mt 28 2), Gd 27 (Ai 29 .lss 28 0), Po 30 27 29, Mt 31 30, Gd 31 (Mt 32 2), Gd 31 (Fa 33 32 2 4), Gd 31 (Ld 34 33), Gd 31 (Mt 35 1), Gd 31 (Ea 36 63 34 35), Gd 31 (Fa 37 63 4 36), Gd 31 (Ld 38 37), Gd 31 (Ln 39 70 38), Gd 31 (Ar 40 .geq 32 39), Po 41 31 40, Mt 42 41, Gd 42 (Mt 43 3), Gd 42 (Ai 44 .lss 43 0), Po 45 42 44, Mt 46 45, Gd 46 (Mt 47 3), Gd 46 (Fa 48 32 2 4), Gd 46 (Ld 49 48), Gd 46 (Mt 50 1), Gd 46 (Ea 51 63 49 50), Gd 46 (Fa 52 63 4 51), Gd 46 (Ld 53 52), Gd 46 (Mt 54 2), Gd 46 (Ea 55 70 53 54), Gd 46 (Fa 56 70 1 55), Gd 46 (Ld 57 56), Gd 46 (Lm 58 57), Gd 46 (Ar 59 .geq 47 58), Po 60 46 59, Mt 17 60])
 (.cond (.t 17)
 (.seq (.reg [⟨none, (.bd 61 32 zO [] [])⟩, Sr 32 8 61, Mi 9 2])
 .ret)
 .skip)))))
 (.seq (.reg [Fa 62 32 2 4, Ld 63 62, Mt 64 1, Ea 65 63 63 64, Fa 66 63 4 65, Ld 67 66, Ca 68 41 67, Mt 10 68])
 (.seq (.reg [Mt 69 10, Mt 70 2, Ea 71 70 69 70, Fa 72 70 1 71, Ld 73 72, ⟨none, (.cvs 74 5 (.t 73))⟩, Mt 11 74])
 (.seq (.reg [Mt 75 11, Mt 76 3, Ea 77 5 75 76, Ld 78 77, ⟨none, (.ar 79 .xor (.t 78) (.v (.int .u8 1)))⟩, Ea 80 5 75 76, Su 80 79])
 (.seq (.reg [Mt 81 10, Mt 82 2, Mt 83 11, ⟨none, (.cvb 84 (.t 83))⟩, Ea 85 70 81 82, Fa 86 70 1 85, Su 86 84])
 (.seq (.reg [Lt 87 32 4, Mt 88 1, Mt 89 10, ⟨none, (.ca (some 90) 67 [(.t 87), (.t 88), (.t 89)])⟩, Sr 32 8 90, Mi 9 0])
 .ret)))))))
noncomputable def ent25 : TEnt := ⟨25, [shObj, (.int .i64), (.int .i64), (.int .i64)], (.tup (.pair shObj (.int .i64))), fun x => F25 x.1 x.2.1 x.2.2.1 x.2.2.2, .plain⟩
theorem eq25 (x : dens ent25.as) : ent25.F x = evF [ent15] SHS dc25 [(.cell 8 (some 32)), (.tmp 9)] ent25.as ent25.rs x := by kernel_rfl
noncomputable def F27 (a0 : Obj) (a1 : Int) (a2 : List (File)) (a3 : Int) : Option ((Obj) × Int) :=
 bindO (F15 a0) fun y1 =>
 cond (!decide (y1 = (0 : Int)))
 (some (((0, 0, [], [], 0, 0, 0, 0) : Obj), (1 : Int)))
 (cond (decide (a1 < (0 : Int)))
 (some (((0, 0, [], [], 0, 0, 0, 0) : Obj), (2 : Int)))
 (cond (decide ((List.length a0.2.2.1 : Int) ≤ a1))
 (some (((0, 0, [], [], 0, 0, 0, 0) : Obj), (2 : Int)))
 (bindO (F51 a0 a3) fun y2 =>
 cond (!decide (y2 = (0 : Int)))
 (some (((0, 0, [], [], 0, 0, 0, 0) : Obj), y2))
 (bindO (F38 a2) fun y3 =>
 cond (!decide (y3 = (0 : Int)))
 (some (((0, 0, [], [], 0, 0, 0, 0) : Obj), y3))
 (gd (0 ≤ a1 ∧ a1 < (List.length a0.2.2.1 : Int)) <|
 bindO (F40 a2) fun y4 =>
 cond (!decide (y4 = (List.getD a0.2.2.1 (Int.toNat a1) (0, (0, (0, ([], []))))).2.2.2.1))
 (some (((0, 0, [], [], 0, 0, 0, 0) : Obj), (19 : Int)))
 (cond (decide ((64 : Int) ≤ (List.length a0.2.2.2.1 : Int)))
 (some (((0, 0, [], [], 0, 0, 0, 0) : Obj), (13 : Int)))
 (none)))))))
def dc27 : DC :=
 (.seq (.reg [Bx 4 32 0, ⟨none, (.al 8 (.agg 32 zO))⟩, Mi 9 0])
 (.seq (.block 0 (.seq (.reg [Lt 15 32 4, Ca 16 15 15, Ai 17 .neq 16 0, Mt 14 17])
 (.cond (.t 14)
 (.seq (.reg [⟨none, (.bd 18 32 zO [] [])⟩, Sr 32 8 18, Mi 9 1])
 .ret)
 (.seq (.reg [Mt 20 1, Ai 21 .lss 20 0, Mt 22 21, Gd 22 (Mt 23 1), Gd 22 (Fa 24 32 2 4), Gd 22 (Ld 25 24), Gd 22 (Ln 26 63 25), Gd 22 (Ar 27 .geq 23 26), Po 28 22 27, Mt 19 28])
 (.cond (.t 19)
 (.seq (.reg [⟨none, (.bd 29 32 zO [] [])⟩, Sr 32 8 29, Mi 9 2])
 .ret)
 .skip)))))
 (.seq (.seq (.reg [Lt 30 32 4, Mt 31 3, Cb 32 51 30 31, Mt 10 32])
 (.seq (.reg [Mt 33 10, Ai 34 .neq 33 0])
 (.cond (.t 34)
 (.seq (.reg [⟨none, (.bd 35 32 zO [] [])⟩, Mt 36 10, Sr 32 8 35, Mt 9 36])
 .ret)
 .skip)))
 (.seq (.seq (.reg [Mt 37 2, Ca 38 38 37, Mt 11 38])
 (.seq (.reg [Mt 39 11, Ai 40 .neq 39 0])
 (.cond (.t 40)
 (.seq (.reg [⟨none, (.bd 41 32 zO [] [])⟩, Mt 42 11, Sr 32 8 41, Mt 9 42])
 .ret)
 .skip)))
 (.seq (.reg [Fa 43 32 2 4, Ld 44 43, Mt 45 1, Ea 46 63 44 45, Fa 47 63 3 46, Ld 48 47, Mt 12 48])
 (.seq (.block 1 (.seq (.reg [Mt 50 2, Ca 51 40 50, Mt 52 12, Ar 53 .neq 51 52, Mt 49 53])
 (.cond (.t 49)
 (.seq (.reg [⟨none, (.bd 54 32 zO [] [])⟩, Sr 32 8 54, Mi 9 19])
 .ret)
 (.seq (.reg [Fa 56 32 3 4, Ld 57 56, Ln 58 65 57, Ai 59 .geq 58 64, Mt 55 59])
 (.cond (.t 55)
 (.seq (.reg [⟨none, (.bd 60 32 zO [] [])⟩, Sr 32 8 60, Mi 9 13])
 .ret)
 .skip)))))
 (.seq (.reg [Lt 61 32 4, Mt 62 1, Mt 63 2, Ca 64 41 63, ⟨none, (.ca (some 65) 67 [(.t 61), (.t 62), (.t 64)])⟩, ⟨none, (.bd 66 78 [(.agg 32 zO), (.sl none 65 [])] [0] [(.t 65)])⟩, Bx 67 78 66, Mt 13 67])
 (.seq (.reg [Mt 68 13, Mt 69 3, Mt 70 1, Mt 71 12, ⟨none, (.bd 72 65 [(.int .i64 0), (.int .i64 0), (.int .i64 0), (.str []), (.str []), (.bool false)] [0, 1, 2, 3, 5] [(.t 69), (.v (.int .i64 4)), (.t 70), (.t 71), (.v (.bool true))])⟩, ⟨none, (.cb (some 73) 42 [(.t 68), (.t 72)])⟩])
 (.seq (.reg [Mt 74 13, ⟨none, (.cb (some 75) 43 [(.t 74)])⟩, Sr 32 8 75, Mi 9 0])
 .ret)))))))))
noncomputable def ent27 : TEnt := ⟨27, [shObj, (.int .i64), (.sl 70 shFile), (.int .i64)], (.tup (.pair shObj (.int .i64))), fun x => F27 x.1 x.2.1 x.2.2.1 x.2.2.2, .plain⟩
theorem eq27 (x : dens ent27.as) : ent27.F x = evF [ent15, ent38, ent40, ent51] SHS dc27 [(.cell 8 (some 32)), (.tmp 9)] ent27.as ent27.rs x := by kernel_rfl
theorem mixedS : Tryz.prog.follows .mixedOrders = true := by kernel_rfl
section
variable {G : World → Prop} (hG : Keeps G)
include hG in
theorem ok12 (h36 : TEnt.Ok Tryz.prog G ent36) (h37 : TEnt.Ok Tryz.prog G ent37) (h38 : TEnt.Ok Tryz.prog G ent38) (h39 : TEnt.Ok Tryz.prog G ent39) (h40 : TEnt.Ok Tryz.prog G ent40) : TEnt.Ok Tryz.prog G ent12 :=
 ent_ok hG mixedS (fn := Tryz.f12) (d := dc12) (crs := [(.cell 12 (some 32)), (.tmp 13)]) (hint := []) (TT := [ent36, ent37, ent38, ent39, ent40]) (SH := SHS) rfl rfl (by kernel_rfl) (splitsNil (by kernel_rfl)) (by decide) rfl ⟨h36, h37, h38, h39, h40, trivial⟩ eq12
include hG in
theorem ok17 (h15 : TEnt.Ok Tryz.prog G ent15) (h40 : TEnt.Ok Tryz.prog G ent40) (h51 : TEnt.Ok Tryz.prog G ent51) : TEnt.Ok Tryz.prog G ent17 :=
 ent_ok hG mixedS (fn := Tryz.f17) (d := dc17) (crs := [(.cell 4 (some 32)), (.tmp 5), (.tmp 6)]) (hint := []) (TT := [ent15, ent40, ent51]) (SH := SHS) rfl rfl (by kernel_rfl) (splitsNil (by kernel_rfl)) (by decide) rfl ⟨h15, h40, h51, trivial⟩ eq17
include hG in
theorem ok23 (h15 : TEnt.Ok Tryz.prog G ent15) (h21 : TEnt.Ok Tryz.prog G ent21) (h51 : TEnt.Ok Tryz.prog G ent51) (h60 : TEnt.Ok Tryz.prog G ent60) (h61 : TEnt.Ok Tryz.prog G ent61) : TEnt.Ok Tryz.prog G ent23 :=
 ent_ok hG mixedS (fn := Tryz.f23) (d := dc23) (crs := [(.cell 8 (some 32)), (.tmp 9)]) (hint := []) (TT := [ent15, ent21, ent51, ent60, ent61]) (SH := SHS) rfl rfl (by kernel_rfl) (splitsNil (by kernel_rfl)) (by decide) rfl ⟨h15, h21, h51, h60, h61, trivial⟩ eq23
include hG in
theorem ok25 (h15 : TEnt.Ok Tryz.prog G ent15) : TEnt.Ok Tryz.prog G ent25 :=
 ent_ok hG mixedS (fn := Tryz.f25) (d := dc25) (crs := [(.cell 8 (some 32)), (.tmp 9)]) (hint := []) (TT := [ent15]) (SH := SHS) rfl rfl (by kernel_rfl) (splitsNil (by kernel_rfl)) (by decide) rfl ⟨h15, trivial⟩ eq25
include hG in
theorem ok27 (h15 : TEnt.Ok Tryz.prog G ent15) (h38 : TEnt.Ok Tryz.prog G ent38) (h40 : TEnt.Ok Tryz.prog G ent40) (h51 : TEnt.Ok Tryz.prog G ent51) : TEnt.Ok Tryz.prog G ent27 :=
 ent_ok hG mixedS (fn := Tryz.f27) (d := dc27) (crs := [(.cell 8 (some 32)), (.tmp 9)]) (hint := []) (TT := [ent15, ent38, ent40, ent51]) (SH := SHS) rfl rfl (by kernel_rfl) (splitsNil (by kernel_rfl)) (by decide) rfl ⟨h15, h38, h40, h51, trivial⟩ eq27
end
end Go.Proofs.YtecjedagdpnemaaGreatDoor
