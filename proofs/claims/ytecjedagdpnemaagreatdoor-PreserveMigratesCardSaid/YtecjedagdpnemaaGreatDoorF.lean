/-
 THE FUNCTIONS AS PLAIN ONES (printed by a program of ours), and that they are what the code's runs give.
-/
import Derived.Test.YtecjedagdpnemaaGreatDoorG
import Derived.Test.YtecjedagdpnemaaGreatDoorAb
namespace Go.Proofs.YtecjedagdpnemaaGreatDoor
open Go Go.Nu
set_option maxRecDepth 100000
set_option linter.unusedVariables false
def SHF : List (TypeId × Sh) := [(3, (.int .i64)), (5, .byte), (9, .str), (30, (.sl 65 shFix)), (63, shEdn), (65, shFix), (70, shFile), (72, shFmt), (133, (.arr 133 .bool)), (134, (.arr 134 .bool)), (153, (.arr 153 .byte)), (171, (.arr 171 (.int .u64))), (172, (.arr 172 .byte)), (174, (.arr 174 .byte)), (177, (.arr 177 (.agg 176 (.pair .byte .byte)))), (181, (.arr 181 .byte)), (182, (.arr 182 .byte))]
noncomputable def F153 (a0 : Int) : Option (Bool) :=
 bnd (IntKind.wrap .i64 (a0 - (1 : Int))) fun x1 =>
 bnd (andI .i64 a0 x1) fun x2 =>
 some (decide (x2 = (0 : Int)))
def dc153 : DC :=
 (.seq (.reg [Mb 2 false])
 (.seq (.reg [Mt 3 0, Mt 4 0, Ai 5 .sub 4 1, Ar 6 .and 3 5, Ai 7 .eql 6 0, Mt 2 7])
 .ret))
noncomputable def ent153 : TEnt := ⟨153, [(.int .i64)], .bool, fun x => F153 x, .plain⟩
theorem eq153 (x : dens ent153.as) : ent153.F x = evF [] SHF dc153 [(.tmp 2)] ent153.as ent153.rs x := by kernel_rfl
noncomputable def F139 (a0 : List (UInt8)) (a1 : Int) (a2 : Int) (a3 : Bool) (a4 : Bool) : Option (List (UInt8) × List UInt8) :=
 cond (decide (a2 < (2 : Int)))
 (none)
 (cond (decide (a2 = (10 : Int)))
 (none)
 (cond (decide ((36 : Int) < a2))
 (none)
 (jn (σ := Int) (fun nextj1 =>
 cond (a3)
 (bnd (IntKind.wrap .u64 (0 - a1)) fun x2 =>
 nextj1 x2)
 (nextj1 a1)) fun j1 =>
 jn (σ := Int × List (UInt8)) (fun nextj3 =>
 bindO (F153 a2) fun y4 =>
 cond (y4)
 (bindO (fTZ (IntKind.wrap .u64 a2)) fun y5 =>
 bnd (IntKind.wrap .u64 ((IntKind.wrap .u64 a2) - (1 : Int))) fun x6 =>
 loopK (σ := Int × Int × List (UInt8)) (fun p7 againp7 =>
 cond (decide ((IntKind.wrap .u64 a2) ≤ p7.1))
 (bnd (IntKind.wrap .i64 (p7.2.1 - (1 : Int))) fun x8 =>
 bnd (andI .u64 p7.1 x6) fun x9 =>
 gd (0 ≤ x9 ∧ x9 < (List.length ([48, 49, 50, 51, 52, 53, 54, 55, 56, 57, 97, 98, 99, 100, 101, 102, 103, 104, 105, 106, 107, 108, 109, 110, 111, 112, 113, 114, 115, 116, 117, 118, 119, 120, 121, 122] : List UInt8) : Int)) <|
 gd (0 ≤ x8 ∧ x8 < (List.length p7.2.2 : Int)) <|
 gd ((Int.toNat x8) < List.length p7.2.2) <|
 gd (0 ≤ (IntKind.wrap .u64 y5)) <|
 bnd (shrI .u64 p7.1 (IntKind.wrap .u64 y5)) fun x10 =>
 againp7 (x10, x8, (List.set p7.2.2 (Int.toNat x8) (List.getD ([48, 49, 50, 51, 52, 53, 54, 55, 56, 57, 97, 98, 99, 100, 101, 102, 103, 104, 105, 106, 107, 108, 109, 110, 111, 112, 113, 114, 115, 116, 117, 118, 119, 120, 121, 122] : List UInt8) (Int.toNat x9) 0))))
 (bnd (IntKind.wrap .i64 (p7.2.1 - (1 : Int))) fun x11 =>
 gd (0 ≤ p7.1 ∧ p7.1 < (List.length ([48, 49, 50, 51, 52, 53, 54, 55, 56, 57, 97, 98, 99, 100, 101, 102, 103, 104, 105, 106, 107, 108, 109, 110, 111, 112, 113, 114, 115, 116, 117, 118, 119, 120, 121, 122] : List UInt8) : Int)) <|
 gd (0 ≤ x11 ∧ x11 < (List.length p7.2.2 : Int)) <|
 gd ((Int.toNat x11) < List.length p7.2.2) <|
 nextj3 (x11, (List.set p7.2.2 (Int.toNat x11) (List.getD ([48, 49, 50, 51, 52, 53, 54, 55, 56, 57, 97, 98, 99, 100, 101, 102, 103, 104, 105, 106, 107, 108, 109, 110, 111, 112, 113, 114, 115, 116, 117, 118, 119, 120, 121, 122] : List UInt8) (Int.toNat p7.1) 0))))) (j1, (65 : Int), (List.replicate 65 (UInt8.ofNat (Int.toNat (0 : Int))))))
 (loopK (σ := Int × Int × List (UInt8)) (fun p12 againp12 =>
 cond (decide ((IntKind.wrap .u64 a2) ≤ p12.1))
 (bnd (IntKind.wrap .i64 (p12.2.1 - (1 : Int))) fun x13 =>
 gd ((IntKind.wrap .u64 a2) ≠ 0) <|
 bnd (IntKind.wrap .u64 (Int.tdiv p12.1 (IntKind.wrap .u64 a2))) fun x14 =>
 bnd (IntKind.wrap .u64 (x14 * (IntKind.wrap .u64 a2))) fun x15 =>
 bnd (IntKind.wrap .u64 (p12.1 - x15)) fun x16 =>
 gd (0 ≤ x16 ∧ x16 < (List.length ([48, 49, 50, 51, 52, 53, 54, 55, 56, 57, 97, 98, 99, 100, 101, 102, 103, 104, 105, 106, 107, 108, 109, 110, 111, 112, 113, 114, 115, 116, 117, 118, 119, 120, 121, 122] : List UInt8) : Int)) <|
 gd (0 ≤ x13 ∧ x13 < (List.length p12.2.2 : Int)) <|
 gd ((Int.toNat x13) < List.length p12.2.2) <|
 againp12 (x14, x13, (List.set p12.2.2 (Int.toNat x13) (List.getD ([48, 49, 50, 51, 52, 53, 54, 55, 56, 57, 97, 98, 99, 100, 101, 102, 103, 104, 105, 106, 107, 108, 109, 110, 111, 112, 113, 114, 115, 116, 117, 118, 119, 120, 121, 122] : List UInt8) (Int.toNat x16) 0))))
 (bnd (IntKind.wrap .i64 (p12.2.1 - (1 : Int))) fun x17 =>
 gd (0 ≤ p12.1 ∧ p12.1 < (List.length ([48, 49, 50, 51, 52, 53, 54, 55, 56, 57, 97, 98, 99, 100, 101, 102, 103, 104, 105, 106, 107, 108, 109, 110, 111, 112, 113, 114, 115, 116, 117, 118, 119, 120, 121, 122] : List UInt8) : Int)) <|
 gd (0 ≤ x17 ∧ x17 < (List.length p12.2.2 : Int)) <|
 gd ((Int.toNat x17) < List.length p12.2.2) <|
 nextj3 (x17, (List.set p12.2.2 (Int.toNat x17) (List.getD ([48, 49, 50, 51, 52, 53, 54, 55, 56, 57, 97, 98, 99, 100, 101, 102, 103, 104, 105, 106, 107, 108, 109, 110, 111, 112, 113, 114, 115, 116, 117, 118, 119, 120, 121, 122] : List UInt8) (Int.toNat p12.1) 0))))) (j1, (65 : Int), (List.replicate 65 (UInt8.ofNat (Int.toNat (0 : Int))))))) fun j3 =>
 jn (σ := Int × List (UInt8)) (fun nextj18 =>
 cond (a3)
 (bnd (IntKind.wrap .i64 (j3.1 - (1 : Int))) fun x19 =>
 gd (0 ≤ x19 ∧ x19 < (List.length j3.2 : Int)) <|
 gd ((Int.toNat x19) < List.length j3.2) <|
 gd ((0 : Int) ≤ (45 : Int) ∧ (45 : Int) < (256 : Int)) <|
 nextj18 (x19, (List.set j3.2 (Int.toNat x19) (UInt8.ofNat (Int.toNat (45 : Int))))))
 (nextj18 (j3.1, j3.2))) fun j18 =>
 cond (a4)
 (none)
 (gd (0 ≤ j18.1 ∧ j18.1 ≤ (List.length j18.2 : Int)) <|
 bnd (List.drop (Int.toNat j18.1) j18.2) fun x20 =>
 some (([] : List (UInt8)), x20)))))
def dc139 : DC :=
 (.seq (.reg [Nl 10 5, ⟨none, (.mv (some 11) (.v (.str [])))⟩])
 (.seq (.seq (.reg [Mt 19 2, Ai 20 .lss 19 2, Mt 21 20, Gd 21 (Mt 22 2), Gd 21 (Ai 23 .eql 22 10), Po 24 21 23, Mt 25 24, Gd 25 (Mt 26 2), Gd 25 (Ai 27 .gtr 26 36), Po 28 25 27])
 (.cond (.t 28)
 (.reg [⟨none, (.mi 29 9 (.v (.str [115, 116, 114, 99, 111, 110, 118, 58, 32, 105, 108, 108, 101, 103, 97, 108, 32, 65, 112, 112, 101, 110, 100, 73, 110, 116, 47, 70, 111, 114, 109, 97, 116, 73, 110, 116, 32, 98, 97, 115, 101])))⟩, ⟨none, (.no none)⟩])
 .skip))
 (.seq (.reg [⟨none, (.al 12 (.agg 172 (List.replicate 65 (.int .u8 0))))⟩])
 (.seq (.reg [Mi 13 65])
 (.jn ⟨[(1, (.lf (.int .u64)))], [], [30, 31, 32].map .s⟩ (.seq (.reg [Mt 30 3])
 (.cond (.t 30)
 (.reg [Mt 31 1, ⟨none, (.un 32 .neg (.t 31))⟩, Mt 1 32])
 .skip))
 (.jn ⟨[(13, (.lf (.int .i64)))], [(12, (.lf (.arr 172 .byte)))], [1, 14, 15, 16, 17, 18, 33, 34, 35, 36, 37, 38, 39, 40, 41, 42, 43, 44, 45, 46, 47, 48, 49, 50, 51, 52, 53, 54, 55, 56, 57, 58, 59, 60, 61, 62, 63, 64, 65, 66, 67, 68, 69, 70, 71, 72, 73, 74, 75, 76, 77, 78, 79, 80, 81, 82, 83, 84, 85, 86, 87, 88].map .s⟩ (.seq (.reg [Mt 33 2, Ca 34 153 33])
 (.cond (.t 34)
 (.seq (.reg [Mt 35 2, ⟨none, (.cvi 36 .u64 (.t 35))⟩, Ca 37 154 36, ⟨none, (.cvi 38 .u64 (.t 37))⟩, Mt 14 38])
 (.seq (.reg [Mt 39 2, ⟨none, (.cvi 40 .u64 (.t 39))⟩, Mt 15 40])
 (.seq (.reg [Mt 41 2, ⟨none, (.cvi 42 .u64 (.t 41))⟩, ⟨none, (.ar 43 .sub (.t 42) (.v (.int .u64 1)))⟩, Mt 16 43])
 (.seq (.block 0 (.loop ⟨[(1, (.lf (.int .u64))), (13, (.lf (.int .i64)))], [(12, (.lf (.arr 172 .byte)))], [44, 45, 46, 47, 48, 49, 50, 51, 52, 53, 54, 55, 56, 57].map .s⟩ (.seq (.seq (.reg [Mt 44 1, Mt 45 15, Ar 46 .geq 44 45])
 (.cond (.t 46)
 .skip
 (.exit 0)))
 (.block 1 (.seq (.reg [Mt 47 13, Ai 48 .sub 47 1, Mt 13 48])
 (.seq (.reg [Mt 49 13, Mt 50 1, Mt 51 16, Ar 52 .and 50 51, ⟨none, (.ix 53 (.v (.str [48, 49, 50, 51, 52, 53, 54, 55, 56, 57, 97, 98, 99, 100, 101, 102, 103, 104, 105, 106, 107, 108, 109, 110, 111, 112, 113, 114, 115, 116, 117, 118, 119, 120, 121, 122])) (.t 52))⟩, ⟨none, (.aa 54 172 (.t 12) (.t 49))⟩, Su 54 53])
 (.reg [Mt 55 1, Mt 56 14, Ar 57 .shr 55 56, Mt 1 57])))))))
 (.seq (.reg [Mt 58 13, Ai 59 .sub 58 1, Mt 13 59])
 (.reg [Mt 60 13, Mt 61 1, ⟨none, (.ix 62 (.v (.str [48, 49, 50, 51, 52, 53, 54, 55, 56, 57, 97, 98, 99, 100, 101, 102, 103, 104, 105, 106, 107, 108, 109, 110, 111, 112, 113, 114, 115, 116, 117, 118, 119, 120, 121, 122])) (.t 61))⟩, ⟨none, (.aa 63 172 (.t 12) (.t 60))⟩, Su 63 62]))))))
 (.seq (.reg [Mt 64 2, ⟨none, (.cvi 65 .u64 (.t 64))⟩, Mt 17 65])
 (.seq (.block 2 (.loop ⟨[(1, (.lf (.int .u64))), (13, (.lf (.int .i64)))], [(12, (.lf (.arr 172 .byte)))], [18, 66, 67, 68, 69, 70, 71, 72, 73, 74, 75, 76, 77, 78, 79, 80, 81, 82].map .s⟩ (.seq (.seq (.reg [Mt 66 1, Mt 67 17, Ar 68 .geq 66 67])
 (.cond (.t 68)
 .skip
 (.exit 2)))
 (.block 3 (.seq (.reg [Mt 69 13, Ai 70 .sub 69 1, Mt 13 70])
 (.seq (.reg [Mt 71 1, Mt 72 17, Ar 73 .quo 71 72, Mt 18 73])
 (.seq (.reg [Mt 74 13, Mt 75 1, Mt 76 18, Mt 77 17, Ar 78 .mul 76 77, Ar 79 .sub 75 78, ⟨none, (.ix 80 (.v (.str [48, 49, 50, 51, 52, 53, 54, 55, 56, 57, 97, 98, 99, 100, 101, 102, 103, 104, 105, 106, 107, 108, 109, 110, 111, 112, 113, 114, 115, 116, 117, 118, 119, 120, 121, 122])) (.t 79))⟩, ⟨none, (.aa 81 172 (.t 12) (.t 74))⟩, Su 81 80])
 (.reg [Mt 82 18, Mt 1 82]))))))))
 (.seq (.reg [Mt 83 13, Ai 84 .sub 83 1, Mt 13 84])
 (.reg [Mt 85 13, Mt 86 1, ⟨none, (.ix 87 (.v (.str [48, 49, 50, 51, 52, 53, 54, 55, 56, 57, 97, 98, 99, 100, 101, 102, 103, 104, 105, 106, 107, 108, 109, 110, 111, 112, 113, 114, 115, 116, 117, 118, 119, 120, 121, 122])) (.t 86))⟩, ⟨none, (.aa 88 172 (.t 12) (.t 85))⟩, Su 88 87]))))))
 (.jn ⟨[(13, (.lf (.int .i64)))], [(12, (.lf (.arr 172 .byte)))], [89, 90, 91, 92, 93].map .s⟩ (.seq (.reg [Mt 89 3])
 (.cond (.t 89)
 (.seq (.reg [Mt 90 13, Ai 91 .sub 90 1, Mt 13 91])
 (.reg [Mt 92 13, ⟨none, (.aa 93 172 (.t 12) (.t 92))⟩, ⟨none, (.st none (.t 93) (.v (.int .u8 45)))⟩]))
 .skip))
 (.seq (.seq (.reg [Mt 94 4])
 (.cond (.t 94)
 (.seq (.reg [Mt 95 0, Mt 96 13, ⟨none, (.sa 97 172 5 (.t 12) (some (.t 96)) none)⟩, Ap 98 5 95 97, Mt 10 98])
 .ret)
 .skip))
 (.seq (.seq (.gh 12 [])
 (.reg [Mt 99 13, ⟨none, (.sa 100 172 5 (.t 12) (some (.t 99)) none)⟩, ⟨none, (.cvb 101 (.t 100))⟩, Mt 11 101]))
 .ret)))))))))
noncomputable def ent139 : TEnt := ⟨139, [(.sl 5 .byte), (.int .u64), (.int .i64), .bool, .bool], (.tup (.pair (.sl 5 .byte) .str)), fun x => F139 x.1 x.2.1 x.2.2.1 x.2.2.2.1 x.2.2.2.2, .plain⟩
theorem eq139 (x : dens ent139.as) : ent139.F x = evF [ent153, entTZ] SHF dc139 [(.tmp 10), (.tmp 11)] ent139.as ent139.rs x := by kernel_rfl
noncomputable def F121 (a0 : Int) (a1 : Int) : Option (List UInt8) :=
 cond (decide (a1 = (10 : Int)))
 (cond (decide (a0 < (100 : Int)))
 (none)
 (none))
 (bindO (F139 ([] : List (UInt8)) a0 a1 false false) fun y1 =>
 some y1.2)
def dc121 : DC :=
 (.seq (.reg [⟨none, (.mv (some 4) (.v (.str [])))⟩])
 (.seq (.seq (.reg [Mt 9 1, Ai 10 .eql 9 10])
 (.cond (.t 10)
 (.seq (.seq (.reg [Mt 11 0, ⟨none, (.ar 12 .lss (.t 11) (.v (.int .u64 100)))⟩])
 (.cond (.t 12)
 (.seq (.reg [Mt 13 0, ⟨none, (.cvi 14 .i64 (.t 13))⟩, Ca 15 136 14, Mt 4 15])
 .ret)
 .skip))
 (.seq (.reg [⟨none, (.al 5 (.agg 153 [(.int .u8 0), (.int .u8 0), (.int .u8 0), (.int .u8 0), (.int .u8 0), (.int .u8 0), (.int .u8 0), (.int .u8 0), (.int .u8 0), (.int .u8 0), (.int .u8 0), (.int .u8 0), (.int .u8 0), (.int .u8 0), (.int .u8 0), (.int .u8 0), (.int .u8 0), (.int .u8 0), (.int .u8 0), (.int .u8 0), (.int .u8 0), (.int .u8 0), (.int .u8 0), (.int .u8 0)]))⟩])
 (.seq (.reg [Mt 16 0, Ca 17 137 16, Mt 6 17])
 (.seq (.reg [Mt 18 6, ⟨none, (.sa 19 153 5 (.t 5) none (some (.t 18)))⟩, Mt 20 0, ⟨none, (.cb (some 21) 138 [(.t 19), (.t 20)])⟩])
 (.seq (.reg [Mt 22 6, ⟨none, (.sa 23 153 5 (.t 5) none (some (.t 22)))⟩, ⟨none, (.cvb 24 (.t 23))⟩, Mt 4 24])
 .ret)))))
 .skip))
 (.seq (.reg [Mt 26 0, Mt 27 1, ⟨none, (.ca (some 28) 139 [(.v (.sl none 0 [])), (.t 26), (.t 27), (.v (.bool false)), (.v (.bool false))])⟩, Mt 25 28, Ex 29 0 25, Ex 30 1 25, Mt 7 29, Mt 8 30])
 (.seq (.reg [Mt 31 8, Mt 4 31])
 .ret))))
noncomputable def ent121 : TEnt := ⟨121, [(.int .u64), (.int .i64)], .str, fun x => F121 x.1 x.2, .plain⟩
theorem eq121 (x : dens ent121.as) : ent121.F x = evF [ent139] SHF dc121 [(.tmp 4)] ent121.as ent121.rs x := by kernel_rfl
noncomputable def F104 (a0 : Int) (a1 : Int) : Option (List UInt8) :=
 bindO (F121 a0 a1) fun y1 =>
 some y1
def dc104 : DC :=
 (.seq (.reg [⟨none, (.mv (some 4) (.v (.str [])))⟩])
 (.seq (.reg [Mt 5 0, Mt 6 1, Cb 7 121 5 6, Mt 4 7])
 .ret))
noncomputable def ent104 : TEnt := ⟨104, [(.int .u64), (.int .i64)], .str, fun x => F104 x.1 x.2, .plain⟩
theorem eq104 (x : dens ent104.as) : ent104.F x = evF [ent121] SHF dc104 [(.tmp 4)] ent104.as ent104.rs x := by kernel_rfl
noncomputable def F90 (a0 : List (List UInt8)) : Option (List UInt8) :=
 loopK (σ := Int × Int) (fun p1 againp1 =>
 cond (decide (p1.2 < (List.length a0 : Int)))
 (gd (0 ≤ p1.2 ∧ p1.2 < (List.length a0 : Int)) <|
 loopK (σ := Int × Int) (fun p2 againp2 =>
 cond (decide (p2.2 < (List.length (List.getD a0 (Int.toNat p1.2) []) : Int)))
 (gd (0 ≤ p2.2 ∧ p2.2 < (List.length (List.getD a0 (Int.toNat p1.2) []) : Int)) <|
 bnd (xorI .u64 p2.1 (IntKind.wrap .u64 (UInt8.toNat (List.getD (List.getD a0 (Int.toNat p1.2) []) (Int.toNat p2.2) 0) : Int))) fun x3 =>
 bnd (IntKind.wrap .u64 (x3 * (1099511628211 : Int))) fun x4 =>
 bnd (IntKind.wrap .i64 (p2.2 + (1 : Int))) fun x5 =>
 againp2 (x4, x5))
 (bnd (IntKind.wrap .i64 (p1.2 + (1 : Int))) fun x6 =>
 againp1 (p2.1, x6))) (p1.1, (0 : Int)))
 (gd (0 ≤ (33 : Int)) <|
 bnd (shrI .u64 p1.1 (33 : Int)) fun x7 =>
 bnd (xorI .u64 p1.1 x7) fun x8 =>
 bnd (IntKind.wrap .u64 (x8 * (18397679294719823053 : Int))) fun x9 =>
 gd (0 ≤ (33 : Int)) <|
 bnd (shrI .u64 x9 (33 : Int)) fun x10 =>
 bnd (xorI .u64 x9 x10) fun x11 =>
 bnd (IntKind.wrap .u64 (x11 * (14181476777654086739 : Int))) fun x12 =>
 gd (0 ≤ (33 : Int)) <|
 bnd (shrI .u64 x12 (33 : Int)) fun x13 =>
 bnd (xorI .u64 x12 x13) fun x14 =>
 bindO (F104 x14 (16 : Int)) fun y15 =>
 bnd (IntKind.wrap .i64 ((16 : Int) - (List.length y15 : Int))) fun x16 =>
 bindO (fRepeat ([48] : List UInt8) x16) fun y17 =>
 gd (List.length y17 + List.length y15 ≤ big) <|
 bnd (y17 ++ y15) fun x18 =>
 some x18)) ((14695981039346656037 : Int), (0 : Int))
def dc90 : DC :=
 (.seq (.reg [⟨none, (.mv (some 2) (.v (.str [])))⟩])
 (.seq (.reg [⟨none, (.mv (some 3) (.v (.int .u64 14695981039346656037)))⟩])
 (.seq (.seq (.reg [Mt 8 0, Ln 9 9 8, Mi 10 0])
 (.block 0 (.loop ⟨[(3, (.lf (.int .u64))), (10, (.lf (.int .i64)))], [], [5, 6, 11, 12, 13, 14, 15, 16, 17, 18, 19, 20, 21, 22, 23, 24, 25, 26, 27].map .s⟩ (.seq (.reg [Ar 11 .lss 10 9])
 (.seq (.cond (.t 11)
 .skip
 (.exit 0))
 (.seq (.block 1 (.seq (.reg [Ea 12 9 8 10, Ld 13 12, Mt 5 13])
 (.seq (.reg [Mt 14 5, Lm 15 14, Mi 16 0])
 (.block 2 (.loop ⟨[(3, (.lf (.int .u64))), (16, (.lf (.int .i64)))], [], [6, 17, 18, 19, 20, 21, 22, 23, 24, 25, 26].map .s⟩ (.seq (.reg [Ar 17 .lss 16 15])
 (.seq (.cond (.t 17)
 .skip
 (.exit 2))
 (.seq (.block 3 (.seq (.reg [Mt 18 16, Mt 6 18])
 (.reg [Mt 19 3, Mt 20 5, Mt 21 6, ⟨none, (.ix 22 (.t 20) (.t 21))⟩, ⟨none, (.cvi 23 .u64 (.t 22))⟩, Ar 24 .xor 19 23, ⟨none, (.ar 25 .mul (.t 24) (.v (.int .u64 1099511628211)))⟩, Mt 3 25])))
 (.reg [Ai 26 .add 16 1, Mt 16 26])))))))))
 (.reg [Ai 27 .add 10 1, Mt 10 27])))))))
 (.seq (.reg [Mt 28 3, Mt 29 3, ⟨none, (.ar 30 .shr (.t 29) (.v (.int .u64 33)))⟩, Ar 31 .xor 28 30, Mt 3 31])
 (.seq (.reg [Mt 32 3, ⟨none, (.ar 33 .mul (.t 32) (.v (.int .u64 18397679294719823053)))⟩, Mt 3 33])
 (.seq (.reg [Mt 34 3, Mt 35 3, ⟨none, (.ar 36 .shr (.t 35) (.v (.int .u64 33)))⟩, Ar 37 .xor 34 36, Mt 3 37])
 (.seq (.reg [Mt 38 3, ⟨none, (.ar 39 .mul (.t 38) (.v (.int .u64 14181476777654086739)))⟩, Mt 3 39])
 (.seq (.reg [Mt 40 3, Mt 41 3, ⟨none, (.ar 42 .shr (.t 41) (.v (.int .u64 33)))⟩, Ar 43 .xor 40 42, Mt 3 43])
 (.seq (.reg [Mt 44 3, ⟨none, (.ca (some 45) 104 [(.t 44), (.v (.int .i64 16))])⟩, Mt 7 45])
 (.seq (.reg [Mt 46 7, Lm 47 46, ⟨none, (.ar 48 .sub (.v (.int .i64 16)) (.t 47))⟩, ⟨none, (.ca (some 49) 105 [(.v (.str [48])), (.t 48)])⟩, Mt 50 7, Ar 51 .add 49 50, Mt 2 51])
 .ret))))))))))
noncomputable def ent90 : TEnt := ⟨90, [(.sl 9 .str)], .str, fun x => F90 x, .plain⟩
theorem eq90 (x : dens ent90.as) : ent90.F x = evF [ent104, entRepeat] SHF dc90 [(.tmp 2)] ent90.as ent90.rs x := by kernel_rfl
noncomputable def F73 (a0 : List UInt8) : Option (List UInt8) :=
 bindO (F90 [a0]) fun y1 =>
 some y1
def dc73 : DC :=
 (.seq (.reg [⟨none, (.mv (some 2) (.v (.str [])))⟩])
 (.seq (.reg [Mt 3 0, ⟨none, (.bs 4 9 none [(.t 3)])⟩, Ca 5 90 4, Mt 2 5])
 .ret))
noncomputable def ent73 : TEnt := ⟨73, [.str], .str, fun x => F73 x, .plain⟩
theorem eq73 (x : dens ent73.as) : ent73.F x = evF [ent90] SHF dc73 [(.tmp 2)] ent73.as ent73.rs x := by kernel_rfl
noncomputable def F71 (a0 : List UInt8) : Option (List UInt8) :=
 loopK (σ := Int × Int) (fun p1 againp1 =>
 cond (decide (p1.2 < (List.length a0 : Int)))
 (gd (0 ≤ p1.2 ∧ p1.2 < (List.length a0 : Int)) <|
 bnd (xorI .u64 p1.1 (IntKind.wrap .u64 (UInt8.toNat (List.getD a0 (Int.toNat p1.2) 0) : Int))) fun x2 =>
 bnd (IntKind.wrap .u64 (x2 * (1099511628211 : Int))) fun x3 =>
 bnd (IntKind.wrap .i64 (p1.2 + (1 : Int))) fun x4 =>
 againp1 (x3, x4))
 (gd (0 ≤ (33 : Int)) <|
 bnd (shrI .u64 p1.1 (33 : Int)) fun x5 =>
 bnd (xorI .u64 p1.1 x5) fun x6 =>
 bnd (IntKind.wrap .u64 (x6 * (18397679294719823053 : Int))) fun x7 =>
 gd (0 ≤ (33 : Int)) <|
 bnd (shrI .u64 x7 (33 : Int)) fun x8 =>
 bnd (xorI .u64 x7 x8) fun x9 =>
 bnd (IntKind.wrap .u64 (x9 * (14181476777654086739 : Int))) fun x10 =>
 gd (0 ≤ (33 : Int)) <|
 bnd (shrI .u64 x10 (33 : Int)) fun x11 =>
 bnd (xorI .u64 x10 x11) fun x12 =>
 loopK (σ := Int × List (UInt8) × Int) (fun p13 againp13 =>
 cond (decide (p13.2.2 < (16 : Int)))
 (gd ((16 : Int) ≠ 0) <|
 bnd (Int.tmod p13.1 (16 : Int)) fun x14 =>
 gd (0 ≤ x14 ∧ x14 < (List.length ([48, 49, 50, 51, 52, 53, 54, 55, 56, 57, 97, 98, 99, 100, 101, 102] : List UInt8) : Int)) <|
 gdN (List.length [(List.getD ([48, 49, 50, 51, 52, 53, 54, 55, 56, 57, 97, 98, 99, 100, 101, 102] : List UInt8) (Int.toNat x14) 0)]) (List.length [(List.getD ([48, 49, 50, 51, 52, 53, 54, 55, 56, 57, 97, 98, 99, 100, 101, 102] : List UInt8) (Int.toNat x14) 0)]) <|
 gd (List.length [(List.getD ([48, 49, 50, 51, 52, 53, 54, 55, 56, 57, 97, 98, 99, 100, 101, 102] : List UInt8) (Int.toNat x14) 0)] + List.length p13.2.1 ≤ big) <|
 bnd ([(List.getD ([48, 49, 50, 51, 52, 53, 54, 55, 56, 57, 97, 98, 99, 100, 101, 102] : List UInt8) (Int.toNat x14) 0)] ++ p13.2.1) fun l15 =>
 gd ((16 : Int) ≠ 0) <|
 bnd (IntKind.wrap .u64 (Int.tdiv p13.1 (16 : Int))) fun x16 =>
 bnd (IntKind.wrap .i64 (p13.2.2 + (1 : Int))) fun x17 =>
 againp13 (x16, l15, x17))
 (some p13.2.1)) (x12, ([] : List (UInt8)), (0 : Int)))) ((14695981039346656037 : Int), (0 : Int))
def dc71 : DC :=
 (.seq (.reg [⟨none, (.mv (some 2) (.v (.str [])))⟩])
 (.seq (.reg [⟨none, (.mv (some 3) (.v (.int .u64 14695981039346656037)))⟩])
 (.seq (.seq (.reg [Mi 4 0])
 (.block 0 (.loop ⟨[(3, (.lf (.int .u64))), (4, (.lf (.int .i64)))], [], [7, 8, 9, 10, 11, 12, 13, 14, 15, 16, 17, 18, 19].map .s⟩ (.seq (.seq (.reg [Mt 7 4, Mt 8 0, Lm 9 8, Ar 10 .lss 7 9])
 (.cond (.t 10)
 .skip
 (.exit 0)))
 (.seq (.block 1 (.reg [Mt 13 3, Mt 14 0, Mt 15 4, ⟨none, (.ix 16 (.t 14) (.t 15))⟩, ⟨none, (.cvi 17 .u64 (.t 16))⟩, Ar 18 .xor 13 17, ⟨none, (.ar 19 .mul (.t 18) (.v (.int .u64 1099511628211)))⟩, Mt 3 19]))
 (.reg [Mt 11 4, Ai 12 .add 11 1, Mt 4 12]))))))
 (.seq (.reg [Mt 20 3, Mt 21 3, ⟨none, (.ar 22 .shr (.t 21) (.v (.int .u64 33)))⟩, Ar 23 .xor 20 22, Mt 3 23])
 (.seq (.reg [Mt 24 3, ⟨none, (.ar 25 .mul (.t 24) (.v (.int .u64 18397679294719823053)))⟩, Mt 3 25])
 (.seq (.reg [Mt 26 3, Mt 27 3, ⟨none, (.ar 28 .shr (.t 27) (.v (.int .u64 33)))⟩, Ar 29 .xor 26 28, Mt 3 29])
 (.seq (.reg [Mt 30 3, ⟨none, (.ar 31 .mul (.t 30) (.v (.int .u64 14181476777654086739)))⟩, Mt 3 31])
 (.seq (.reg [Mt 32 3, Mt 33 3, ⟨none, (.ar 34 .shr (.t 33) (.v (.int .u64 33)))⟩, Ar 35 .xor 32 34, Mt 3 35])
 (.seq (.reg [⟨none, (.bs 36 5 none [])⟩, Mt 5 36])
 (.seq (.seq (.reg [Mi 6 0])
 (.block 2 (.loop ⟨[(3, (.lf (.int .u64))), (5, (.lf (.sl 5 .byte))), (6, (.lf (.int .i64)))], [], [37, 38, 39, 40, 41, 42, 43, 44, 45, 46, 47, 48].map .s ++ [44].map .f⟩ (.seq (.seq (.reg [Mt 37 6, Ai 38 .lss 37 16])
 (.cond (.t 38)
 .skip
 (.exit 2)))
 (.seq (.block 3 (.seq (.reg [Mt 41 3, ⟨none, (.ar 42 .rem (.t 41) (.v (.int .u64 16)))⟩, ⟨none, (.ix 43 (.v (.str [48, 49, 50, 51, 52, 53, 54, 55, 56, 57, 97, 98, 99, 100, 101, 102])) (.t 42))⟩, ⟨none, (.bs 44 5 none [(.t 43)])⟩, Mt 45 5, Ap 46 5 44 45, Mt 5 46])
 (.reg [Mt 47 3, ⟨none, (.ar 48 .quo (.t 47) (.v (.int .u64 16)))⟩, Mt 3 48])))
 (.reg [Mt 39 6, Ai 40 .add 39 1, Mt 6 40]))))))
 (.seq (.reg [Mt 49 5, ⟨none, (.cvb 50 (.t 49))⟩, Mt 2 50])
 .ret)))))))))))
noncomputable def ent71 : TEnt := ⟨71, [.str], .str, fun x => F71 x, .plain⟩
theorem eq71 (x : dens ent71.as) : ent71.F x = evF [] SHF dc71 [(.tmp 2)] ent71.as ent71.rs x := by kernel_rfl
noncomputable def F118 (a0 : List UInt8) (a1 : List UInt8) : Option (List UInt8) :=
 bindO (F90 [([49] : List UInt8), a0, a1]) fun y1 =>
 some y1
def dc118 : DC :=
 (.seq (.reg [⟨none, (.mv (some 4) (.v (.str [])))⟩])
 (.seq (.reg [Mt 5 0, Mt 6 1, ⟨none, (.bs 7 9 none [(.v (.str [49])), (.t 5), (.t 6)])⟩, Ca 8 90 7, Mt 4 8])
 .ret))
noncomputable def ent118 : TEnt := ⟨118, [.str, .str], .str, fun x => F118 x.1 x.2, .plain⟩
theorem eq118 (x : dens ent118.as) : ent118.F x = evF [ent90] SHF dc118 [(.tmp 4)] ent118.as ent118.rs x := by kernel_rfl
noncomputable def F103 (a0 : List UInt8) (a1 : List UInt8) : Option (List UInt8) :=
 gd (List.length ([49] : List UInt8) + List.length a0 ≤ big) <|
 bnd (([49] : List UInt8) ++ a0) fun x1 =>
 gd (List.length x1 + List.length a1 ≤ big) <|
 bnd (x1 ++ a1) fun x2 =>
 bindO (F71 x2) fun y3 =>
 some y3
def dc103 : DC :=
 (.seq (.reg [⟨none, (.mv (some 4) (.v (.str [])))⟩])
 (.seq (.reg [Mt 5 0, ⟨none, (.ar 6 .add (.v (.str [49])) (.t 5))⟩, Mt 7 1, Ar 8 .add 6 7, Ca 9 71 8, Mt 4 9])
 .ret))
noncomputable def ent103 : TEnt := ⟨103, [.str, .str], .str, fun x => F103 x.1 x.2, .plain⟩
theorem eq103 (x : dens ent103.as) : ent103.F x = evF [ent71] SHF dc103 [(.tmp 4)] ent103.as ent103.rs x := by kernel_rfl
noncomputable def F82 (a0 : List UInt8) : Option (Bool) :=
 cond (decide ((List.length a0 : Int) = (16 : Int)))
 (bindO (fTrim a0 ([48, 49, 50, 51, 52, 53, 54, 55, 56, 57, 97, 98, 99, 100, 101, 102] : List UInt8)) fun y1 =>
 some (decide (y1 = ([] : List UInt8))))
 (some false)
def dc82 : DC :=
 (.seq (.reg [Mb 2 false])
 (.seq (.reg [Mt 3 0, Lm 4 3, Ai 5 .eql 4 16, Mt 6 5, Ge 6 (Mt 7 0), ⟨(some (6, true)), (.ca (some 8) 94 [(.t 7), (.v (.str [48, 49, 50, 51, 52, 53, 54, 55, 56, 57, 97, 98, 99, 100, 101, 102]))])⟩, ⟨(some (6, true)), (.ar 9 .eql (.t 8) (.v (.str [])))⟩, Pa 10 6 9, Mt 2 10])
 .ret))
noncomputable def ent82 : TEnt := ⟨82, [.str], .bool, fun x => F82 x, .plain⟩
theorem eq82 (x : dens ent82.as) : ent82.F x = evF [entTrim] SHF dc82 [(.tmp 2)] ent82.as ent82.rs x := by kernel_rfl
noncomputable def F69 (a0 : List UInt8) : Option (Bool) :=
 cond (!decide ((List.length a0 : Int) = (16 : Int)))
 (some false)
 (loopK (σ := Int) (fun p1 againp1 =>
 cond (decide (p1 < (16 : Int)))
 (gd (0 ≤ p1 ∧ p1 < (List.length a0 : Int)) <|
 cond (decide ((48 : Int) ≤ (UInt8.toNat (List.getD a0 (Int.toNat p1) 0) : Int)))
 (gd (0 ≤ p1 ∧ p1 < (List.length a0 : Int)) <|
 cond (decide ((UInt8.toNat (List.getD a0 (Int.toNat p1) 0) : Int) ≤ (57 : Int)))
 (bnd (IntKind.wrap .i64 (p1 + (1 : Int))) fun x2 =>
 againp1 x2)
 (gd (0 ≤ p1 ∧ p1 < (List.length a0 : Int)) <|
 cond (decide ((97 : Int) ≤ (UInt8.toNat (List.getD a0 (Int.toNat p1) 0) : Int)))
 (gd (0 ≤ p1 ∧ p1 < (List.length a0 : Int)) <|
 cond (!(decide ((UInt8.toNat (List.getD a0 (Int.toNat p1) 0) : Int) ≤ (102 : Int))))
 (some false)
 (bnd (IntKind.wrap .i64 (p1 + (1 : Int))) fun x3 =>
 againp1 x3))
 (some false)))
 (gd (0 ≤ p1 ∧ p1 < (List.length a0 : Int)) <|
 cond (decide ((97 : Int) ≤ (UInt8.toNat (List.getD a0 (Int.toNat p1) 0) : Int)))
 (gd (0 ≤ p1 ∧ p1 < (List.length a0 : Int)) <|
 cond (!(decide ((UInt8.toNat (List.getD a0 (Int.toNat p1) 0) : Int) ≤ (102 : Int))))
 (some false)
 (bnd (IntKind.wrap .i64 (p1 + (1 : Int))) fun x4 =>
 againp1 x4))
 (some false)))
 (some true)) (0 : Int))
def dc69 : DC :=
 (.seq (.reg [Mb 2 false])
 (.seq (.seq (.reg [Mt 4 0, Lm 5 4, Ai 6 .neq 5 16])
 (.cond (.t 6)
 (.seq (.reg [Mb 2 false])
 .ret)
 .skip))
 (.seq (.seq (.reg [Mi 3 0])
 (.block 0 (.loop ⟨[(3, (.lf (.int .i64)))], [], [2, 7, 8, 9, 10, 11, 12, 13, 14, 15, 16, 17, 18, 19, 20, 21, 22, 23, 24, 25, 26, 27, 28, 29, 30, 31, 32, 33].map .s⟩ (.seq (.seq (.reg [Mt 7 3, Ai 8 .lss 7 16])
 (.cond (.t 8)
 .skip
 (.exit 0)))
 (.seq (.block 1 (.seq (.reg [Mt 11 0, Mt 12 3, ⟨none, (.ix 13 (.t 11) (.t 12))⟩, ⟨none, (.ar 14 .geq (.t 13) (.v (.int .u8 48)))⟩, Mt 15 14, Ge 15 (Mt 16 0), Ge 15 (Mt 17 3), ⟨(some (15, true)), (.ix 18 (.t 16) (.t 17))⟩, ⟨(some (15, true)), (.ar 19 .leq (.t 18) (.v (.int .u8 57)))⟩, Pa 20 15 19, Mt 21 20, Gd 21 (Mt 22 0), Gd 21 (Mt 23 3), ⟨(some (21, false)), (.ix 24 (.t 22) (.t 23))⟩, ⟨(some (21, false)), (.ar 25 .geq (.t 24) (.v (.int .u8 97)))⟩, Gd 21 (Mt 26 25), Ge 26 (Mt 27 0), Ge 26 (Mt 28 3), ⟨(some (26, true)), (.ix 29 (.t 27) (.t 28))⟩, ⟨(some (26, true)), (.ar 30 .leq (.t 29) (.v (.int .u8 102)))⟩, Gd 21 (Pa 31 26 30), Po 32 21 31, Un 33 32])
 (.cond (.t 33)
 (.seq (.reg [Mb 2 false])
 .ret)
 .skip)))
 (.reg [Mt 9 3, Ai 10 .add 9 1, Mt 3 10]))))))
 (.seq (.reg [Mb 2 true])
 .ret))))
noncomputable def ent69 : TEnt := ⟨69, [.str], .bool, fun x => F69 x, .plain⟩
theorem eq69 (x : dens ent69.as) : ent69.F x = evF [] SHF dc69 [(.tmp 2)] ent69.as ent69.rs x := by kernel_rfl
noncomputable def F96 (a0 : List (List UInt8)) : Option (List (List UInt8)) :=
 gd (0 ≤ (List.length a0 : Int) ∧ (List.length a0 : Int) = (List.length a0 : Int) ∧ (List.length a0 : Int) ≤ (big : Int)) <|
 loopK (σ := Int × List (List UInt8)) (fun p1 againp1 =>
 cond (decide (p1.1 < (List.length a0 : Int)))
 (gd (0 ≤ p1.1 ∧ p1.1 < (List.length a0 : Int)) <|
 bindO (F90 [([48] : List UInt8), (List.getD a0 (Int.toNat p1.1) [])]) fun y2 =>
 gd (0 ≤ p1.1 ∧ p1.1 < (List.length p1.2 : Int)) <|
 gd ((Int.toNat p1.1) < List.length p1.2) <|
 bnd (IntKind.wrap .i64 (p1.1 + (1 : Int))) fun x3 =>
 againp1 (x3, (List.set p1.2 (Int.toNat p1.1) y2)))
 (some p1.2)) ((0 : Int), (List.replicate (Int.toNat (List.length a0 : Int)) ([] : List UInt8) : List (List UInt8)))
def dc96 : DC :=
 (.seq (.reg [Nl 2 9])
 (.seq (.reg [Mt 6 0, Ln 7 9 6, ⟨none, (.mm 8 9 (.str []) (.t 7) (.t 7))⟩, Mt 3 8])
 (.seq (.seq (.reg [Mt 9 0, Ln 10 9 9, Mi 11 0])
 (.block 0 (.loop ⟨[(11, (.lf (.int .i64)))], [(8, (.lf (.arr 1000009 .str)))], [4, 5, 12, 13, 14, 15, 16, 17, 18, 19, 20, 21, 22].map .s ++ [19].map .f⟩ (.seq (.reg [Ar 12 .lss 11 10])
 (.seq (.cond (.t 12)
 .skip
 (.exit 0))
 (.seq (.block 1 (.seq (.reg [Mt 13 11, Ea 14 9 9 11, Ld 15 14, Mt 4 13, Mt 5 15])
 (.reg [Mt 16 3, Mt 17 4, Mt 18 5, ⟨none, (.bs 19 9 none [(.v (.str [48])), (.t 18)])⟩, Ca 20 90 19, Ea 21 9 16 17, Su 21 20])))
 (.reg [Ai 22 .add 11 1, Mt 11 22])))))))
 (.seq (.seq (.gh 8 [])
 (.reg [Mt 23 3, Mt 2 23]))
 .ret))))
noncomputable def ent96 : TEnt := ⟨96, [(.sl 9 .str)], (.sl 9 .str), fun x => F96 x, .plain⟩
theorem eq96 (x : dens ent96.as) : ent96.F x = evF [ent90] SHF dc96 [(.tmp 2)] ent96.as ent96.rs x := by kernel_rfl
noncomputable def F97 (a0 : List (List UInt8)) : Option (List (List UInt8)) :=
 gdN (List.length ([] : List (List UInt8))) (List.length ([] : List (List UInt8))) <|
 loopK (σ := List (List UInt8) × Int) (fun p1 againp1 =>
 cond (decide (p1.2 < (List.length a0 : Int)))
 (bnd (IntKind.wrap .i64 (p1.2 + (1 : Int))) fun x2 =>
 cond (decide (x2 = (List.length a0 : Int)))
 (gd (0 ≤ p1.2 ∧ p1.2 < (List.length a0 : Int)) <|
 gdN (List.length p1.1) (List.length p1.1) <|
 gd (List.length p1.1 + List.length [(List.getD a0 (Int.toNat p1.2) [])] ≤ big) <|
 bnd (p1.1 ++ [(List.getD a0 (Int.toNat p1.2) [])]) fun l3 =>
 bnd (IntKind.wrap .i64 (p1.2 + (2 : Int))) fun x4 =>
 gdN (List.length l3) (List.length l3) <|
 againp1 (l3, x4))
 (gd (0 ≤ p1.2 ∧ p1.2 < (List.length a0 : Int)) <|
 bnd (IntKind.wrap .i64 (p1.2 + (1 : Int))) fun x5 =>
 gd (0 ≤ x5 ∧ x5 < (List.length a0 : Int)) <|
 bindO (F118 (List.getD a0 (Int.toNat p1.2) []) (List.getD a0 (Int.toNat x5) [])) fun y6 =>
 gdN (List.length p1.1) (List.length p1.1) <|
 gd (List.length p1.1 + List.length [y6] ≤ big) <|
 bnd (p1.1 ++ [y6]) fun l7 =>
 bnd (IntKind.wrap .i64 (p1.2 + (2 : Int))) fun x8 =>
 gdN (List.length l7) (List.length l7) <|
 againp1 (l7, x8)))
 (some p1.1)) (([] : List (List UInt8)), (0 : Int))
def dc97 : DC :=
 (.seq (.reg [Nl 2 9])
 (.seq (.reg [Nl 3 9])
 (.seq (.seq (.reg [Mi 4 0])
 (.block 0 (.loop ⟨[(3, (.row 3 9 .str)), (4, (.lf (.int .i64)))], [], [5, 6, 7, 8, 9, 10, 11, 12, 13, 14, 15, 16, 17, 18, 19, 20, 21, 22, 23, 24, 25, 26, 27, 28, 29, 30, 31, 32, 33, 34, 35].map .s ++ [21, 34].map .f⟩ (.seq (.seq (.reg [Mt 5 4, Mt 6 0, Ln 7 9 6, Ar 8 .lss 5 7])
 (.cond (.t 8)
 .skip
 (.exit 0)))
 (.seq (.block 1 (.seq (.reg [Mt 11 4, Ai 12 .add 11 1, Mt 13 0, Ln 14 9 13, Ar 15 .eql 12 14])
 (.cond (.t 15)
 (.reg [Mt 16 3, Mt 17 0, Mt 18 4, Ea 19 9 17 18, Ld 20 19, ⟨none, (.bs 21 9 none [(.t 20)])⟩, Ap 22 9 16 21, Mt 3 22])
 (.reg [Mt 23 3, Mt 24 0, Mt 25 4, Ea 26 9 24 25, Ld 27 26, Mt 28 0, Mt 29 4, Ai 30 .add 29 1, Ea 31 9 28 30, Ld 32 31, Cb 33 118 27 32, ⟨none, (.bs 34 9 none [(.t 33)])⟩, Ap 35 9 23 34, Mt 3 35]))))
 (.reg [Mt 9 4, Ai 10 .add 9 2, Mt 4 10]))))))
 (.seq (.reg [Mt 36 3, Mt 2 36])
 .ret))))
noncomputable def ent97 : TEnt := ⟨97, [(.sl 9 .str)], (.sl 9 .str), fun x => F97 x, .plain⟩
theorem eq97 (x : dens ent97.as) : ent97.F x = evF [ent118] SHF dc97 [(.tmp 2)] ent97.as ent97.rs x := by kernel_rfl
noncomputable def F88 (a0 : List (List UInt8)) : Option (List (List UInt8)) :=
 gdN (List.length ([] : List (List UInt8))) (List.length ([] : List (List UInt8))) <|
 loopK (σ := List (List UInt8) × Int) (fun p1 againp1 =>
 cond (decide (p1.2 < (List.length a0 : Int)))
 (gd (0 ≤ p1.2 ∧ p1.2 < (List.length a0 : Int)) <|
 gd (List.length ([48] : List UInt8) + List.length (List.getD a0 (Int.toNat p1.2) []) ≤ big) <|
 bnd (([48] : List UInt8) ++ (List.getD a0 (Int.toNat p1.2) [])) fun x2 =>
 bindO (F71 x2) fun y3 =>
 gdN (List.length p1.1) (List.length p1.1) <|
 gd (List.length p1.1 + List.length [y3] ≤ big) <|
 bnd (p1.1 ++ [y3]) fun l4 =>
 bnd (IntKind.wrap .i64 (p1.2 + (1 : Int))) fun x5 =>
 gdN (List.length l4) (List.length l4) <|
 againp1 (l4, x5))
 (some p1.1)) (([] : List (List UInt8)), (0 : Int))
def dc88 : DC :=
 (.seq (.reg [Nl 2 9])
 (.seq (.reg [⟨none, (.bs 5 9 none [])⟩, Mt 3 5])
 (.seq (.seq (.reg [Mi 4 0])
 (.block 0 (.loop ⟨[(3, (.row 5 9 .str)), (4, (.lf (.int .i64)))], [], [6, 7, 8, 9, 10, 11, 12, 13, 14, 15, 16, 17, 18, 19, 20].map .s ++ [19].map .f⟩ (.seq (.seq (.reg [Mt 6 4, Mt 7 0, Ln 8 9 7, Ar 9 .lss 6 8])
 (.cond (.t 9)
 .skip
 (.exit 0)))
 (.seq (.block 1 (.reg [Mt 12 3, Mt 13 0, Mt 14 4, Ea 15 9 13 14, Ld 16 15, ⟨none, (.ar 17 .add (.v (.str [48])) (.t 16))⟩, Ca 18 71 17, ⟨none, (.bs 19 9 none [(.t 18)])⟩, Ap 20 9 12 19, Mt 3 20]))
 (.reg [Mt 10 4, Ai 11 .add 10 1, Mt 4 11]))))))
 (.seq (.reg [Mt 21 3, Mt 2 21])
 .ret))))
noncomputable def ent88 : TEnt := ⟨88, [(.sl 9 .str)], (.sl 9 .str), fun x => F88 x, .plain⟩
theorem eq88 (x : dens ent88.as) : ent88.F x = evF [ent71] SHF dc88 [(.tmp 2)] ent88.as ent88.rs x := by kernel_rfl
noncomputable def F89 (a0 : List (List UInt8)) : Option (List (List UInt8)) :=
 gdN (List.length ([] : List (List UInt8))) (List.length ([] : List (List UInt8))) <|
 loopK (σ := List (List UInt8) × Int) (fun p1 againp1 =>
 cond (decide (p1.2 < (List.length a0 : Int)))
 (bnd (IntKind.wrap .i64 (p1.2 + (1 : Int))) fun x2 =>
 cond (decide (x2 < (List.length a0 : Int)))
 (gd (0 ≤ p1.2 ∧ p1.2 < (List.length a0 : Int)) <|
 bnd (IntKind.wrap .i64 (p1.2 + (1 : Int))) fun x3 =>
 gd (0 ≤ x3 ∧ x3 < (List.length a0 : Int)) <|
 bindO (F103 (List.getD a0 (Int.toNat p1.2) []) (List.getD a0 (Int.toNat x3) [])) fun y4 =>
 gdN (List.length p1.1) (List.length p1.1) <|
 gd (List.length p1.1 + List.length [y4] ≤ big) <|
 bnd (p1.1 ++ [y4]) fun l5 =>
 bnd (IntKind.wrap .i64 (p1.2 + (2 : Int))) fun x6 =>
 gdN (List.length l5) (List.length l5) <|
 againp1 (l5, x6))
 (gd (0 ≤ p1.2 ∧ p1.2 < (List.length a0 : Int)) <|
 gdN (List.length p1.1) (List.length p1.1) <|
 gd (List.length p1.1 + List.length [(List.getD a0 (Int.toNat p1.2) [])] ≤ big) <|
 bnd (p1.1 ++ [(List.getD a0 (Int.toNat p1.2) [])]) fun l7 =>
 bnd (IntKind.wrap .i64 (p1.2 + (2 : Int))) fun x8 =>
 gdN (List.length l7) (List.length l7) <|
 againp1 (l7, x8)))
 (some p1.1)) (([] : List (List UInt8)), (0 : Int))
def dc89 : DC :=
 (.seq (.reg [Nl 2 9])
 (.seq (.reg [⟨none, (.bs 5 9 none [])⟩, Mt 3 5])
 (.seq (.seq (.reg [Mi 4 0])
 (.block 0 (.loop ⟨[(3, (.row 5 9 .str)), (4, (.lf (.int .i64)))], [], [6, 7, 8, 9, 10, 11, 12, 13, 14, 15, 16, 17, 18, 19, 20, 21, 22, 23, 24, 25, 26, 27, 28, 29, 30, 31, 32, 33, 34, 35, 36].map .s ++ [28, 35].map .f⟩ (.seq (.seq (.reg [Mt 6 4, Mt 7 0, Ln 8 9 7, Ar 9 .lss 6 8])
 (.cond (.t 9)
 .skip
 (.exit 0)))
 (.seq (.block 1 (.seq (.reg [Mt 12 4, Ai 13 .add 12 1, Mt 14 0, Ln 15 9 14, Ar 16 .lss 13 15])
 (.cond (.t 16)
 (.reg [Mt 17 3, Mt 18 0, Mt 19 4, Ea 20 9 18 19, Ld 21 20, Mt 22 0, Mt 23 4, Ai 24 .add 23 1, Ea 25 9 22 24, Ld 26 25, Cb 27 103 21 26, ⟨none, (.bs 28 9 none [(.t 27)])⟩, Ap 29 9 17 28, Mt 3 29])
 (.reg [Mt 30 3, Mt 31 0, Mt 32 4, Ea 33 9 31 32, Ld 34 33, ⟨none, (.bs 35 9 none [(.t 34)])⟩, Ap 36 9 30 35, Mt 3 36]))))
 (.reg [Mt 10 4, Ai 11 .add 10 2, Mt 4 11]))))))
 (.seq (.reg [Mt 37 3, Mt 2 37])
 .ret))))
noncomputable def ent89 : TEnt := ⟨89, [(.sl 9 .str)], (.sl 9 .str), fun x => F89 x, .plain⟩
theorem eq89 (x : dens ent89.as) : ent89.F x = evF [ent103] SHF dc89 [(.tmp 2)] ent89.as ent89.rs x := by kernel_rfl
noncomputable def F78 (a0 : List (List UInt8)) : Option (List UInt8) :=
 cond (decide ((List.length a0 : Int) = (0 : Int)))
 (bindO (F73 ([] : List UInt8)) fun y1 =>
 some y1)
 (bindO (F96 a0) fun y2 =>
 loopK (σ := List (List UInt8)) (fun p3 againp3 =>
 cond (decide ((1 : Int) < (List.length p3 : Int)))
 (bindO (F97 p3) fun y4 =>
 againp3 y4)
 (gd (0 ≤ (0 : Int) ∧ (0 : Int) < (List.length p3 : Int)) <|
 some (List.getD p3 (Int.toNat (0 : Int)) []))) y2)
def dc78 : DC :=
 (.seq (.reg [⟨none, (.mv (some 2) (.v (.str [])))⟩])
 (.seq (.seq (.reg [Mt 4 0, Ln 5 9 4, Ai 6 .eql 5 0])
 (.cond (.t 6)
 (.seq (.reg [⟨none, (.ca (some 7) 73 [(.v (.str []))])⟩, Mt 2 7])
 .ret)
 .skip))
 (.seq (.reg [Mt 8 0, Ca 9 96 8, Mt 3 9])
 (.seq (.block 0 (.loop ⟨[(3, (.lf (.sl 9 .str)))], [], [10, 11, 12, 13, 14].map .s⟩ (.seq (.seq (.reg [Mt 10 3, Ln 11 9 10, Ai 12 .gtr 11 1])
 (.cond (.t 12)
 .skip
 (.exit 0)))
 (.block 1 (.reg [Mt 13 3, Ca 14 97 13, Mt 3 14])))))
 (.seq (.reg [Mt 15 3, ⟨none, (.ea 16 9 (.t 15) (.v (.int .i64 0)))⟩, Ld 17 16, Mt 2 17])
 .ret)))))
noncomputable def ent78 : TEnt := ⟨78, [(.sl 9 .str)], .str, fun x => F78 x, .plain⟩
theorem eq78 (x : dens ent78.as) : ent78.F x = evF [ent73, ent96, ent97] SHF dc78 [(.tmp 2)] ent78.as ent78.rs x := by kernel_rfl
noncomputable def F72 (a0 : List (List UInt8)) : Option (List UInt8) :=
 cond (decide ((List.length a0 : Int) = (0 : Int)))
 (bindO (F71 ([] : List UInt8)) fun y1 =>
 some y1)
 (bindO (F88 a0) fun y2 =>
 loopK (σ := List (List UInt8)) (fun p3 againp3 =>
 cond (decide ((1 : Int) < (List.length p3 : Int)))
 (bindO (F89 p3) fun y4 =>
 againp3 y4)
 (gd (0 ≤ (0 : Int) ∧ (0 : Int) < (List.length p3 : Int)) <|
 some (List.getD p3 (Int.toNat (0 : Int)) []))) y2)
def dc72 : DC :=
 (.seq (.reg [⟨none, (.mv (some 2) (.v (.str [])))⟩])
 (.seq (.seq (.reg [Mt 4 0, Ln 5 9 4, Ai 6 .eql 5 0])
 (.cond (.t 6)
 (.seq (.reg [⟨none, (.ca (some 7) 71 [(.v (.str []))])⟩, Mt 2 7])
 .ret)
 .skip))
 (.seq (.reg [Mt 8 0, Ca 9 88 8, Mt 3 9])
 (.seq (.block 0 (.loop ⟨[(3, (.lf (.sl 9 .str)))], [], [10, 11, 12, 13, 14].map .s⟩ (.seq (.seq (.reg [Mt 10 3, Ln 11 9 10, Ai 12 .gtr 11 1])
 (.cond (.t 12)
 .skip
 (.exit 0)))
 (.block 1 (.reg [Mt 13 3, Ca 14 89 13, Mt 3 14])))))
 (.seq (.reg [Mt 15 3, ⟨none, (.ea 16 9 (.t 15) (.v (.int .i64 0)))⟩, Ld 17 16, Mt 2 17])
 .ret)))))
noncomputable def ent72 : TEnt := ⟨72, [(.sl 9 .str)], .str, fun x => F72 x, .plain⟩
theorem eq72 (x : dens ent72.as) : ent72.F x = evF [ent71, ent88, ent89] SHF dc72 [(.tmp 2)] ent72.as ent72.rs x := by kernel_rfl
noncomputable def F76 (a0 : List UInt8) : Option (Bool) :=
 cond (decide ((List.length a0 : Int) < (1 : Int)))
 (some false)
 (cond (decide ((60 : Int) < (List.length a0 : Int)))
 (some false)
 (bindO (fTrim a0 ([97, 98, 99, 100, 101, 102, 103, 104, 105, 106, 107, 108, 109, 110, 111, 112, 113, 114, 115, 116, 117, 118, 119, 120, 121, 122, 48, 49, 50, 51, 52, 53, 54, 55, 56, 57, 46, 95, 45, 47] : List UInt8)) fun y1 =>
 cond (!decide (y1 = ([] : List UInt8)))
 (some false)
 (bindO (fSplit a0 ([47] : List UInt8)) fun y2 =>
 loopK (σ := Int) (fun p3 againp3 =>
 cond (decide (p3 < (List.length y2 : Int)))
 (gd (0 ≤ p3 ∧ p3 < (List.length y2 : Int)) <|
 cond (decide ((List.getD y2 (Int.toNat p3) []) = ([] : List UInt8)))
 (some false)
 (cond (decide ((List.getD y2 (Int.toNat p3) []) = ([46] : List UInt8)))
 (some false)
 (cond (decide ((List.getD y2 (Int.toNat p3) []) = ([46, 46] : List UInt8)))
 (some false)
 (bnd (IntKind.wrap .i64 (p3 + (1 : Int))) fun x4 =>
 againp3 x4))))
 (some true)) (0 : Int))))
def dc76 : DC :=
 (.seq (.reg [Mb 2 false])
 (.seq (.seq (.reg [Mt 5 0, Lm 6 5, Ai 7 .lss 6 1, Mt 8 7, Gd 8 (Mt 9 0), Gd 8 (Lm 10 9), Gd 8 (Ai 11 .gtr 10 60), Po 12 8 11, Mt 13 12, Gd 13 (Mt 14 0), ⟨(some (13, false)), (.ca (some 15) 94 [(.t 14), (.v (.str [97, 98, 99, 100, 101, 102, 103, 104, 105, 106, 107, 108, 109, 110, 111, 112, 113, 114, 115, 116, 117, 118, 119, 120, 121, 122, 48, 49, 50, 51, 52, 53, 54, 55, 56, 57, 46, 95, 45, 47]))])⟩, ⟨(some (13, false)), (.ar 16 .neq (.t 15) (.v (.str [])))⟩, Po 17 13 16])
 (.cond (.t 17)
 (.seq (.reg [Mb 2 false])
 .ret)
 .skip))
 (.seq (.seq (.reg [Mt 18 0, ⟨none, (.ca (some 19) 95 [(.t 18), (.v (.str [47]))])⟩, Ln 20 9 19, Mi 21 0])
 (.block 0 (.loop ⟨[(21, (.lf (.int .i64)))], [], [2, 4, 22, 23, 24, 25, 26, 27, 28, 29, 30, 31, 32, 33, 34, 35].map .s⟩ (.seq (.reg [Ar 22 .lss 21 20])
 (.seq (.cond (.t 22)
 .skip
 (.exit 0))
 (.seq (.block 1 (.seq (.reg [Ea 23 9 19 21, Ld 24 23, Mt 4 24])
 (.seq (.reg [Mt 25 4, ⟨none, (.ar 26 .eql (.t 25) (.v (.str [])))⟩, Mt 27 26, Gd 27 (Mt 28 4), ⟨(some (27, false)), (.ar 29 .eql (.t 28) (.v (.str [46])))⟩, Po 30 27 29, Mt 31 30, Gd 31 (Mt 32 4), ⟨(some (31, false)), (.ar 33 .eql (.t 32) (.v (.str [46, 46])))⟩, Po 34 31 33])
 (.cond (.t 34)
 (.seq (.reg [Mb 2 false])
 .ret)
 .skip))))
 (.reg [Ai 35 .add 21 1, Mt 21 35])))))))
 (.seq (.reg [Mb 2 true])
 .ret))))
noncomputable def ent76 : TEnt := ⟨76, [.str], .bool, fun x => F76 x, .plain⟩
theorem eq76 (x : dens ent76.as) : ent76.F x = evF [entTrim, entSplit] SHF dc76 [(.tmp 2)] ent76.as ent76.rs x := by kernel_rfl
noncomputable def F38 (a0 : List (File)) : Option (Int) :=
 cond (decide ((List.length a0 : Int) = (0 : Int)))
 (some (8 : Int))
 (cond (decide ((16 : Int) < (List.length a0 : Int)))
 (some (13 : Int))
 (loopK (σ := Int) (fun p1 againp1 =>
 cond (decide (p1 < (List.length a0 : Int)))
 (gd (0 ≤ p1 ∧ p1 < (List.length a0 : Int)) <|
 bindO (F76 ((List.getD a0 (Int.toNat p1) ([], [])).1)) fun y2 =>
 cond (!y2)
 (some (3 : Int))
 (jn (σ := Bool) (fun nextj3 =>
 cond (decide ((0 : Int) < p1))
 (bnd (IntKind.wrap .i64 (p1 - (1 : Int))) fun x4 =>
 gd (0 ≤ x4 ∧ x4 < (List.length a0 : Int)) <|
 nextj3 (Op.bytesLess ((List.getD a0 (Int.toNat p1) ([], [])).1) ((List.getD a0 (Int.toNat x4) ([], [])).1) || decide ((List.getD a0 (Int.toNat p1) ([], [])).1 = (List.getD a0 (Int.toNat x4) ([], [])).1)))
 (nextj3 false)) fun j3 =>
 cond (j3)
 (some (7 : Int))
 (cond (decide ((2000 : Int) < (List.length ((List.getD a0 (Int.toNat p1) ([], [])).2) : Int)))
 (some (4 : Int))
 (bnd (IntKind.wrap .i64 (p1 + (1 : Int))) fun x5 =>
 againp1 x5))))
 (some (0 : Int))) (0 : Int)))
def dc38 : DC :=
 (.seq (.reg [Mi 2 0])
 (.seq (.seq (.reg [Mt 5 0, Ln 6 70 5, Ai 7 .eql 6 0])
 (.cond (.t 7)
 (.seq (.reg [Mi 2 8])
 .ret)
 .skip))
 (.seq (.seq (.reg [Mt 8 0, Ln 9 70 8, Ai 10 .gtr 9 16])
 (.cond (.t 10)
 (.seq (.reg [Mi 2 13])
 .ret)
 .skip))
 (.seq (.seq (.reg [Mt 11 0, Ln 12 70 11, Mi 13 0])
 (.block 0 (.loop ⟨[(13, (.lf (.int .i64)))], [], [2, 3, 4, 14, 15, 16, 17, 18, 19, 20, 21, 22, 23, 24, 25, 26, 27, 28, 29, 30, 31, 32, 33, 34, 35, 36, 37, 38, 39, 40, 41, 42].map .s ++ [4].map .b⟩ (.seq (.reg [Ar 14 .lss 13 12])
 (.seq (.cond (.t 14)
 .skip
 (.exit 0))
 (.seq (.block 1 (.seq (.reg [Mt 15 13, Ea 16 70 11 13, Lt 17 70 16, ⟨none, (.al 4 (.agg 70 [(.str []), (.str [])]))⟩, Mt 3 15, Sr 70 4 17])
 (.block 2 (.seq (.reg [Fa 19 70 0 4, Ld 20 19, Ca 21 76 20, Un 22 21, Mt 18 22])
 (.cond (.t 18)
 (.seq (.reg [Mi 2 3])
 .ret)
 (.jn ⟨[(23, (.lf .bool))], [], [24, 25, 26, 27, 28, 29, 30, 31, 32, 33, 34, 35, 36].map .s⟩ (.reg [Mt 24 3, Ai 25 .gtr 24 0, Mt 26 25, Ge 26 (Fa 27 70 0 4), Ge 26 (Ld 28 27), Ge 26 (Mt 29 0), Ge 26 (Mt 30 3), Ge 26 (Ai 31 .sub 30 1), Ge 26 (Ea 32 70 29 31), Ge 26 (Fa 33 70 0 32), Ge 26 (Ld 34 33), Ge 26 (Ar 35 .leq 28 34), Pa 36 26 35, Mt 23 36])
 (.cond (.t 23)
 (.seq (.reg [Mi 2 7])
 .ret)
 (.seq (.reg [Fa 38 70 1 4, Ld 39 38, Lm 40 39, Ai 41 .gtr 40 2000, Mt 37 41])
 (.cond (.t 37)
 (.seq (.reg [Mi 2 4])
 .ret)
 .skip)))))))))
 (.reg [Ai 42 .add 13 1, Mt 13 42])))))))
 (.seq (.reg [Mi 2 0])
 .ret)))))
noncomputable def ent38 : TEnt := ⟨38, [(.sl 70 shFile)], (.int .i64), fun x => F38 x, .plain⟩
theorem eq38 (x : dens ent38.as) : ent38.F x = evF [ent76] SHF dc38 [(.tmp 2)] ent38.as ent38.rs x := by kernel_rfl
noncomputable def F40 (a0 : List (File)) : Option (List UInt8) :=
 gdN (List.length ([] : List (List UInt8))) (List.length ([] : List (List UInt8))) <|
 loopK (σ := List (List UInt8) × Int) (fun p1 againp1 =>
 cond (decide (p1.2 < (List.length a0 : Int)))
 (gd (0 ≤ p1.2 ∧ p1.2 < (List.length a0 : Int)) <|
 gd (List.length ((List.getD a0 (Int.toNat p1.2) ([], [])).1) + List.length ([0] : List UInt8) ≤ big) <|
 bnd (((List.getD a0 (Int.toNat p1.2) ([], [])).1) ++ ([0] : List UInt8)) fun x2 =>
 gd (List.length x2 + List.length ((List.getD a0 (Int.toNat p1.2) ([], [])).2) ≤ big) <|
 bnd (x2 ++ ((List.getD a0 (Int.toNat p1.2) ([], [])).2)) fun x3 =>
 bindO (F73 x3) fun y4 =>
 gdN (List.length p1.1) (List.length p1.1) <|
 gd (List.length p1.1 + List.length [y4] ≤ big) <|
 bnd (p1.1 ++ [y4]) fun l5 =>
 bnd (IntKind.wrap .i64 (p1.2 + (1 : Int))) fun x6 =>
 gdN (List.length l5) (List.length l5) <|
 againp1 (l5, x6))
 (bindO (F78 p1.1) fun y7 =>
 some y7)) (([] : List (List UInt8)), (0 : Int))
def dc40 : DC :=
 (.seq (.reg [⟨none, (.mv (some 2) (.v (.str [])))⟩])
 (.seq (.reg [Nl 3 9])
 (.seq (.seq (.reg [Mt 6 0, Ln 7 70 6, Mi 8 0])
 (.block 0 (.loop ⟨[(3, (.row 3 9 .str)), (8, (.lf (.int .i64)))], [], [5, 9, 10, 11, 12, 13, 14, 15, 16, 17, 18, 19, 20, 21, 22].map .s ++ [5].map .b ++ [20].map .f⟩ (.seq (.reg [Ar 9 .lss 8 7])
 (.seq (.cond (.t 9)
 .skip
 (.exit 0))
 (.seq (.block 1 (.seq (.reg [Ea 10 70 6 8, Lt 11 70 10, ⟨none, (.al 5 (.agg 70 [(.str []), (.str [])]))⟩, Sr 70 5 11])
 (.reg [Mt 12 3, Fa 13 70 0 5, Ld 14 13, ⟨none, (.ar 15 .add (.t 14) (.v (.str [0])))⟩, Fa 16 70 1 5, Ld 17 16, Ar 18 .add 15 17, Ca 19 73 18, ⟨none, (.bs 20 9 none [(.t 19)])⟩, Ap 21 9 12 20, Mt 3 21])))
 (.reg [Ai 22 .add 8 1, Mt 8 22])))))))
 (.seq (.reg [Mt 23 3, Ca 24 78 23, Mt 2 24])
 .ret))))
noncomputable def ent40 : TEnt := ⟨40, [(.sl 70 shFile)], .str, fun x => F40 x, .plain⟩
theorem eq40 (x : dens ent40.as) : ent40.F x = evF [ent73, ent78] SHF dc40 [(.tmp 2)] ent40.as ent40.rs x := by kernel_rfl
noncomputable def F99 (a0 : List UInt8) : Option (Bool) :=
 loopK (σ := Int) (fun p1 againp1 =>
 cond (decide (p1 < (List.length a0 : Int)))
 (gd (0 ≤ p1 ∧ p1 < (List.length a0 : Int)) <|
 cond (decide ((97 : Int) ≤ (UInt8.toNat (List.getD a0 (Int.toNat p1) 0) : Int)))
 (cond (decide ((UInt8.toNat (List.getD a0 (Int.toNat p1) 0) : Int) ≤ (122 : Int)))
 (bnd (IntKind.wrap .i64 (p1 + (1 : Int))) fun x2 =>
 againp1 x2)
 (cond (decide ((48 : Int) ≤ (UInt8.toNat (List.getD a0 (Int.toNat p1) 0) : Int)))
 (cond (decide ((UInt8.toNat (List.getD a0 (Int.toNat p1) 0) : Int) ≤ (57 : Int)))
 (bnd (IntKind.wrap .i64 (p1 + (1 : Int))) fun x3 =>
 againp1 x3)
 (cond (decide ((UInt8.toNat (List.getD a0 (Int.toNat p1) 0) : Int) = (46 : Int)))
 (bnd (IntKind.wrap .i64 (p1 + (1 : Int))) fun x4 =>
 againp1 x4)
 (cond (decide ((UInt8.toNat (List.getD a0 (Int.toNat p1) 0) : Int) = (95 : Int)))
 (bnd (IntKind.wrap .i64 (p1 + (1 : Int))) fun x5 =>
 againp1 x5)
 (cond (!(decide ((UInt8.toNat (List.getD a0 (Int.toNat p1) 0) : Int) = (45 : Int))))
 (some false)
 (bnd (IntKind.wrap .i64 (p1 + (1 : Int))) fun x6 =>
 againp1 x6)))))
 (cond (decide ((UInt8.toNat (List.getD a0 (Int.toNat p1) 0) : Int) = (46 : Int)))
 (bnd (IntKind.wrap .i64 (p1 + (1 : Int))) fun x7 =>
 againp1 x7)
 (cond (decide ((UInt8.toNat (List.getD a0 (Int.toNat p1) 0) : Int) = (95 : Int)))
 (bnd (IntKind.wrap .i64 (p1 + (1 : Int))) fun x8 =>
 againp1 x8)
 (cond (!(decide ((UInt8.toNat (List.getD a0 (Int.toNat p1) 0) : Int) = (45 : Int))))
 (some false)
 (bnd (IntKind.wrap .i64 (p1 + (1 : Int))) fun x9 =>
 againp1 x9))))))
 (cond (decide ((48 : Int) ≤ (UInt8.toNat (List.getD a0 (Int.toNat p1) 0) : Int)))
 (cond (decide ((UInt8.toNat (List.getD a0 (Int.toNat p1) 0) : Int) ≤ (57 : Int)))
 (bnd (IntKind.wrap .i64 (p1 + (1 : Int))) fun x10 =>
 againp1 x10)
 (cond (decide ((UInt8.toNat (List.getD a0 (Int.toNat p1) 0) : Int) = (46 : Int)))
 (bnd (IntKind.wrap .i64 (p1 + (1 : Int))) fun x11 =>
 againp1 x11)
 (cond (decide ((UInt8.toNat (List.getD a0 (Int.toNat p1) 0) : Int) = (95 : Int)))
 (bnd (IntKind.wrap .i64 (p1 + (1 : Int))) fun x12 =>
 againp1 x12)
 (cond (!(decide ((UInt8.toNat (List.getD a0 (Int.toNat p1) 0) : Int) = (45 : Int))))
 (some false)
 (bnd (IntKind.wrap .i64 (p1 + (1 : Int))) fun x13 =>
 againp1 x13)))))
 (cond (decide ((UInt8.toNat (List.getD a0 (Int.toNat p1) 0) : Int) = (46 : Int)))
 (bnd (IntKind.wrap .i64 (p1 + (1 : Int))) fun x14 =>
 againp1 x14)
 (cond (decide ((UInt8.toNat (List.getD a0 (Int.toNat p1) 0) : Int) = (95 : Int)))
 (bnd (IntKind.wrap .i64 (p1 + (1 : Int))) fun x15 =>
 againp1 x15)
 (cond (!(decide ((UInt8.toNat (List.getD a0 (Int.toNat p1) 0) : Int) = (45 : Int))))
 (some false)
 (bnd (IntKind.wrap .i64 (p1 + (1 : Int))) fun x16 =>
 againp1 x16))))))
 (cond (!decide (a0 = ([] : List UInt8)))
 (cond (!decide (a0 = ([46] : List UInt8)))
 (some (!decide (a0 = ([46, 46] : List UInt8))))
 (some false))
 (some false))) (0 : Int)
def dc99 : DC :=
 (.seq (.reg [Mb 2 false])
 (.seq (.seq (.reg [Mi 3 0])
 (.block 0 (.loop ⟨[(3, (.lf (.int .i64)))], [], [2, 4, 5, 6, 7, 8, 9, 10, 11, 12, 13, 14, 15, 16, 17, 18, 19, 20, 21, 22, 23, 24, 25, 26, 27, 28, 29, 30, 31, 32, 33, 34, 35, 36, 37, 38, 39, 40].map .s⟩ (.seq (.seq (.reg [Mt 5 3, Mt 6 0, Lm 7 6, Ar 8 .lss 5 7])
 (.cond (.t 8)
 .skip
 (.exit 0)))
 (.seq (.block 1 (.seq (.reg [Mt 11 0, Mt 12 3, ⟨none, (.ix 13 (.t 11) (.t 12))⟩, Mt 4 13])
 (.seq (.reg [Mt 14 4, ⟨none, (.ar 15 .geq (.t 14) (.v (.int .u8 97)))⟩, Mt 16 15, Ge 16 (Mt 17 4), ⟨(some (16, true)), (.ar 18 .leq (.t 17) (.v (.int .u8 122)))⟩, Pa 19 16 18, Mt 20 19, Gd 20 (Mt 21 4), ⟨(some (20, false)), (.ar 22 .geq (.t 21) (.v (.int .u8 48)))⟩, Gd 20 (Mt 23 22), Ge 23 (Mt 24 4), ⟨(some (23, true)), (.ar 25 .leq (.t 24) (.v (.int .u8 57)))⟩, Gd 20 (Pa 26 23 25), Po 27 20 26, Mt 28 27, Gd 28 (Mt 29 4), ⟨(some (28, false)), (.ar 30 .eql (.t 29) (.v (.int .u8 46)))⟩, Po 31 28 30, Mt 32 31, Gd 32 (Mt 33 4), ⟨(some (32, false)), (.ar 34 .eql (.t 33) (.v (.int .u8 95)))⟩, Po 35 32 34, Mt 36 35, Gd 36 (Mt 37 4), ⟨(some (36, false)), (.ar 38 .eql (.t 37) (.v (.int .u8 45)))⟩, Po 39 36 38, Un 40 39])
 (.cond (.t 40)
 (.seq (.reg [Mb 2 false])
 .ret)
 .skip))))
 (.reg [Mt 9 3, Ai 10 .add 9 1, Mt 3 10]))))))
 (.seq (.reg [Mt 41 0, ⟨none, (.ar 42 .neq (.t 41) (.v (.str [])))⟩, Mt 43 42, Ge 43 (Mt 44 0), ⟨(some (43, true)), (.ar 45 .neq (.t 44) (.v (.str [46])))⟩, Pa 46 43 45, Mt 47 46, Ge 47 (Mt 48 0), ⟨(some (47, true)), (.ar 49 .neq (.t 48) (.v (.str [46, 46])))⟩, Pa 50 47 49, Mt 2 50])
 .ret)))
noncomputable def ent99 : TEnt := ⟨99, [.str], .bool, fun x => F99 x, .plain⟩
theorem eq99 (x : dens ent99.as) : ent99.F x = evF [] SHF dc99 [(.tmp 2)] ent99.as ent99.rs x := by kernel_rfl
noncomputable def F80 (a0 : List UInt8) : Option (Bool) :=
 cond (decide ((60 : Int) < (List.length a0 : Int)))
 (some false)
 (loopK (σ := Int × Int) (fun p1 againp1 =>
 cond (decide (p1.2 ≤ (List.length a0 : Int)))
 (jn (σ := Bool) (fun nextj2 =>
 cond (decide (p1.2 = (List.length a0 : Int)))
 (nextj2 true)
 (gd (0 ≤ p1.2 ∧ p1.2 < (List.length a0 : Int)) <|
 nextj2 (decide ((UInt8.toNat (List.getD a0 (Int.toNat p1.2) 0) : Int) = (47 : Int))))) fun j2 =>
 cond (j2)
 (gd (0 ≤ p1.1 ∧ p1.1 ≤ p1.2 ∧ p1.2 ≤ (List.length a0 : Int)) <|
 bnd (List.drop (Int.toNat p1.1) (List.take (Int.toNat p1.2) a0)) fun x3 =>
 bindO (F99 x3) fun y4 =>
 cond (!y4)
 (some false)
 (bnd (IntKind.wrap .i64 (p1.2 + (1 : Int))) fun x5 =>
 bnd (IntKind.wrap .i64 (p1.2 + (1 : Int))) fun x6 =>
 againp1 (x5, x6)))
 (bnd (IntKind.wrap .i64 (p1.2 + (1 : Int))) fun x7 =>
 againp1 (p1.1, x7)))
 (some true)) ((0 : Int), (0 : Int)))
def dc80 : DC :=
 (.seq (.reg [Mb 2 false])
 (.seq (.seq (.reg [Mt 5 0, Lm 6 5, Ai 7 .gtr 6 60])
 (.cond (.t 7)
 (.seq (.reg [Mb 2 false])
 .ret)
 .skip))
 (.seq (.reg [Mi 3 0])
 (.seq (.seq (.reg [Mi 4 0])
 (.block 0 (.loop ⟨[(3, (.lf (.int .i64))), (4, (.lf (.int .i64)))], [], [2, 8, 9, 10, 11, 12, 13, 14, 15, 16, 17, 18, 19, 20, 21, 22, 23, 24, 25, 26, 27, 28, 29, 30, 31].map .s⟩ (.seq (.seq (.reg [Mt 8 4, Mt 9 0, Lm 10 9, Ar 11 .leq 8 10])
 (.cond (.t 11)
 .skip
 (.exit 0)))
 (.seq (.block 1 (.jn ⟨[(23, (.lf .bool))], [], [14, 15, 16, 17, 18, 19, 20, 21, 22].map .s⟩ (.reg [Mt 14 4, Mt 15 0, Lm 16 15, Ar 17 .eql 14 16, Mt 18 17, Gd 18 (Mt 19 0), Gd 18 (Mt 20 4), ⟨(some (18, false)), (.ix 21 (.t 19) (.t 20))⟩, ⟨(some (18, false)), (.ar 22 .eql (.t 21) (.v (.int .u8 47)))⟩, Po 23 18 22])
 (.cond (.t 23)
 (.seq (.seq (.reg [Mt 24 0, Mt 25 3, Mt 26 4, ⟨none, (.sc 27 none (.t 24) (some (.t 25)) (some (.t 26)))⟩, Ca 28 99 27, Un 29 28])
 (.cond (.t 29)
 (.seq (.reg [Mb 2 false])
 .ret)
 .skip))
 (.reg [Mt 30 4, Ai 31 .add 30 1, Mt 3 31]))
 .skip)))
 (.reg [Mt 12 4, Ai 13 .add 12 1, Mt 4 13]))))))
 (.seq (.reg [Mb 2 true])
 .ret)))))
noncomputable def ent80 : TEnt := ⟨80, [.str], .bool, fun x => F80 x, .plain⟩
theorem eq80 (x : dens ent80.as) : ent80.F x = evF [ent99] SHF dc80 [(.tmp 2)] ent80.as ent80.rs x := by kernel_rfl
noncomputable def F45 (a0 : List (File)) : Option (Int) :=
 cond (decide ((List.length a0 : Int) = (0 : Int)))
 (some (8 : Int))
 (cond (decide ((16 : Int) < (List.length a0 : Int)))
 (some (13 : Int))
 (loopK (σ := Int) (fun p1 againp1 =>
 cond (decide (p1 < (List.length a0 : Int)))
 (gd (0 ≤ p1 ∧ p1 < (List.length a0 : Int)) <|
 bindO (F80 ((List.getD a0 (Int.toNat p1) ([], [])).1)) fun y2 =>
 cond (!y2)
 (some (3 : Int))
 (jn (σ := Unit) (fun nextj3 =>
 cond (decide ((0 : Int) < p1))
 (gd (0 ≤ p1 ∧ p1 < (List.length a0 : Int)) <|
 bnd (IntKind.wrap .i64 (p1 - (1 : Int))) fun x4 =>
 gd (0 ≤ x4 ∧ x4 < (List.length a0 : Int)) <|
 cond ((Op.bytesLess ((List.getD a0 (Int.toNat p1) ([], [])).1) ((List.getD a0 (Int.toNat x4) ([], [])).1) || decide ((List.getD a0 (Int.toNat p1) ([], [])).1 = (List.getD a0 (Int.toNat x4) ([], [])).1)))
 (some (7 : Int))
 (nextj3 ()))
 (nextj3 ())) fun j3 =>
 gd (0 ≤ p1 ∧ p1 < (List.length a0 : Int)) <|
 cond (decide ((2000 : Int) < (List.length ((List.getD a0 (Int.toNat p1) ([], [])).2) : Int)))
 (some (4 : Int))
 (bnd (IntKind.wrap .i64 (p1 + (1 : Int))) fun x5 =>
 againp1 x5)))
 (some (0 : Int))) (0 : Int)))
def dc45 : DC :=
 (.seq (.reg [Mi 2 0])
 (.seq (.seq (.reg [Mt 4 0, Ln 5 70 4, Ai 6 .eql 5 0])
 (.cond (.t 6)
 (.seq (.reg [Mi 2 8])
 .ret)
 .skip))
 (.seq (.seq (.reg [Mt 7 0, Ln 8 70 7, Ai 9 .gtr 8 16])
 (.cond (.t 9)
 (.seq (.reg [Mi 2 13])
 .ret)
 .skip))
 (.seq (.seq (.reg [Mi 3 0])
 (.block 0 (.loop ⟨[(3, (.lf (.int .i64)))], [], [2, 10, 11, 12, 13, 14, 15, 16, 17, 18, 19, 20, 21, 22, 23, 24, 25, 26, 27, 28, 29, 30, 31, 32, 33, 34, 35, 36, 37, 38, 39, 40, 41, 42, 43, 44, 45].map .s⟩ (.seq (.seq (.reg [Mt 10 3, Mt 11 0, Ln 12 70 11, Ar 13 .lss 10 12])
 (.cond (.t 13)
 .skip
 (.exit 0)))
 (.seq (.block 1 (.seq (.seq (.reg [Mt 16 0, Mt 17 3, Ea 18 70 16 17, Fa 19 70 0 18, Ld 20 19, Ca 21 80 20, Un 22 21])
 (.cond (.t 22)
 (.seq (.reg [Mi 2 3])
 .ret)
 .skip))
 (.jn ⟨[], [], [23, 24, 25, 26, 27, 28, 29, 30, 31, 32, 33, 34, 35, 36, 37, 38].map .s⟩ (.seq (.reg [Mt 23 3, Ai 24 .gtr 23 0, Mt 25 24, Ge 25 (Mt 26 0), Ge 25 (Mt 27 3), Ge 25 (Ea 28 70 26 27), Ge 25 (Fa 29 70 0 28), Ge 25 (Ld 30 29), Ge 25 (Mt 31 0), Ge 25 (Mt 32 3), Ge 25 (Ai 33 .sub 32 1), Ge 25 (Ea 34 70 31 33), Ge 25 (Fa 35 70 0 34), Ge 25 (Ld 36 35), Ge 25 (Ar 37 .leq 30 36), Pa 38 25 37])
 (.cond (.t 38)
 (.seq (.reg [Mi 2 7])
 .ret)
 .skip))
 (.seq (.reg [Mt 39 0, Mt 40 3, Ea 41 70 39 40, Fa 42 70 1 41, Ld 43 42, Lm 44 43, Ai 45 .gtr 44 2000])
 (.cond (.t 45)
 (.seq (.reg [Mi 2 4])
 .ret)
 .skip)))))
 (.reg [Mt 14 3, Ai 15 .add 14 1, Mt 3 15]))))))
 (.seq (.reg [Mi 2 0])
 .ret)))))
noncomputable def ent45 : TEnt := ⟨45, [(.sl 70 shFile)], (.int .i64), fun x => F45 x, .plain⟩
theorem eq45 (x : dens ent45.as) : ent45.F x = evF [ent80] SHF dc45 [(.tmp 2)] ent45.as ent45.rs x := by kernel_rfl
noncomputable def F32 (a0 : List (File)) : Option (List UInt8) :=
 gdN (List.length ([] : List (List UInt8))) (List.length ([] : List (List UInt8))) <|
 loopK (σ := List (List UInt8) × Int) (fun p1 againp1 =>
 cond (decide (p1.2 < (List.length a0 : Int)))
 (gd (0 ≤ p1.2 ∧ p1.2 < (List.length a0 : Int)) <|
 gd (List.length ((List.getD a0 (Int.toNat p1.2) ([], [])).1) + List.length ([0] : List UInt8) ≤ big) <|
 bnd (((List.getD a0 (Int.toNat p1.2) ([], [])).1) ++ ([0] : List UInt8)) fun x2 =>
 gd (0 ≤ p1.2 ∧ p1.2 < (List.length a0 : Int)) <|
 gd (List.length x2 + List.length ((List.getD a0 (Int.toNat p1.2) ([], [])).2) ≤ big) <|
 bnd (x2 ++ ((List.getD a0 (Int.toNat p1.2) ([], [])).2)) fun x3 =>
 bindO (F71 x3) fun y4 =>
 gdN (List.length p1.1) (List.length p1.1) <|
 gd (List.length p1.1 + List.length [y4] ≤ big) <|
 bnd (p1.1 ++ [y4]) fun l5 =>
 bnd (IntKind.wrap .i64 (p1.2 + (1 : Int))) fun x6 =>
 gdN (List.length l5) (List.length l5) <|
 againp1 (l5, x6))
 (bindO (F72 p1.1) fun y7 =>
 some y7)) (([] : List (List UInt8)), (0 : Int))
def dc32 : DC :=
 (.seq (.reg [⟨none, (.mv (some 2) (.v (.str [])))⟩])
 (.seq (.reg [⟨none, (.bs 5 9 none [])⟩, Mt 3 5])
 (.seq (.seq (.reg [Mi 4 0])
 (.block 0 (.loop ⟨[(3, (.row 5 9 .str)), (4, (.lf (.int .i64)))], [], [6, 7, 8, 9, 10, 11, 12, 13, 14, 15, 16, 17, 18, 19, 20, 21, 22, 23, 24, 25, 26, 27].map .s ++ [26].map .f⟩ (.seq (.seq (.reg [Mt 6 4, Mt 7 0, Ln 8 70 7, Ar 9 .lss 6 8])
 (.cond (.t 9)
 .skip
 (.exit 0)))
 (.seq (.block 1 (.reg [Mt 12 3, Mt 13 0, Mt 14 4, Ea 15 70 13 14, Fa 16 70 0 15, Ld 17 16, ⟨none, (.ar 18 .add (.t 17) (.v (.str [0])))⟩, Mt 19 0, Mt 20 4, Ea 21 70 19 20, Fa 22 70 1 21, Ld 23 22, Ar 24 .add 18 23, Ca 25 71 24, ⟨none, (.bs 26 9 none [(.t 25)])⟩, Ap 27 9 12 26, Mt 3 27]))
 (.reg [Mt 10 4, Ai 11 .add 10 1, Mt 4 11]))))))
 (.seq (.reg [Mt 28 3, Ca 29 72 28, Mt 2 29])
 .ret))))
noncomputable def ent32 : TEnt := ⟨32, [(.sl 70 shFile)], .str, fun x => F32 x, .plain⟩
theorem eq32 (x : dens ent32.as) : ent32.F x = evF [ent71, ent72] SHF dc32 [(.tmp 2)] ent32.as ent32.rs x := by kernel_rfl
noncomputable def F36 (a0 : Int) : Option (Bool) :=
 cond (decide ((1 : Int) ≤ a0))
 (some (decide (a0 ≤ (9999 : Int))))
 (some false)
def dc36 : DC :=
 (.seq (.reg [Mb 2 false])
 (.seq (.reg [Mt 3 0, Ai 4 .geq 3 1, Mt 5 4, Ge 5 (Mt 6 0), Ge 5 (Ai 7 .leq 6 9999), Pa 8 5 7, Mt 2 8])
 .ret))
noncomputable def ent36 : TEnt := ⟨36, [(.int .i64)], .bool, fun x => F36 x, .plain⟩
theorem eq36 (x : dens ent36.as) : ent36.F x = evF [] SHF dc36 [(.tmp 2)] ent36.as ent36.rs x := by kernel_rfl
noncomputable def F37 (a0 : Int) : Option (Bool) :=
 cond (decide ((0 : Int) ≤ a0))
 (some (decide (a0 ≤ (109572 : Int))))
 (some false)
def dc37 : DC :=
 (.seq (.reg [Mb 2 false])
 (.seq (.reg [Mt 3 0, Ai 4 .geq 3 0, Mt 5 4, Ge 5 (Mt 6 0), Ge 5 (Ai 7 .leq 6 109572), Pa 8 5 7, Mt 2 8])
 .ret))
noncomputable def ent37 : TEnt := ⟨37, [(.int .i64)], .bool, fun x => F37 x, .plain⟩
theorem eq37 (x : dens ent37.as) : ent37.F x = evF [] SHF dc37 [(.tmp 2)] ent37.as ent37.rs x := by kernel_rfl
noncomputable def F77 (a0 : Int) (a1 : Int) (a2 : Int) : Option (Bool) :=
 cond (decide (a1 ≤ a0))
 (some (decide (a0 ≤ a2)))
 (some false)
def dc77 : DC :=
 (.seq (.reg [Mb 6 false])
 (.seq (.reg [Mt 7 0, Mt 8 1, Ar 9 .geq 7 8, Mt 10 9, Ge 10 (Mt 11 0), Ge 10 (Mt 12 2), Ge 10 (Ar 13 .leq 11 12), Pa 14 10 13, Mt 6 14])
 .ret))
noncomputable def ent77 : TEnt := ⟨77, [(.int .i64), (.int .i64), (.int .i64)], .bool, fun x => F77 x.1 x.2.1 x.2.2, .plain⟩
theorem eq77 (x : dens ent77.as) : ent77.F x = evF [] SHF dc77 [(.tmp 6)] ent77.as ent77.rs x := by kernel_rfl
noncomputable def F39 (a0 : Int × Int × Int × Int) : Option (Int) :=
 jn (σ := Unit) (fun nextj1 =>
 bindO (F77 a0.1 (1 : Int) (4 : Int)) fun y2 =>
 cond (!y2)
 (some (1 : Int))
 (cond (decide (a0.2.2.1 = (0 : Int)))
 (cond (!decide (a0.2.2.2 = (0 : Int)))
 (some (1 : Int))
 (cond (!decide (a0.2.2.1 = (0 : Int)))
 (bindO (F77 a0.2.2.2 (1 : Int) (4 : Int)) fun y3 =>
 cond (!y3)
 (some (1 : Int))
 (nextj1 ()))
 (nextj1 ())))
 (cond (!decide (a0.2.2.1 = (0 : Int)))
 (bindO (F77 a0.2.2.2 (1 : Int) (4 : Int)) fun y4 =>
 cond (!y4)
 (some (1 : Int))
 (nextj1 ()))
 (nextj1 ())))) fun j1 =>
 bindO (F77 a0.2.2.1 (0 : Int) (109572 : Int)) fun y5 =>
 cond (!y5)
 (some (2 : Int))
 (bindO (F77 a0.2.1 (0 : Int) (99 : Int)) fun y6 =>
 cond (!y6)
 (some (2 : Int))
 (cond (decide (a0.1 = (2 : Int)))
 (cond (!((decide ((0 : Int) < a0.2.1)) == true))
 (some (1 : Int))
 (some (0 : Int)))
 (cond (!((decide ((0 : Int) < a0.2.1)) == (decide (a0.2.2.2 = (2 : Int)))))
 (some (1 : Int))
 (some (0 : Int)))))
def dc39 : DC :=
 (.seq (.reg [Bx 1 24 0, Mi 2 0])
 (.jn ⟨[], [], [3, 4, 5, 6, 7, 8, 9, 10, 11, 12, 13, 14, 15, 16, 17, 18, 19, 20, 21, 22, 23, 24, 25, 26, 27].map .s⟩ (.seq (.reg [Fa 3 24 0 1, Ld 4 3, ⟨none, (.ca (some 5) 77 [(.t 4), (.v (.int .i64 1)), (.v (.int .i64 4))])⟩, Un 6 5, Mt 7 6, Gd 7 (Fa 8 24 2 1), Gd 7 (Ld 9 8), Gd 7 (Ai 10 .eql 9 0), Gd 7 (Mt 11 10), Ge 11 (Fa 12 24 3 1), Ge 11 (Ld 13 12), Ge 11 (Ai 14 .neq 13 0), Gd 7 (Pa 15 11 14), Po 16 7 15, Mt 17 16, Gd 17 (Fa 18 24 2 1), Gd 17 (Ld 19 18), Gd 17 (Ai 20 .neq 19 0), Gd 17 (Mt 21 20), Ge 21 (Fa 22 24 3 1), Ge 21 (Ld 23 22), ⟨(some (21, true)), (.ca (some 24) 77 [(.t 23), (.v (.int .i64 1)), (.v (.int .i64 4))])⟩, Ge 21 (Un 25 24), Gd 17 (Pa 26 21 25), Po 27 17 26])
 (.cond (.t 27)
 (.seq (.reg [Mi 2 1])
 .ret)
 .skip))
 (.seq (.seq (.reg [Fa 28 24 2 1, Ld 29 28, ⟨none, (.ca (some 30) 77 [(.t 29), (.v (.int .i64 0)), (.v (.int .i64 109572))])⟩, Un 31 30, Mt 32 31, Gd 32 (Fa 33 24 1 1), Gd 32 (Ld 34 33), ⟨(some (32, false)), (.ca (some 35) 77 [(.t 34), (.v (.int .i64 0)), (.v (.int .i64 99))])⟩, Gd 32 (Un 36 35), Po 37 32 36])
 (.cond (.t 37)
 (.seq (.reg [Mi 2 2])
 .ret)
 .skip))
 (.seq (.seq (.reg [Fa 38 24 1 1, Ld 39 38, Ai 40 .gtr 39 0, Fa 41 24 0 1, Ld 42 41, Ai 43 .eql 42 2, Mt 44 43, Gd 44 (Fa 45 24 3 1), Gd 44 (Ld 46 45), Gd 44 (Ai 47 .eql 46 2), Po 48 44 47, ⟨none, (.eb 49 true (.t 40) (.t 48))⟩])
 (.cond (.t 49)
 (.seq (.reg [Mi 2 1])
 .ret)
 .skip))
 (.seq (.reg [Mi 2 0])
 .ret)))))
noncomputable def ent39 : TEnt := ⟨39, [(.agg 24 (.pair (.int .i64) (.pair (.int .i64) (.pair (.int .i64) (.int .i64)))))], (.int .i64), fun x => F39 x, .plain⟩
theorem eq39 (x : dens ent39.as) : ent39.F x = evF [ent77] SHF dc39 [(.tmp 2)] ent39.as ent39.rs x := by kernel_rfl
noncomputable def F81 (a0 : Int) : Option (Bool) :=
 cond (decide ((1 : Int) ≤ a0))
 (some (decide (a0 ≤ (4 : Int))))
 (some false)
def dc81 : DC :=
 (.seq (.reg [Mb 2 false])
 (.seq (.reg [Mt 3 0, Ai 4 .geq 3 1, Mt 5 4, Ge 5 (Mt 6 0), Ge 5 (Ai 7 .leq 6 4), Pa 8 5 7, Mt 2 8])
 .ret))
noncomputable def ent81 : TEnt := ⟨81, [(.int .i64)], .bool, fun x => F81 x, .plain⟩
theorem eq81 (x : dens ent81.as) : ent81.F x = evF [] SHF dc81 [(.tmp 2)] ent81.as ent81.rs x := by kernel_rfl
noncomputable def F46 (a0 : Int × Int × Int × Int) : Option (Int) :=
 jn (σ := Unit) (fun nextj1 =>
 bindO (F81 a0.1) fun y2 =>
 cond (!y2)
 (some (1 : Int))
 (cond (decide (a0.2.2.1 = (0 : Int)))
 (cond (!decide (a0.2.2.2 = (0 : Int)))
 (some (1 : Int))
 (cond (!decide (a0.2.2.1 = (0 : Int)))
 (bindO (F81 a0.2.2.2) fun y3 =>
 cond (!y3)
 (some (1 : Int))
 (nextj1 ()))
 (nextj1 ())))
 (cond (!decide (a0.2.2.1 = (0 : Int)))
 (bindO (F81 a0.2.2.2) fun y4 =>
 cond (!y4)
 (some (1 : Int))
 (nextj1 ()))
 (nextj1 ())))) fun j1 =>
 cond (decide (a0.2.2.1 < (0 : Int)))
 (some (2 : Int))
 (cond (decide ((109572 : Int) < a0.2.2.1))
 (some (2 : Int))
 (cond (decide (a0.2.1 < (0 : Int)))
 (some (2 : Int))
 (cond (decide ((99 : Int) < a0.2.1))
 (some (2 : Int))
 (cond (decide (a0.1 = (2 : Int)))
 (cond (!((decide ((0 : Int) < a0.2.1)) == true))
 (some (1 : Int))
 (some (0 : Int)))
 (cond (!((decide ((0 : Int) < a0.2.1)) == (decide (a0.2.2.2 = (2 : Int)))))
 (some (1 : Int))
 (some (0 : Int)))))))
def dc46 : DC :=
 (.seq (.reg [Bx 1 24 0, Mi 2 0])
 (.jn ⟨[], [], [3, 4, 5, 6, 7, 8, 9, 10, 11, 12, 13, 14, 15, 16, 17, 18, 19, 20, 21, 22, 23, 24, 25, 26, 27].map .s⟩ (.seq (.reg [Fa 3 24 0 1, Ld 4 3, Ca 5 81 4, Un 6 5, Mt 7 6, Gd 7 (Fa 8 24 2 1), Gd 7 (Ld 9 8), Gd 7 (Ai 10 .eql 9 0), Gd 7 (Mt 11 10), Ge 11 (Fa 12 24 3 1), Ge 11 (Ld 13 12), Ge 11 (Ai 14 .neq 13 0), Gd 7 (Pa 15 11 14), Po 16 7 15, Mt 17 16, Gd 17 (Fa 18 24 2 1), Gd 17 (Ld 19 18), Gd 17 (Ai 20 .neq 19 0), Gd 17 (Mt 21 20), Ge 21 (Fa 22 24 3 1), Ge 21 (Ld 23 22), Ge 21 (Ca 24 81 23), Ge 21 (Un 25 24), Gd 17 (Pa 26 21 25), Po 27 17 26])
 (.cond (.t 27)
 (.seq (.reg [Mi 2 1])
 .ret)
 .skip))
 (.seq (.seq (.reg [Fa 28 24 2 1, Ld 29 28, Ai 30 .lss 29 0, Mt 31 30, Gd 31 (Fa 32 24 2 1), Gd 31 (Ld 33 32), Gd 31 (Ai 34 .gtr 33 109572), Po 35 31 34, Mt 36 35, Gd 36 (Fa 37 24 1 1), Gd 36 (Ld 38 37), Gd 36 (Ai 39 .lss 38 0), Po 40 36 39, Mt 41 40, Gd 41 (Fa 42 24 1 1), Gd 41 (Ld 43 42), Gd 41 (Ai 44 .gtr 43 99), Po 45 41 44])
 (.cond (.t 45)
 (.seq (.reg [Mi 2 2])
 .ret)
 .skip))
 (.seq (.seq (.reg [Fa 46 24 1 1, Ld 47 46, Ai 48 .gtr 47 0, Fa 49 24 0 1, Ld 50 49, Ai 51 .eql 50 2, Mt 52 51, Gd 52 (Fa 53 24 3 1), Gd 52 (Ld 54 53), Gd 52 (Ai 55 .eql 54 2), Po 56 52 55, ⟨none, (.eb 57 true (.t 48) (.t 56))⟩])
 (.cond (.t 57)
 (.seq (.reg [Mi 2 1])
 .ret)
 .skip))
 (.seq (.reg [Mi 2 0])
 .ret)))))
noncomputable def ent46 : TEnt := ⟨46, [(.agg 24 (.pair (.int .i64) (.pair (.int .i64) (.pair (.int .i64) (.int .i64)))))], (.int .i64), fun x => F46 x, .plain⟩
theorem eq46 (x : dens ent46.as) : ent46.F x = evF [ent81] SHF dc46 [(.tmp 2)] ent46.as ent46.rs x := by kernel_rfl
noncomputable def F44 (a0 : Int) : Option (Bool) :=
 cond (decide ((0 : Int) ≤ a0))
 (some (decide (a0 ≤ (109572 : Int))))
 (some false)
def dc44 : DC :=
 (.seq (.reg [Mb 2 false])
 (.seq (.reg [Mt 3 0, Ai 4 .geq 3 0, Mt 5 4, Ge 5 (Mt 6 0), Ge 5 (Ai 7 .leq 6 109572), Pa 8 5 7, Mt 2 8])
 .ret))
noncomputable def ent44 : TEnt := ⟨44, [(.int .i64)], .bool, fun x => F44 x, .plain⟩
theorem eq44 (x : dens ent44.as) : ent44.F x = evF [] SHF dc44 [(.tmp 2)] ent44.as ent44.rs x := by kernel_rfl
noncomputable def F93 (a0 : Int) : Option (List UInt8) :=
 cond (decide (a0 = (0 : Int)))
 (some ([48] : List UInt8))
 (jn (σ := List UInt8) (fun nextj1 =>
 cond (decide (a0 < (0 : Int)))
 (nextj1 ([45] : List UInt8))
 (nextj1 ([] : List UInt8))) fun j1 =>
 loopK (σ := Int × List UInt8) (fun p2 againp2 =>
 cond (!decide (p2.1 = (0 : Int)))
 (gd ((10 : Int) ≠ 0) <|
 bnd (Int.tmod p2.1 (10 : Int)) fun x3 =>
 jn (σ := Int) (fun nextj4 =>
 cond (decide (x3 < (0 : Int)))
 (bnd (IntKind.wrap .i64 (0 - x3)) fun x5 =>
 nextj4 x5)
 (nextj4 x3)) fun j4 =>
 bnd (IntKind.wrap .i64 ((48 : Int) + j4)) fun x6 =>
 gd ((0 : Int) ≤ (IntKind.wrap .u8 x6) ∧ (IntKind.wrap .u8 x6) < (256 : Int)) <|
 gd (List.length [(UInt8.ofNat (Int.toNat (IntKind.wrap .u8 x6)))] + List.length p2.2 ≤ big) <|
 bnd ([(UInt8.ofNat (Int.toNat (IntKind.wrap .u8 x6)))] ++ p2.2) fun x7 =>
 gd ((10 : Int) ≠ 0) <|
 bnd (IntKind.wrap .i64 (Int.tdiv p2.1 (10 : Int))) fun x8 =>
 againp2 (x8, x7))
 (gd (List.length j1 + List.length p2.2 ≤ big) <|
 bnd (j1 ++ p2.2) fun x9 =>
 some x9)) (a0, ([] : List UInt8)))
def dc93 : DC :=
 (.seq (.reg [⟨none, (.mv (some 2) (.v (.str [])))⟩])
 (.seq (.seq (.reg [Mt 6 0, Ai 7 .eql 6 0])
 (.cond (.t 7)
 (.seq (.reg [⟨none, (.mv (some 2) (.v (.str [48])))⟩])
 .ret)
 .skip))
 (.seq (.reg [⟨none, (.mv (some 3) (.v (.str [])))⟩])
 (.seq (.reg [⟨none, (.mv (some 4) (.v (.str [])))⟩])
 (.jn ⟨[(4, (.lf .str))], [], [8, 9].map .s⟩ (.seq (.reg [Mt 8 0, Ai 9 .lss 8 0])
 (.cond (.t 9)
 (.reg [⟨none, (.mv (some 4) (.v (.str [45])))⟩])
 .skip))
 (.seq (.block 0 (.loop ⟨[(0, (.lf (.int .i64))), (3, (.lf .str))], [], [5, 10, 11, 12, 13, 14, 15, 16, 17, 18, 19, 20, 21, 22, 23, 24, 25, 26].map .s ++ [21].map .f⟩ (.seq (.seq (.reg [Mt 10 0, Ai 11 .neq 10 0])
 (.cond (.t 11)
 .skip
 (.exit 0)))
 (.block 1 (.seq (.reg [Mt 12 0, Ai 13 .rem 12 10, Mt 5 13])
 (.jn ⟨[(5, (.lf (.int .i64)))], [], [14, 15, 16, 17].map .s⟩ (.seq (.reg [Mt 14 5, Ai 15 .lss 14 0])
 (.cond (.t 15)
 (.reg [Mt 16 5, ⟨none, (.un 17 .neg (.t 16))⟩, Mt 5 17])
 .skip))
 (.seq (.reg [Mt 18 5, ⟨none, (.ar 19 .add (.v (.int .i64 48)) (.t 18))⟩, ⟨none, (.cvi 20 .u8 (.t 19))⟩, ⟨none, (.bs 21 5 none [(.t 20)])⟩, ⟨none, (.cvb 22 (.t 21))⟩, Mt 23 3, Ar 24 .add 22 23, Mt 3 24])
 (.reg [Mt 25 0, Ai 26 .quo 25 10, Mt 0 26]))))))))
 (.seq (.reg [Mt 27 4, Mt 28 3, Ar 29 .add 27 28, Mt 2 29])
 .ret)))))))
noncomputable def ent93 : TEnt := ⟨93, [(.int .i64)], .str, fun x => F93 x, .plain⟩
theorem eq93 (x : dens ent93.as) : ent93.F x = evF [] SHF dc93 [(.tmp 2)] ent93.as ent93.rs x := by kernel_rfl
noncomputable def F75 (a0 : Fix) : Option (List UInt8) :=
 jn (σ := List UInt8) (fun nextj1 =>
 cond (a0.2.2.2.2.2)
 (nextj1 ([49] : List UInt8))
 (nextj1 ([48] : List UInt8))) fun j1 =>
 bindO (F93 a0.1) fun y2 =>
 gd (List.length y2 + List.length ([32] : List UInt8) ≤ big) <|
 bnd (y2 ++ ([32] : List UInt8)) fun x3 =>
 bindO (F93 a0.2.1) fun y4 =>
 gd (List.length x3 + List.length y4 ≤ big) <|
 bnd (x3 ++ y4) fun x5 =>
 gd (List.length x5 + List.length ([32] : List UInt8) ≤ big) <|
 bnd (x5 ++ ([32] : List UInt8)) fun x6 =>
 bindO (F93 a0.2.2.1) fun y7 =>
 gd (List.length x6 + List.length y7 ≤ big) <|
 bnd (x6 ++ y7) fun x8 =>
 gd (List.length x8 + List.length ([32] : List UInt8) ≤ big) <|
 bnd (x8 ++ ([32] : List UInt8)) fun x9 =>
 gd (List.length x9 + List.length j1 ≤ big) <|
 bnd (x9 ++ j1) fun x10 =>
 gd (List.length x10 + List.length ([32] : List UInt8) ≤ big) <|
 bnd (x10 ++ ([32] : List UInt8)) fun x11 =>
 gd (List.length x11 + List.length a0.2.2.2.1 ≤ big) <|
 bnd (x11 ++ a0.2.2.2.1) fun x12 =>
 some x12
def dc75 : DC :=
 (.seq (.reg [Bx 1 65 0, ⟨none, (.mv (some 2) (.v (.str [])))⟩])
 (.seq (.reg [⟨none, (.mv (some 3) (.v (.str [48])))⟩])
 (.jn ⟨[(3, (.lf .str))], [], [4, 5].map .s⟩ (.seq (.reg [Fa 4 65 5 1, Ld 5 4])
 (.cond (.t 5)
 (.reg [⟨none, (.mv (some 3) (.v (.str [49])))⟩])
 .skip))
 (.seq (.reg [Fa 6 65 0 1, Ld 7 6, Ca 8 93 7, ⟨none, (.ar 9 .add (.t 8) (.v (.str [32])))⟩, Fa 10 65 1 1, Ld 11 10, Ca 12 93 11, Ar 13 .add 9 12, ⟨none, (.ar 14 .add (.t 13) (.v (.str [32])))⟩, Fa 15 65 2 1, Ld 16 15, Ca 17 93 16, Ar 18 .add 14 17, ⟨none, (.ar 19 .add (.t 18) (.v (.str [32])))⟩, Mt 20 3, Ar 21 .add 19 20, ⟨none, (.ar 22 .add (.t 21) (.v (.str [32])))⟩, Fa 23 65 3 1, Ld 24 23, Ar 25 .add 22 24, Mt 2 25])
 .ret))))
noncomputable def ent75 : TEnt := ⟨75, [shFix], .str, fun x => F75 x, .plain⟩
theorem eq75 (x : dens ent75.as) : ent75.F x = evF [ent93] SHF dc75 [(.tmp 2)] ent75.as ent75.rs x := by kernel_rfl
noncomputable def F35 (a0 : List (Fix)) (a1 : Fix) : Option (List UInt8) :=
 jn (σ := List UInt8) (fun nextj1 =>
 cond (decide ((0 : Int) < (List.length a0 : Int)))
 (bnd (IntKind.wrap .i64 ((List.length a0 : Int) - (1 : Int))) fun x2 =>
 gd (0 ≤ x2 ∧ x2 < (List.length a0 : Int)) <|
 nextj1 ((List.getD a0 (Int.toNat x2) (0, (0, (0, ([], ([], false)))))).2.2.2.2.1))
 (nextj1 ([] : List UInt8))) fun j1 =>
 bindO (F75 a1) fun y3 =>
 gd (List.length j1 + List.length y3 ≤ big) <|
 bnd (j1 ++ y3) fun x4 =>
 bindO (F71 x4) fun y5 =>
 some y5
def dc35 : DC :=
 (.seq (.reg [Bx 3 65 1, ⟨none, (.mv (some 4) (.v (.str [])))⟩])
 (.seq (.reg [⟨none, (.mv (some 5) (.v (.str [])))⟩])
 (.jn ⟨[(5, (.lf .str))], [], [6, 7, 8, 9, 10, 11, 12, 13, 14, 15].map .s⟩ (.seq (.reg [Mt 6 0, Ln 7 65 6, Ai 8 .gtr 7 0])
 (.cond (.t 8)
 (.reg [Mt 9 0, Mt 10 0, Ln 11 65 10, Ai 12 .sub 11 1, Ea 13 65 9 12, Fa 14 65 4 13, Ld 15 14, Mt 5 15])
 .skip))
 (.seq (.reg [Mt 16 5, Lt 17 65 3, Ca 18 75 17, Ar 19 .add 16 18, Ca 20 71 19, Mt 4 20])
 .ret))))
noncomputable def ent35 : TEnt := ⟨35, [(.sl 65 shFix), shFix], .str, fun x => F35 x.1 x.2, .plain⟩
theorem eq35 (x : dens ent35.as) : ent35.F x = evF [ent71, ent75] SHF dc35 [(.tmp 4)] ent35.as ent35.rs x := by kernel_rfl
noncomputable def F34 (a0 : Obj) : Option (Bool) :=
 loopK (σ := Int) (fun p1 againp1 =>
 cond (decide (p1 < (List.length a0.2.2.2.1 : Int)))
 (gd (0 ≤ p1 ∧ p1 < (List.length a0.2.2.2.1 : Int)) <|
 gd (0 ≤ p1 ∧ p1 ≤ (List.length a0.2.2.2.1 : Int)) <|
 bnd (List.take (Int.toNat p1) a0.2.2.2.1) fun x2 =>
 gd (0 ≤ p1 ∧ p1 < (List.length a0.2.2.2.1 : Int)) <|
 bindO (F35 x2 (List.getD a0.2.2.2.1 (Int.toNat p1) (0, (0, (0, ([], ([], false))))))) fun y3 =>
 cond (!decide ((List.getD a0.2.2.2.1 (Int.toNat p1) (0, (0, (0, ([], ([], false)))))).2.2.2.2.1 = y3))
 (some false)
 (bnd (IntKind.wrap .i64 (p1 + (1 : Int))) fun x4 =>
 againp1 x4))
 (some true)) (0 : Int)
def dc34 : DC :=
 (.seq (.reg [Bx 1 32 0, Mb 2 false])
 (.seq (.seq (.reg [Mi 3 0])
 (.block 0 (.loop ⟨[(3, (.lf (.int .i64)))], [], [2, 4, 5, 6, 7, 8, 9, 10, 11, 12, 13, 14, 15, 16, 17, 18, 19, 20, 21, 22, 23, 24, 25, 26, 27].map .s⟩ (.seq (.seq (.reg [Mt 4 3, Fa 5 32 3 1, Ld 6 5, Ln 7 65 6, Ar 8 .lss 4 7])
 (.cond (.t 8)
 .skip
 (.exit 0)))
 (.seq (.block 1 (.seq (.reg [Fa 11 32 3 1, Ld 12 11, Mt 13 3, Ea 14 65 12 13, Fa 15 65 4 14, Ld 16 15, Fa 17 32 3 1, Ld 18 17, Mt 19 3, ⟨none, (.sc 20 (some 65) (.t 18) none (some (.t 19)))⟩, Fa 21 32 3 1, Ld 22 21, Mt 23 3, Ea 24 65 22 23, Lt 25 65 24, Cb 26 35 20 25, Ar 27 .neq 16 26])
 (.cond (.t 27)
 (.seq (.reg [Mb 2 false])
 .ret)
 .skip)))
 (.reg [Mt 9 3, Ai 10 .add 9 1, Mt 3 10]))))))
 (.seq (.reg [Mb 2 true])
 .ret)))
noncomputable def ent34 : TEnt := ⟨34, [shObj], .bool, fun x => F34 x, .plain⟩
theorem eq34 (x : dens ent34.as) : ent34.F x = evF [ent35] SHF dc34 [(.tmp 2)] ent34.as ent34.rs x := by kernel_rfl
noncomputable def F47 (a0 : Obj) (a1 : Int) (a2 : Int) (a3 : Int) (a4 : List UInt8) (a5 : Bool) : Option (Obj) :=
 bindO (F35 a0.2.2.2.1 (a1, a2, a3, a4, ([] : List UInt8), a5)) fun y1 =>
 gdN (List.length ([] : List (Fix))) (List.length ([] : List (Fix))) <|
 gd (List.length ([] : List (Fix)) + List.length a0.2.2.2.1 ≤ big) <|
 bnd (([] : List (Fix)) ++ a0.2.2.2.1) fun l2 =>
 gdN (List.length l2) (List.length l2) <|
 gd (List.length l2 + List.length [(a1, a2, a3, a4, y1, a5)] ≤ big) <|
 bnd (l2 ++ [(a1, a2, a3, a4, y1, a5)]) fun l3 =>
 some (a0.1, a0.2.1, a0.2.2.1, l3, a0.2.2.2.2)
def dc47 : DC :=
 (.seq (.reg [Bx 6 32 0, ⟨none, (.al 12 (.agg 32 zO))⟩])
 (.seq (.reg [Mt 14 1, Mt 15 2, Mt 16 3, Mt 17 4, Mt 18 5, ⟨none, (.bd 19 65 [(.int .i64 0), (.int .i64 0), (.int .i64 0), (.str []), (.str []), (.bool false)] [0, 1, 2, 3, 5] [(.t 14), (.t 15), (.t 16), (.t 17), (.t 18)])⟩, ⟨none, (.al 13 (.agg 65 [(.int .i64 0), (.int .i64 0), (.int .i64 0), (.str []), (.str []), (.bool false)]))⟩, Sr 65 13 19])
 (.seq (.reg [Fa 20 32 3 6, Ld 21 20, Lt 22 65 13, Cb 23 35 21 22, Fa 24 65 4 13, Su 24 23])
 (.seq (.reg [⟨none, (.bs 25 65 (some 65) [])⟩, Fa 26 32 3 6, Ld 27 26, Ap 28 65 25 27, Lt 29 65 13, ⟨none, (.bs 30 65 (some 65) [(.t 29)])⟩, Ap 31 65 28 30, Fa 32 32 3 6, Su 32 31])
 (.seq (.reg [Lt 33 32 6, Sr 32 12 33])
 .ret)))))
noncomputable def ent47 : TEnt := ⟨47, [shObj, (.int .i64), (.int .i64), (.int .i64), .str, .bool], shObj, fun x => F47 x.1 x.2.1 x.2.2.1 x.2.2.2.1 x.2.2.2.2.1 x.2.2.2.2.2, .plain⟩
theorem eq47 (x : dens ent47.as) : ent47.F x = evF [ent35] SHF dc47 [(.cell 12 (some 32))] ent47.as ent47.rs x := by kernel_rfl
noncomputable def F70 (a0 : Obj) : Option (Bool) :=
 loopK (σ := Int × Int) (fun p1 againp1 =>
 cond (decide (p1.2 < (List.length a0.2.2.2.1 : Int)))
 (gd (0 ≤ p1.2 ∧ p1.2 < (List.length a0.2.2.2.1 : Int)) <|
 jn (σ := Unit) (fun nextj2 =>
 cond (!decide ((List.getD a0.2.2.2.1 (Int.toNat p1.2) (0, (0, (0, ([], ([], false)))))).2.1 = (1 : Int)))
 (cond (!decide ((List.getD a0.2.2.2.1 (Int.toNat p1.2) (0, (0, (0, ([], ([], false)))))).2.1 = (3 : Int)))
 (bnd (IntKind.wrap .i64 (p1.2 + (1 : Int))) fun x3 =>
 againp1 (p1.1, x3))
 (nextj2 ()))
 (nextj2 ())) fun j2 =>
 cond (decide ((List.length a0.2.2.1 : Int) ≤ p1.1))
 (some false)
 (cond (!((decide ((List.getD a0.2.2.2.1 (Int.toNat p1.2) (0, (0, (0, ([], ([], false)))))).2.1 = (1 : Int))) == (decide (p1.1 = (0 : Int)))))
 (some false)
 (cond (!((List.getD a0.2.2.2.1 (Int.toNat p1.2) (0, (0, (0, ([], ([], false)))))).2.2.2.2.2))
 (some false)
 (cond (!decide ((List.getD a0.2.2.2.1 (Int.toNat p1.2) (0, (0, (0, ([], ([], false)))))).2.2.1 = p1.1))
 (some false)
 (gd (0 ≤ p1.1 ∧ p1.1 < (List.length a0.2.2.1 : Int)) <|
 cond (!decide ((List.getD a0.2.2.2.1 (Int.toNat p1.2) (0, (0, (0, ([], ([], false)))))).2.2.2.1 = (List.getD a0.2.2.1 (Int.toNat p1.1) (0, (0, (0, ([], []))))).2.2.2.1))
 (some false)
 (gd (0 ≤ p1.1 ∧ p1.1 < (List.length a0.2.2.1 : Int)) <|
 cond (!decide ((List.getD a0.2.2.2.1 (Int.toNat p1.2) (0, (0, (0, ([], ([], false)))))).1 = (List.getD a0.2.2.1 (Int.toNat p1.1) (0, (0, (0, ([], []))))).2.2.1))
 (some false)
 (bnd (IntKind.wrap .i64 (p1.1 + (1 : Int))) fun x4 =>
 bnd (IntKind.wrap .i64 (p1.2 + (1 : Int))) fun x5 =>
 againp1 (x4, x5))))))))
 (some (decide (p1.1 = (List.length a0.2.2.1 : Int))))) ((0 : Int), (0 : Int))
def dc70 : DC :=
 (.seq (.reg [Bx 1 32 0, Mb 2 false])
 (.seq (.reg [Mi 3 0])
 (.seq (.seq (.reg [Mi 4 0])
 (.block 0 (.loop ⟨[(3, (.lf (.int .i64))), (4, (.lf (.int .i64)))], [], [2, 5, 6, 7, 8, 9, 10, 11, 12, 13, 14, 15, 16, 17, 18, 19, 20, 21, 22, 23, 24, 25, 26, 27, 28, 29, 30, 31, 32, 33, 34, 35, 36, 37, 38, 39, 40, 41, 42, 43, 44, 45, 46, 47, 48, 49, 50, 51, 52, 53, 54, 55, 56, 57, 58, 59, 60, 61, 62, 63, 64, 65, 66, 67, 68, 69, 70, 71, 72, 73].map .s ++ [5].map .b⟩ (.seq (.seq (.reg [Mt 6 4, Fa 7 32 3 1, Ld 8 7, Ln 9 65 8, Ar 10 .lss 6 9])
 (.cond (.t 10)
 .skip
 (.exit 0)))
 (.seq (.block 1 (.seq (.reg [Fa 13 32 3 1, Ld 14 13, Mt 15 4, Ea 16 65 14 15, Lt 17 65 16, ⟨none, (.al 5 (.agg 65 [(.int .i64 0), (.int .i64 0), (.int .i64 0), (.str []), (.str []), (.bool false)]))⟩, Sr 65 5 17])
 (.jn ⟨[], [], [18, 19, 20, 21, 22, 23, 24, 25].map .s⟩ (.seq (.reg [Fa 18 65 1 5, Ld 19 18, Ai 20 .neq 19 1, Mt 21 20, Ge 21 (Fa 22 65 1 5), Ge 21 (Ld 23 22), Ge 21 (Ai 24 .neq 23 3), Pa 25 21 24])
 (.cond (.t 25)
 (.exit 1)
 .skip))
 (.seq (.seq (.reg [Mt 26 3, Fa 27 32 2 1, Ld 28 27, Ln 29 63 28, Ar 30 .geq 26 29, Mt 31 30, Gd 31 (Fa 32 65 1 5), Gd 31 (Ld 33 32), Gd 31 (Ai 34 .eql 33 1), Gd 31 (Mt 35 3), Gd 31 (Ai 36 .eql 35 0), ⟨(some (31, false)), (.eb 37 true (.t 34) (.t 36))⟩, Po 38 31 37, Mt 39 38, Gd 39 (Fa 40 65 5 5), Gd 39 (Ld 41 40), Gd 39 (Un 42 41), Po 43 39 42, Mt 44 43, Gd 44 (Fa 45 65 2 5), Gd 44 (Ld 46 45), Gd 44 (Mt 47 3), Gd 44 (Ar 48 .neq 46 47), Po 49 44 48, Mt 50 49, Gd 50 (Fa 51 65 3 5), Gd 50 (Ld 52 51), Gd 50 (Fa 53 32 2 1), Gd 50 (Ld 54 53), Gd 50 (Mt 55 3), Gd 50 (Ea 56 63 54 55), Gd 50 (Fa 57 63 3 56), Gd 50 (Ld 58 57), Gd 50 (Ar 59 .neq 52 58), Po 60 50 59, Mt 61 60, Gd 61 (Fa 62 65 0 5), Gd 61 (Ld 63 62), Gd 61 (Fa 64 32 2 1), Gd 61 (Ld 65 64), Gd 61 (Mt 66 3), Gd 61 (Ea 67 63 65 66), Gd 61 (Fa 68 63 2 67), Gd 61 (Ld 69 68), Gd 61 (Ar 70 .neq 63 69), Po 71 61 70])
 (.cond (.t 71)
 (.seq (.reg [Mb 2 false])
 .ret)
 .skip))
 (.reg [Mt 72 3, Ai 73 .add 72 1, Mt 3 73])))))
 (.reg [Mt 11 4, Ai 12 .add 11 1, Mt 4 12]))))))
 (.seq (.reg [Mt 74 3, Fa 75 32 2 1, Ld 76 75, Ln 77 63 76, Ar 78 .eql 74 77, Mt 2 78])
 .ret))))
noncomputable def ent70 : TEnt := ⟨70, [shObj], .bool, fun x => F70 x, .plain⟩
theorem eq70 (x : dens ent70.as) : ent70.F x = evF [] SHF dc70 [(.tmp 2)] ent70.as ent70.rs x := by kernel_rfl
noncomputable def F29 (a0 : Obj) : Option (Int) :=
 cond (decide (a0.1 < (1 : Int)))
 (some (2 : Int))
 (cond (decide ((9999 : Int) < a0.1))
 (some (2 : Int))
 (cond (decide (a0.2.1 < (1 : Int)))
 (some (2 : Int))
 (cond (decide ((9999 : Int) < a0.2.1))
 (some (2 : Int))
 (cond (decide ((List.length a0.2.2.1 : Int) = (0 : Int)))
 (some (8 : Int))
 (cond (decide ((8 : Int) < (List.length a0.2.2.1 : Int)))
 (some (13 : Int))
 (cond (decide ((64 : Int) < (List.length a0.2.2.2.1 : Int)))
 (some (13 : Int))
 (loopK (σ := Int) (fun p1 againp1 =>
 cond (decide (p1 < (List.length a0.2.2.1 : Int)))
 (gd (0 ≤ p1 ∧ p1 < (List.length a0.2.2.1 : Int)) <|
 cond (decide ((List.getD a0.2.2.1 (Int.toNat p1) (0, (0, (0, ([], []))))).1 < (1 : Int)))
 (some (2 : Int))
 (cond (decide ((9999 : Int) < (List.getD a0.2.2.1 (Int.toNat p1) (0, (0, (0, ([], []))))).1))
 (some (2 : Int))
 (bindO (F44 ((List.getD a0.2.2.1 (Int.toNat p1) (0, (0, (0, ([], []))))).2.2.1)) fun y2 =>
 cond (!y2)
 (some (2 : Int))
 (jn (σ := Int × Bool × Bool × Bool) (fun nextj3 =>
 cond (decide (p1 = (0 : Int)))
 (cond (!decide ((List.getD a0.2.2.1 (Int.toNat p1) (0, (0, (0, ([], []))))).2.1 = (-1 : Int)))
 (some (1 : Int))
 (cond (decide ((0 : Int) < p1))
 (cond (decide ((List.getD a0.2.2.1 (Int.toNat p1) (0, (0, (0, ([], []))))).2.1 < (0 : Int)))
 (some (1 : Int))
 (cond (decide (p1 ≤ (List.getD a0.2.2.1 (Int.toNat p1) (0, (0, (0, ([], []))))).2.1))
 (some (1 : Int))
 (nextj3 (p1, decide ((0 : Int) < p1), true, decide (p1 ≤ (List.getD a0.2.2.1 (Int.toNat p1) (0, (0, (0, ([], []))))).2.1)))))
 (nextj3 (p1, decide ((0 : Int) < p1), false, false))))
 (cond (decide ((0 : Int) < p1))
 (cond (decide ((List.getD a0.2.2.1 (Int.toNat p1) (0, (0, (0, ([], []))))).2.1 < (0 : Int)))
 (some (1 : Int))
 (cond (decide (p1 ≤ (List.getD a0.2.2.1 (Int.toNat p1) (0, (0, (0, ([], []))))).2.1))
 (some (1 : Int))
 (nextj3 (p1, decide ((0 : Int) < p1), true, decide (p1 ≤ (List.getD a0.2.2.1 (Int.toNat p1) (0, (0, (0, ([], []))))).2.1)))))
 (nextj3 (p1, decide ((0 : Int) < p1), false, false)))) fun j3 =>
 bindO (F69 ((List.getD a0.2.2.1 (Int.toNat p1) (0, (0, (0, ([], []))))).2.2.2.1)) fun y4 =>
 cond (!y4)
 (some (3 : Int))
 (bindO (F45 ((List.getD a0.2.2.1 (Int.toNat p1) (0, (0, (0, ([], []))))).2.2.2.2)) fun y5 =>
 cond (!decide (y5 = (0 : Int)))
 (some y5)
 (bnd (IntKind.wrap .i64 (p1 + (1 : Int))) fun x6 =>
 againp1 x6))))))
 (bindO (F46 a0.2.2.2.2) fun y7 =>
 cond (!decide (y7 = (0 : Int)))
 (some y7)
 (loopK (σ := Int) (fun p8 againp8 =>
 cond (decide (p8 < (List.length a0.2.2.2.1 : Int)))
 (gd (0 ≤ p8 ∧ p8 < (List.length a0.2.2.2.1 : Int)) <|
 cond (decide ((List.getD a0.2.2.2.1 (Int.toNat p8) (0, (0, (0, ([], ([], false)))))).2.1 < (1 : Int)))
 (some (1 : Int))
 (cond (decide ((4 : Int) < (List.getD a0.2.2.2.1 (Int.toNat p8) (0, (0, (0, ([], ([], false)))))).2.1))
 (some (1 : Int))
 (cond (decide ((List.getD a0.2.2.2.1 (Int.toNat p8) (0, (0, (0, ([], ([], false)))))).2.2.1 < (0 : Int)))
 (some (1 : Int))
 (cond (decide ((List.length a0.2.2.1 : Int) ≤ (List.getD a0.2.2.2.1 (Int.toNat p8) (0, (0, (0, ([], ([], false)))))).2.2.1))
 (some (1 : Int))
 (bindO (F44 ((List.getD a0.2.2.2.1 (Int.toNat p8) (0, (0, (0, ([], ([], false)))))).1)) fun y9 =>
 cond (!y9)
 (some (1 : Int))
 (cond (decide ((0 : Int) < p8))
 (bnd (IntKind.wrap .i64 (p8 - (1 : Int))) fun x10 =>
 gd (0 ≤ x10 ∧ x10 < (List.length a0.2.2.2.1 : Int)) <|
 cond (decide ((List.getD a0.2.2.2.1 (Int.toNat p8) (0, (0, (0, ([], ([], false)))))).1 < (List.getD a0.2.2.2.1 (Int.toNat x10) (0, (0, (0, ([], ([], false)))))).1))
 (some (1 : Int))
 (bindO (F69 ((List.getD a0.2.2.2.1 (Int.toNat p8) (0, (0, (0, ([], ([], false)))))).2.2.2.1)) fun y11 =>
 cond (!y11)
 (some (1 : Int))
 (bnd (IntKind.wrap .i64 (p8 + (1 : Int))) fun x12 =>
 againp8 x12)))
 (bindO (F69 ((List.getD a0.2.2.2.1 (Int.toNat p8) (0, (0, (0, ([], ([], false)))))).2.2.2.1)) fun y13 =>
 cond (!y13)
 (some (1 : Int))
 (bnd (IntKind.wrap .i64 (p8 + (1 : Int))) fun x14 =>
 againp8 x14))))))))
 (bindO (F34 a0) fun y15 =>
 cond (!y15)
 (some (19 : Int))
 (bindO (F70 a0) fun y16 =>
 cond (!y16)
 (some (19 : Int))
 (some (0 : Int))))) (0 : Int)))) (0 : Int))))))))
def dc29 : DC :=
 (.seq (.reg [Bx 1 32 0, Mi 2 0])
 (.seq (.seq (.reg [Fa 9 32 0 1, Ld 10 9, Ai 11 .lss 10 1, Mt 12 11, Gd 12 (Fa 13 32 0 1), Gd 12 (Ld 14 13), Gd 12 (Ai 15 .gtr 14 9999), Po 16 12 15, Mt 17 16, Gd 17 (Fa 18 32 1 1), Gd 17 (Ld 19 18), Gd 17 (Ai 20 .lss 19 1), Po 21 17 20, Mt 22 21, Gd 22 (Fa 23 32 1 1), Gd 22 (Ld 24 23), Gd 22 (Ai 25 .gtr 24 9999), Po 26 22 25])
 (.cond (.t 26)
 (.seq (.reg [Mi 2 2])
 .ret)
 .skip))
 (.seq (.seq (.reg [Fa 27 32 2 1, Ld 28 27, Ln 29 63 28, Ai 30 .eql 29 0])
 (.cond (.t 30)
 (.seq (.reg [Mi 2 8])
 .ret)
 .skip))
 (.seq (.seq (.reg [Fa 31 32 2 1, Ld 32 31, Ln 33 63 32, Ai 34 .gtr 33 8, Mt 35 34, Gd 35 (Fa 36 32 3 1), Gd 35 (Ld 37 36), Gd 35 (Ln 38 65 37), Gd 35 (Ai 39 .gtr 38 64), Po 40 35 39])
 (.cond (.t 40)
 (.seq (.reg [Mi 2 13])
 .ret)
 .skip))
 (.seq (.seq (.reg [Mi 3 0])
 (.block 0 (.loop ⟨[(3, (.lf (.int .i64)))], [], [2, 4, 5, 41, 42, 43, 44, 45, 46, 47, 48, 49, 50, 51, 52, 53, 54, 55, 56, 57, 58, 59, 60, 61, 62, 63, 64, 65, 66, 67, 68, 69, 70, 71, 72, 73, 74, 75, 76, 77, 78, 79, 80, 81, 82, 83, 84, 85, 86, 87, 88, 89, 90, 91, 92, 93, 94, 95, 96, 97, 98].map .s ++ [4].map .b⟩ (.seq (.seq (.reg [Mt 41 3, Fa 42 32 2 1, Ld 43 42, Ln 44 63 43, Ar 45 .lss 41 44])
 (.cond (.t 45)
 .skip
 (.exit 0)))
 (.seq (.block 1 (.seq (.reg [Fa 48 32 2 1, Ld 49 48, Mt 50 3, Ea 51 63 49 50, Lt 52 63 51, ⟨none, (.al 4 (.agg 63 [(.int .i64 0), (.int .i64 0), (.int .i64 0), (.str []), (.sl none 70 [])]))⟩, Sr 63 4 52])
 (.seq (.seq (.reg [Fa 53 63 0 4, Ld 54 53, Ai 55 .lss 54 1, Mt 56 55, Gd 56 (Fa 57 63 0 4), Gd 56 (Ld 58 57), Gd 56 (Ai 59 .gtr 58 9999), Po 60 56 59, Mt 61 60, Gd 61 (Fa 62 63 2 4), Gd 61 (Ld 63 62), Gd 61 (Ca 64 44 63), Gd 61 (Un 65 64), Po 66 61 65])
 (.cond (.t 66)
 (.seq (.reg [Mi 2 2])
 .ret)
 .skip))
 (.jn ⟨[(75, (.lf (.int .i64))), (76, (.lf .bool)), (77, (.lf .bool)), (87, (.lf .bool))], [], [67, 68, 69, 70, 71, 72, 73, 74, 78, 79, 80, 81, 82, 83, 84, 85, 86, 88].map .s⟩ (.seq (.reg [Mt 67 3, Ai 68 .eql 67 0, Mt 69 68, Ge 69 (Fa 70 63 1 4), Ge 69 (Ld 71 70), Ge 69 (Ai 72 .neq 71 (-1)), Pa 73 69 72, Mt 74 73, Gd 74 (Mt 75 3), Gd 74 (Ai 76 .gtr 75 0), Gd 74 (Mt 77 76), Ge 77 (Fa 78 63 1 4), Ge 77 (Ld 79 78), Ge 77 (Ai 80 .lss 79 0), Ge 77 (Mt 81 80), Gd 81 (Fa 82 63 1 4), Gd 81 (Ld 83 82), Gd 81 (Mt 84 3), Gd 81 (Ar 85 .geq 83 84), Ge 77 (Po 86 81 85), Gd 74 (Pa 87 77 86), Po 88 74 87])
 (.cond (.t 88)
 (.seq (.reg [Mi 2 1])
 .ret)
 .skip))
 (.seq (.seq (.reg [Fa 89 63 3 4, Ld 90 89, Ca 91 69 90, Un 92 91])
 (.cond (.t 92)
 (.seq (.reg [Mi 2 3])
 .ret)
 .skip))
 (.seq (.reg [Fa 93 63 4 4, Ld 94 93, Ca 95 45 94, Mt 5 95])
 (.seq (.reg [Mt 96 5, Ai 97 .neq 96 0])
 (.cond (.t 97)
 (.seq (.reg [Mt 98 5, Mt 2 98])
 .ret)
 .skip))))))))
 (.reg [Mt 46 3, Ai 47 .add 46 1, Mt 3 47]))))))
 (.seq (.reg [Fa 99 32 4 1, Lt 100 24 99, Ca 101 46 100, Mt 6 101])
 (.seq (.seq (.reg [Mt 102 6, Ai 103 .neq 102 0])
 (.cond (.t 103)
 (.seq (.reg [Mt 104 6, Mt 2 104])
 .ret)
 .skip))
 (.seq (.seq (.reg [Mi 7 0])
 (.block 2 (.loop ⟨[(7, (.lf (.int .i64)))], [], [2, 8, 105, 106, 107, 108, 109, 110, 111, 112, 113, 114, 115, 116, 117, 118, 119, 120, 121, 122, 123, 124, 125, 126, 127, 128, 129, 130, 131, 132, 133, 134, 135, 136, 137, 138, 139, 140, 141, 142, 143, 144, 145, 146, 147, 148, 149, 150, 151, 152, 153, 154, 155, 156, 157, 158, 159, 160, 161, 162, 163, 164, 165].map .s ++ [8].map .b⟩ (.seq (.seq (.reg [Mt 105 7, Fa 106 32 3 1, Ld 107 106, Ln 108 65 107, Ar 109 .lss 105 108])
 (.cond (.t 109)
 .skip
 (.exit 2)))
 (.seq (.block 3 (.seq (.reg [Fa 112 32 3 1, Ld 113 112, Mt 114 7, Ea 115 65 113 114, Lt 116 65 115, ⟨none, (.al 8 (.agg 65 [(.int .i64 0), (.int .i64 0), (.int .i64 0), (.str []), (.str []), (.bool false)]))⟩, Sr 65 8 116])
 (.seq (.reg [Fa 117 65 1 8, Ld 118 117, Ai 119 .lss 118 1, Mt 120 119, Gd 120 (Fa 121 65 1 8), Gd 120 (Ld 122 121), Gd 120 (Ai 123 .gtr 122 4), Po 124 120 123, Mt 125 124, Gd 125 (Fa 126 65 2 8), Gd 125 (Ld 127 126), Gd 125 (Ai 128 .lss 127 0), Po 129 125 128, Mt 130 129, Gd 130 (Fa 131 65 2 8), Gd 130 (Ld 132 131), Gd 130 (Fa 133 32 2 1), Gd 130 (Ld 134 133), Gd 130 (Ln 135 63 134), Gd 130 (Ar 136 .geq 132 135), Po 137 130 136, Mt 138 137, Gd 138 (Fa 139 65 0 8), Gd 138 (Ld 140 139), Gd 138 (Ca 141 44 140), Gd 138 (Un 142 141), Po 143 138 142, Mt 144 143, Gd 144 (Mt 145 7), Gd 144 (Ai 146 .gtr 145 0), Gd 144 (Mt 147 146), Ge 147 (Fa 148 65 0 8), Ge 147 (Ld 149 148), Ge 147 (Fa 150 32 3 1), Ge 147 (Ld 151 150), Ge 147 (Mt 152 7), Ge 147 (Ai 153 .sub 152 1), Ge 147 (Ea 154 65 151 153), Ge 147 (Fa 155 65 0 154), Ge 147 (Ld 156 155), Ge 147 (Ar 157 .lss 149 156), Gd 144 (Pa 158 147 157), Po 159 144 158, Mt 160 159, Gd 160 (Fa 161 65 3 8), Gd 160 (Ld 162 161), Gd 160 (Ca 163 69 162), Gd 160 (Un 164 163), Po 165 160 164])
 (.cond (.t 165)
 (.seq (.reg [Mi 2 1])
 .ret)
 .skip))))
 (.reg [Mt 110 7, Ai 111 .add 110 1, Mt 7 111]))))))
 (.seq (.seq (.reg [Lt 166 32 1, Ca 167 34 166, Un 168 167, Mt 169 168, Gd 169 (Lt 170 32 1), Gd 169 (Ca 171 70 170), Gd 169 (Un 172 171), Po 173 169 172])
 (.cond (.t 173)
 (.seq (.reg [Mi 2 19])
 .ret)
 .skip))
 (.seq (.reg [Mi 2 0])
 .ret))))))))))
noncomputable def ent29 : TEnt := ⟨29, [shObj], (.int .i64), fun x => F29 x, .plain⟩
theorem eq29 (x : dens ent29.as) : ent29.F x = evF [ent34, ent44, ent45, ent46, ent69, ent70] SHF dc29 [(.tmp 2)] ent29.as ent29.rs x := by kernel_rfl
noncomputable def F64 (a0 : Obj) : Option (Int) :=
 bnd (IntKind.wrap .i64 ((List.length a0.2.2.1 : Int) - (1 : Int))) fun x1 =>
 some x1
def dc64 : DC :=
 (.seq (.reg [Bx 1 32 0, Mi 2 0])
 (.seq (.reg [Fa 3 32 2 1, Ld 4 3, Ln 5 63 4, Ai 6 .sub 5 1, Mt 2 6])
 .ret))
noncomputable def ent64 : TEnt := ⟨64, [shObj], (.int .i64), fun x => F64 x, .plain⟩
theorem eq64 (x : dens ent64.as) : ent64.F x = evF [] SHF dc64 [(.tmp 2)] ent64.as ent64.rs x := by kernel_rfl
noncomputable def F54 (a0 : Edn) : Option (Bool) :=
 bindO (F32 a0.2.2.2.2) fun y1 =>
 some (decide (y1 = a0.2.2.2.1))
def dc54 : DC :=
 (.seq (.reg [Bx 1 63 0, Mb 2 false])
 (.seq (.reg [Fa 3 63 4 1, Ld 4 3, Ca 5 32 4, Fa 6 63 3 1, Ld 7 6, Ar 8 .eql 5 7, Mt 2 8])
 .ret))
noncomputable def ent54 : TEnt := ⟨54, [shEdn], .bool, fun x => F54 x, .plain⟩
theorem eq54 (x : dens ent54.as) : ent54.F x = evF [ent32] SHF dc54 [(.tmp 2)] ent54.as ent54.rs x := by kernel_rfl
noncomputable def F53 (a0 : Obj) (a1 : Int) : Option (Int) :=
 bindO (F44 a1) fun y1 =>
 cond (!y1)
 (some (2 : Int))
 (bnd (IntKind.wrap .i64 ((List.length a0.2.2.2.1 : Int) - (1 : Int))) fun x2 =>
 gd (0 ≤ x2 ∧ x2 < (List.length a0.2.2.2.1 : Int)) <|
 cond (decide (a1 < (List.getD a0.2.2.2.1 (Int.toNat x2) (0, (0, (0, ([], ([], false)))))).1))
 (some (12 : Int))
 (some (0 : Int)))
def dc53 : DC :=
 (.seq (.reg [Bx 2 32 0, Mi 4 0])
 (.seq (.seq (.reg [Mt 5 1, Ca 6 44 5, Un 7 6])
 (.cond (.t 7)
 (.seq (.reg [Mi 4 2])
 .ret)
 .skip))
 (.seq (.seq (.reg [Mt 8 1, Fa 9 32 3 2, Ld 10 9, Fa 11 32 3 2, Ld 12 11, Ln 13 65 12, Ai 14 .sub 13 1, Ea 15 65 10 14, Fa 16 65 0 15, Ld 17 16, Ar 18 .lss 8 17])
 (.cond (.t 18)
 (.seq (.reg [Mi 4 12])
 .ret)
 .skip))
 (.seq (.reg [Mi 4 0])
 .ret))))
noncomputable def ent53 : TEnt := ⟨53, [shObj, (.int .i64)], (.int .i64), fun x => F53 x.1 x.2, .plain⟩
theorem eq53 (x : dens ent53.as) : ent53.F x = evF [ent44] SHF dc53 [(.tmp 4)] ent53.as ent53.rs x := by kernel_rfl
noncomputable def F65 (a0 : List (Int)) (a1 : Int) : Option (Bool) :=
 loopK (σ := Int) (fun p1 againp1 =>
 cond (decide (p1 < (List.length a0 : Int)))
 (gd (0 ≤ p1 ∧ p1 < (List.length a0 : Int)) <|
 cond (decide ((List.getD a0 (Int.toNat p1) 0) = a1))
 (some true)
 (bnd (IntKind.wrap .i64 (p1 + (1 : Int))) fun x2 =>
 againp1 x2))
 (some false)) (0 : Int)
def dc65 : DC :=
 (.seq (.reg [Mb 4 false])
 (.seq (.seq (.reg [Mi 5 0])
 (.block 0 (.loop ⟨[(5, (.lf (.int .i64)))], [], [4, 6, 7, 8, 9, 10, 11, 12, 13, 14, 15, 16, 17].map .s⟩ (.seq (.seq (.reg [Mt 6 5, Mt 7 0, Ln 8 3 7, Ar 9 .lss 6 8])
 (.cond (.t 9)
 .skip
 (.exit 0)))
 (.seq (.block 1 (.seq (.reg [Mt 12 0, Mt 13 5, Ea 14 3 12 13, Ld 15 14, Mt 16 1, Ar 17 .eql 15 16])
 (.cond (.t 17)
 (.seq (.reg [Mb 4 true])
 .ret)
 .skip)))
 (.reg [Mt 10 5, Ai 11 .add 10 1, Mt 5 11]))))))
 (.seq (.reg [Mb 4 false])
 .ret)))
noncomputable def ent65 : TEnt := ⟨65, [(.sl 3 (.int .i64)), (.int .i64)], .bool, fun x => F65 x.1 x.2, .plain⟩
theorem eq65 (x : dens ent65.as) : ent65.F x = evF [] SHF dc65 [(.tmp 4)] ent65.as ent65.rs x := by kernel_rfl
noncomputable def F87 (a0 : List UInt8) (a1 : List UInt8) : Option (Bool) :=
 cond (decide ((List.length a1 : Int) ≤ (List.length a0 : Int)))
 (gd (0 ≤ (List.length a1 : Int) ∧ (List.length a1 : Int) ≤ (List.length a0 : Int)) <|
 bnd (List.take (Int.toNat (List.length a1 : Int)) a0) fun x1 =>
 some (decide (x1 = a1)))
 (some false)
def dc87 : DC :=
 (.seq (.reg [Mb 4 false])
 (.seq (.reg [Mt 5 0, Lm 6 5, Mt 7 1, Lm 8 7, Ar 9 .geq 6 8, Mt 10 9, Ge 10 (Mt 11 0), Ge 10 (Mt 12 1), Ge 10 (Lm 13 12), ⟨(some (10, true)), (.sc 14 none (.t 11) none (some (.t 13)))⟩, Ge 10 (Mt 15 1), Ge 10 (Ar 16 .eql 14 15), Pa 17 10 16, Mt 4 17])
 .ret))
noncomputable def ent87 : TEnt := ⟨87, [.str, .str], .bool, fun x => F87 x.1 x.2, .plain⟩
theorem eq87 (x : dens ent87.as) : ent87.F x = evF [] SHF dc87 [(.tmp 4)] ent87.as ent87.rs x := by kernel_rfl
noncomputable def F66 (a0 : Fmt) (a1 : Fmt) (a2 : List UInt8) : Option (List UInt8 × Int) :=
 bindO (F87 a2 a0.2.2.2.2.2.1) fun y1 =>
 cond (!y1)
 (some (([] : List UInt8), (3 : Int)))
 (gd (0 ≤ (List.length a0.2.2.2.2.2.1 : Int) ∧ (List.length a0.2.2.2.2.2.1 : Int) ≤ (List.length a2 : Int)) <|
 bnd (List.drop (Int.toNat (List.length a0.2.2.2.2.2.1 : Int)) a2) fun x2 =>
 gd (List.length a1.2.2.2.2.2.1 + List.length x2 ≤ big) <|
 bnd (a1.2.2.2.2.2.1 ++ x2) fun x3 =>
 some (x3, (0 : Int)))
def dc66 : DC :=
 (.seq (.reg [Bx 3 72 0, Bx 4 72 1, ⟨none, (.mv (some 6) (.v (.str [])))⟩, Mi 7 0])
 (.seq (.seq (.reg [Mt 8 2, Fa 9 72 5 3, Ld 10 9, Cb 11 87 8 10, Un 12 11])
 (.cond (.t 12)
 (.seq (.reg [⟨none, (.mv (some 6) (.v (.str [])))⟩, Mi 7 3])
 .ret)
 .skip))
 (.seq (.reg [Fa 13 72 5 4, Ld 14 13, Mt 15 2, Fa 16 72 5 3, Ld 17 16, Lm 18 17, ⟨none, (.sc 19 none (.t 15) (some (.t 18)) none)⟩, Ar 20 .add 14 19, Mt 6 20, Mi 7 0])
 .ret)))
noncomputable def ent66 : TEnt := ⟨66, [shFmt, shFmt, .str], (.tup (.pair .str (.int .i64))), fun x => F66 x.1 x.2.1 x.2.2, .plain⟩
theorem eq66 (x : dens ent66.as) : ent66.F x = evF [ent87] SHF dc66 [(.tmp 6), (.tmp 7)] ent66.as ent66.rs x := by kernel_rfl
noncomputable def F59 (a0 : List (Fmt)) (a1 : Int) : Option ((Fmt) × Bool) :=
 loopK (σ := Int × Fmt) (fun p1 againp1 =>
 cond (decide (p1.1 < (List.length a0 : Int)))
 (gd (0 ≤ p1.1 ∧ p1.1 < (List.length a0 : Int)) <|
 cond (decide ((List.getD a0 (Int.toNat p1.1) (0, (0, (0, (0, ([], ([], []))))))).1 = a1))
 (gd (0 ≤ p1.1 ∧ p1.1 < (List.length a0 : Int)) <|
 some ((List.getD a0 (Int.toNat p1.1) (0, (0, (0, (0, ([], ([], []))))))), true))
 (bnd (IntKind.wrap .i64 (p1.1 + (1 : Int))) fun x2 =>
 againp1 (x2, p1.2)))
 (some (((0 : Int), (0 : Int), (0 : Int), (0 : Int), ([] : List UInt8), ([] : List UInt8), ([] : List (Int))), false))) ((0 : Int), ((0 : Int), (0 : Int), (0 : Int), (0 : Int), ([] : List UInt8), ([] : List UInt8), ([] : List (Int))))
def dc59 : DC :=
 (.seq (.reg [⟨none, (.al 4 (.agg 72 [(.int .i64 0), (.int .i64 0), (.int .i64 0), (.int .i64 0), (.str []), (.str []), (.sl none 3 [])]))⟩, Mb 5 false])
 (.seq (.seq (.reg [Mi 6 0])
 (.block 0 (.loop ⟨[(6, (.lf (.int .i64)))], [(4, (.lf shFmt))], [5, 7, 8, 9, 10, 11, 12, 13, 14, 15, 16, 17, 18, 19, 20, 21, 22, 23].map .s⟩ (.seq (.seq (.reg [Mt 7 6, Mt 8 0, Ln 9 72 8, Ar 10 .lss 7 9])
 (.cond (.t 10)
 .skip
 (.exit 0)))
 (.seq (.block 1 (.seq (.reg [Mt 13 0, Mt 14 6, Ea 15 72 13 14, Fa 16 72 0 15, Ld 17 16, Mt 18 1, Ar 19 .eql 17 18])
 (.cond (.t 19)
 (.seq (.reg [Mt 20 0, Mt 21 6, Ea 22 72 20 21, Lt 23 72 22, Sr 72 4 23, Mb 5 true])
 .ret)
 .skip)))
 (.reg [Mt 11 6, Ai 12 .add 11 1, Mt 6 12]))))))
 (.seq (.reg [⟨none, (.bd 24 72 [(.int .i64 0), (.int .i64 0), (.int .i64 0), (.int .i64 0), (.str []), (.str []), (.sl none 3 [])] [] [])⟩, Sr 72 4 24, Mb 5 false])
 .ret)))
noncomputable def ent59 : TEnt := ⟨59, [(.sl 72 shFmt), (.int .i64)], (.tup (.pair shFmt .bool)), fun x => F59 x.1 x.2, .plain⟩
theorem eq59 (x : dens ent59.as) : ent59.F x = evF [] SHF dc59 [(.cell 4 (some 72)), (.tmp 5)] ent59.as ent59.rs x := by kernel_rfl
noncomputable def F24 (a0 : Obj) (a1 : List (Fmt)) (a2 : Int) (a3 : Int) : Option ((Obj) × Int) :=
 bindO (F29 a0) fun y1 =>
 cond (!decide (y1 = (0 : Int)))
 (some (((0, 0, [], [], 0, 0, 0, 0) : Obj), (1 : Int)))
 (bindO (F53 a0 a3) fun y2 =>
 cond (!decide (y2 = (0 : Int)))
 (some (((0, 0, [], [], 0, 0, 0, 0) : Obj), y2))
 (bindO (F64 a0) fun y3 =>
 gd (0 ≤ y3 ∧ y3 < (List.length a0.2.2.1 : Int)) <|
 bindO (F59 a1 ((List.getD a0.2.2.1 (Int.toNat y3) (0, (0, (0, ([], []))))).1)) fun y4 =>
 bindO (F59 a1 a2) fun y5 =>
 cond (!y4.2)
 (some (((0, 0, [], [], 0, 0, 0, 0) : Obj), (9 : Int)))
 (cond (!y5.2)
 (some (((0, 0, [], [], 0, 0, 0, 0) : Obj), (9 : Int)))
 (bindO (F65 y4.1.2.2.2.2.2.2 a2) fun y6 =>
 cond (!y6)
 (some (((0, 0, [], [], 0, 0, 0, 0) : Obj), (1 : Int)))
 (bindO (F54 (List.getD a0.2.2.1 (Int.toNat y3) (0, (0, (0, ([], [])))))) fun y7 =>
 cond (!y7)
 (some (((0, 0, [], [], 0, 0, 0, 0) : Obj), (19 : Int)))
 (gdN (List.length ([] : List (File))) (List.length ([] : List (File))) <|
 loopK (σ := (List (File)) × Int × Obj) (fun p8 againp8 =>
 cond (decide (p8.2.1 < (List.length ((List.getD a0.2.2.1 (Int.toNat y3) (0, (0, (0, ([], []))))).2.2.2.2) : Int)))
 (gd (0 ≤ p8.2.1 ∧ p8.2.1 < (List.length ((List.getD a0.2.2.1 (Int.toNat y3) (0, (0, (0, ([], []))))).2.2.2.2) : Int)) <|
 bindO (F66 y4.1 y5.1 ((List.getD ((List.getD a0.2.2.1 (Int.toNat y3) (0, (0, (0, ([], []))))).2.2.2.2) (Int.toNat p8.2.1) ([], [])).2)) fun y9 =>
 cond (!decide (y9.2 = (0 : Int)))
 (some (((0, 0, [], [], 0, 0, 0, 0) : Obj), y9.2))
 (gd (0 ≤ p8.2.1 ∧ p8.2.1 < (List.length ((List.getD a0.2.2.1 (Int.toNat y3) (0, (0, (0, ([], []))))).2.2.2.2) : Int)) <|
 gdN (List.length p8.1) (List.length p8.1) <|
 gd (List.length p8.1 + List.length [((List.getD ((List.getD a0.2.2.1 (Int.toNat y3) (0, (0, (0, ([], []))))).2.2.2.2) (Int.toNat p8.2.1) ([], [])).1, y9.1)] ≤ big) <|
 bnd (p8.1 ++ [((List.getD ((List.getD a0.2.2.1 (Int.toNat y3) (0, (0, (0, ([], []))))).2.2.2.2) (Int.toNat p8.2.1) ([], [])).1, y9.1)]) fun l10 =>
 bnd (IntKind.wrap .i64 (p8.2.1 + (1 : Int))) fun x11 =>
 gdN (List.length l10) (List.length l10) <|
 againp8 (l10, x11, p8.2.2)))
 (bindO (F45 p8.1) fun y12 =>
 cond (!decide (y12 = (0 : Int)))
 (some (((0, 0, [], [], 0, 0, 0, 0) : Obj), y12))
 (bnd (IntKind.wrap .i64 (y3 + (1 : Int))) fun x13 =>
 cond (decide ((8 : Int) ≤ x13))
 (some (((0, 0, [], [], 0, 0, 0, 0) : Obj), (13 : Int)))
 (cond (decide ((64 : Int) ≤ (List.length a0.2.2.2.1 : Int)))
 (some (((0, 0, [], [], 0, 0, 0, 0) : Obj), (13 : Int)))
 (bindO (F32 p8.1) fun y14 =>
 gdN (List.length ([] : List (Edn))) (List.length ([] : List (Edn))) <|
 gd (List.length ([] : List (Edn)) + List.length a0.2.2.1 ≤ big) <|
 bnd (([] : List (Edn)) ++ a0.2.2.1) fun l15 =>
 gdN (List.length l15) (List.length l15) <|
 gd (List.length l15 + List.length [(a2, y3, a3, y14, p8.1)] ≤ big) <|
 bnd (l15 ++ [(a2, y3, a3, y14, p8.1)]) fun l16 =>
 bnd (IntKind.wrap .i64 (y3 + (1 : Int))) fun x17 =>
 bindO (F47 (a0.1, a0.2.1, l16, a0.2.2.2.1, a0.2.2.2.2) a3 (3 : Int) x17 y14 true) fun y18 =>
 some (y18, (0 : Int))))))) (([] : List (File)), (0 : Int), ((0, 0, [], [], 0, 0, 0, 0) : Obj))))))))
def dc24 : DC :=
 (.seq (.reg [Bx 4 32 0, ⟨none, (.al 8 (.agg 32 zO))⟩, Mi 9 0])
 (.seq (.seq (.reg [Lt 22 32 4, Ca 23 29 22, Ai 24 .neq 23 0])
 (.cond (.t 24)
 (.seq (.reg [⟨none, (.bd 25 32 zO [] [])⟩, Sr 32 8 25, Mi 9 1])
 .ret)
 .skip))
 (.seq (.reg [Lt 26 32 4, Mt 27 3, Cb 28 53 26 27, Mt 10 28])
 (.seq (.seq (.reg [Mt 29 10, Ai 30 .neq 29 0])
 (.cond (.t 30)
 (.seq (.reg [⟨none, (.bd 31 32 zO [] [])⟩, Mt 32 10, Sr 32 8 31, Mt 9 32])
 .ret)
 .skip))
 (.seq (.reg [Lt 33 32 4, Ca 34 64 33, Mt 11 34])
 (.seq (.reg [Fa 35 32 2 4, Ld 36 35, Mt 37 11, Ea 38 63 36 37, Lt 39 63 38, ⟨none, (.al 12 (.agg 63 [(.int .i64 0), (.int .i64 0), (.int .i64 0), (.str []), (.sl none 70 [])]))⟩, Sr 63 12 39])
 (.seq (.reg [Mt 41 1, Fa 42 63 0 12, Ld 43 42, Cb 44 59 41 43, Mt 40 44, Ex 45 0 40, Ex 46 1 40, ⟨none, (.al 13 (.agg 72 [(.int .i64 0), (.int .i64 0), (.int .i64 0), (.int .i64 0), (.str []), (.str []), (.sl none 3 [])]))⟩, Sr 72 13 45, Mt 14 46])
 (.seq (.reg [Mt 48 1, Mt 49 2, Cb 50 59 48 49, Mt 47 50, Ex 51 0 47, Ex 52 1 47, ⟨none, (.al 15 (.agg 72 [(.int .i64 0), (.int .i64 0), (.int .i64 0), (.int .i64 0), (.str []), (.str []), (.sl none 3 [])]))⟩, Sr 72 15 51, Mt 16 52])
 (.seq (.seq (.reg [Mt 53 14, Un 54 53, Mt 55 54, Gd 55 (Mt 56 16), Gd 55 (Un 57 56), Po 58 55 57])
 (.cond (.t 58)
 (.seq (.reg [⟨none, (.bd 59 32 zO [] [])⟩, Sr 32 8 59, Mi 9 9])
 .ret)
 .skip))
 (.seq (.seq (.reg [Fa 60 72 6 13, Ld 61 60, Mt 62 2, Cb 63 65 61 62, Un 64 63])
 (.cond (.t 64)
 (.seq (.reg [⟨none, (.bd 65 32 zO [] [])⟩, Sr 32 8 65, Mi 9 1])
 .ret)
 .skip))
 (.seq (.seq (.reg [Lt 66 63 12, Ca 67 54 66, Un 68 67])
 (.cond (.t 68)
 (.seq (.reg [⟨none, (.bd 69 32 zO [] [])⟩, Sr 32 8 69, Mi 9 19])
 .ret)
 .skip))
 (.seq (.reg [⟨none, (.bs 70 70 (some 70) [])⟩, Mt 17 70])
 (.seq (.seq (.reg [Mi 18 0])
 (.block 0 (.loop ⟨[(17, (.row 70 70 shFile)), (18, (.lf (.int .i64)))], [(8, (.lf shObj))], [9, 19, 20, 71, 72, 73, 74, 75, 76, 77, 78, 79, 80, 81, 82, 83, 84, 85, 86, 87, 88, 89, 90, 91, 92, 93, 94, 95, 96, 97, 98, 99, 100, 101, 102, 103, 104].map .s ++ [103].map .f⟩ (.seq (.seq (.reg [Mt 71 18, Fa 72 63 4 12, Ld 73 72, Ln 74 70 73, Ar 75 .lss 71 74])
 (.cond (.t 75)
 .skip
 (.exit 0)))
 (.seq (.block 1 (.seq (.reg [Lt 79 72 13, Lt 80 72 15, Fa 81 63 4 12, Ld 82 81, Mt 83 18, Ea 84 70 82 83, Fa 85 70 1 84, Ld 86 85, ⟨none, (.ca (some 87) 66 [(.t 79), (.t 80), (.t 86)])⟩, Mt 78 87, Ex 88 0 78, Ex 89 1 78, Mt 19 88, Mt 20 89])
 (.seq (.seq (.reg [Mt 90 20, Ai 91 .neq 90 0])
 (.cond (.t 91)
 (.seq (.reg [⟨none, (.bd 92 32 zO [] [])⟩, Mt 93 20, Sr 32 8 92, Mt 9 93])
 .ret)
 .skip))
 (.reg [Mt 94 17, Fa 95 63 4 12, Ld 96 95, Mt 97 18, Ea 98 70 96 97, Fa 99 70 0 98, Ld 100 99, Mt 101 19, ⟨none, (.bd 102 70 [(.str []), (.str [])] [0, 1] [(.t 100), (.t 101)])⟩, ⟨none, (.bs 103 70 (some 70) [(.t 102)])⟩, Ap 104 70 94 103, Mt 17 104]))))
 (.reg [Mt 76 18, Ai 77 .add 76 1, Mt 18 77]))))))
 (.seq (.reg [Mt 105 17, Ca 106 45 105, Mt 10 106])
 (.seq (.seq (.reg [Mt 107 10, Ai 108 .neq 107 0])
 (.cond (.t 108)
 (.seq (.reg [⟨none, (.bd 109 32 zO [] [])⟩, Mt 110 10, Sr 32 8 109, Mt 9 110])
 .ret)
 .skip))
 (.seq (.seq (.reg [Mt 111 11, Ai 112 .add 111 1, Ai 113 .geq 112 8, Mt 114 113, Gd 114 (Fa 115 32 3 4), Gd 114 (Ld 116 115), Gd 114 (Ln 117 65 116), Gd 114 (Ai 118 .geq 117 64), Po 119 114 118])
 (.cond (.t 119)
 (.seq (.reg [⟨none, (.bd 120 32 zO [] [])⟩, Sr 32 8 120, Mi 9 13])
 .ret)
 .skip))
 (.seq (.reg [Mt 121 17, Ca 122 32 121, Mt 21 122])
 (.seq (.reg [⟨none, (.bs 123 63 (some 63) [])⟩, Fa 124 32 2 4, Ld 125 124, Ap 126 63 123 125, Mt 127 2, Mt 128 11, Mt 129 3, Mt 130 21, Mt 131 17, ⟨none, (.bd 132 63 [(.int .i64 0), (.int .i64 0), (.int .i64 0), (.str []), (.sl none 70 [])] [0, 1, 2, 3, 4] [(.t 127), (.t 128), (.t 129), (.t 130), (.t 131)])⟩, ⟨none, (.bs 133 63 (some 63) [(.t 132)])⟩, Ap 134 63 126 133, Fa 135 32 2 4, Su 135 134])
 (.seq (.reg [Lt 136 32 4, Mt 137 3, Mt 138 11, Ai 139 .add 138 1, Mt 140 21, ⟨none, (.ca (some 141) 47 [(.t 136), (.t 137), (.v (.int .i64 3)), (.t 139), (.t 140), (.v (.bool true))])⟩, Sr 32 8 141, Mi 9 0])
 .ret)))))))))))))))))))
noncomputable def ent24 : TEnt := ⟨24, [shObj, (.sl 72 shFmt), (.int .i64), (.int .i64)], (.tup (.pair shObj (.int .i64))), fun x => F24 x.1 x.2.1 x.2.2.1 x.2.2.2, .plain⟩
theorem eq24 (x : dens ent24.as) : ent24.F x = evF [ent29, ent32, ent45, ent47, ent53, ent54, ent59, ent64, ent65, ent66] SHF dc24 [(.cell 8 (some 32)), (.tmp 9)] ent24.as ent24.rs x := by kernel_rfl
noncomputable def F31 (a0 : List (File)) (a1 : List (File)) : Option (Bool) :=
 cond (!decide ((List.length a0 : Int) = (List.length a1 : Int)))
 (some false)
 (loopK (σ := Int) (fun p1 againp1 =>
 cond (decide (p1 < (List.length a0 : Int)))
 (gd (0 ≤ p1 ∧ p1 < (List.length a0 : Int)) <|
 gd (0 ≤ p1 ∧ p1 < (List.length a1 : Int)) <|
 cond (!(decide ((List.getD a0 (Int.toNat p1) ([], [])).1 = (List.getD a1 (Int.toNat p1) ([], [])).1) && (decide ((List.getD a0 (Int.toNat p1) ([], [])).2 = (List.getD a1 (Int.toNat p1) ([], [])).2) && true)))
 (some false)
 (bnd (IntKind.wrap .i64 (p1 + (1 : Int))) fun x2 =>
 againp1 x2))
 (some true)) (0 : Int))
def dc31 : DC :=
 (.seq (.reg [Mb 4 false])
 (.seq (.seq (.reg [Mt 6 0, Ln 7 70 6, Mt 8 1, Ln 9 70 8, Ar 10 .neq 7 9])
 (.cond (.t 10)
 (.seq (.reg [Mb 4 false])
 .ret)
 .skip))
 (.seq (.seq (.reg [Mi 5 0])
 (.block 0 (.loop ⟨[(5, (.lf (.int .i64)))], [], [4, 11, 12, 13, 14, 15, 16, 17, 18, 19, 20, 21, 22, 23, 24, 25].map .s⟩ (.seq (.seq (.reg [Mt 11 5, Mt 12 0, Ln 13 70 12, Ar 14 .lss 11 13])
 (.cond (.t 14)
 .skip
 (.exit 0)))
 (.seq (.block 1 (.seq (.reg [Mt 17 0, Mt 18 5, Ea 19 70 17 18, Lt 20 70 19, Mt 21 1, Mt 22 5, Ea 23 70 21 22, Lt 24 70 23, ⟨none, (.se 25 (.st [2, 2]) true (.t 20) (.t 24))⟩])
 (.cond (.t 25)
 (.seq (.reg [Mb 4 false])
 .ret)
 .skip)))
 (.reg [Mt 15 5, Ai 16 .add 15 1, Mt 5 16]))))))
 (.seq (.reg [Mb 4 true])
 .ret))))
noncomputable def ent31 : TEnt := ⟨31, [(.sl 70 shFile), (.sl 70 shFile)], .bool, fun x => F31 x.1 x.2, .plain⟩
theorem eq31 (x : dens ent31.as) : ent31.F x = evF [] SHF dc31 [(.tmp 4)] ent31.as ent31.rs x := by kernel_rfl
noncomputable def F30 (a0 : List (Fix)) (a1 : List (Fix)) : Option (Bool) :=
 cond (!decide ((List.length a0 : Int) = (List.length a1 : Int)))
 (some false)
 (loopK (σ := Int) (fun p1 againp1 =>
 cond (decide (p1 < (List.length a0 : Int)))
 (gd (0 ≤ p1 ∧ p1 < (List.length a0 : Int)) <|
 gd (0 ≤ p1 ∧ p1 < (List.length a1 : Int)) <|
 cond (!(decide ((List.getD a0 (Int.toNat p1) (0, (0, (0, ([], ([], false)))))).1 = (List.getD a1 (Int.toNat p1) (0, (0, (0, ([], ([], false)))))).1) && (decide ((List.getD a0 (Int.toNat p1) (0, (0, (0, ([], ([], false)))))).2.1 = (List.getD a1 (Int.toNat p1) (0, (0, (0, ([], ([], false)))))).2.1) && (decide ((List.getD a0 (Int.toNat p1) (0, (0, (0, ([], ([], false)))))).2.2.1 = (List.getD a1 (Int.toNat p1) (0, (0, (0, ([], ([], false)))))).2.2.1) && (decide ((List.getD a0 (Int.toNat p1) (0, (0, (0, ([], ([], false)))))).2.2.2.1 = (List.getD a1 (Int.toNat p1) (0, (0, (0, ([], ([], false)))))).2.2.2.1) && (decide ((List.getD a0 (Int.toNat p1) (0, (0, (0, ([], ([], false)))))).2.2.2.2.1 = (List.getD a1 (Int.toNat p1) (0, (0, (0, ([], ([], false)))))).2.2.2.2.1) && ((((List.getD a0 (Int.toNat p1) (0, (0, (0, ([], ([], false)))))).2.2.2.2.2) == ((List.getD a1 (Int.toNat p1) (0, (0, (0, ([], ([], false)))))).2.2.2.2.2)) && true)))))))
 (some false)
 (bnd (IntKind.wrap .i64 (p1 + (1 : Int))) fun x2 =>
 againp1 x2))
 (some true)) (0 : Int))
def dc30 : DC :=
 (.seq (.reg [Mb 4 false])
 (.seq (.seq (.reg [Mt 6 0, Ln 7 65 6, Mt 8 1, Ln 9 65 8, Ar 10 .neq 7 9])
 (.cond (.t 10)
 (.seq (.reg [Mb 4 false])
 .ret)
 .skip))
 (.seq (.seq (.reg [Mi 5 0])
 (.block 0 (.loop ⟨[(5, (.lf (.int .i64)))], [], [4, 11, 12, 13, 14, 15, 16, 17, 18, 19, 20, 21, 22, 23, 24, 25].map .s⟩ (.seq (.seq (.reg [Mt 11 5, Mt 12 0, Ln 13 65 12, Ar 14 .lss 11 13])
 (.cond (.t 14)
 .skip
 (.exit 0)))
 (.seq (.block 1 (.seq (.reg [Mt 17 0, Mt 18 5, Ea 19 65 17 18, Lt 20 65 19, Mt 21 1, Mt 22 5, Ea 23 65 21 22, Lt 24 65 23, ⟨none, (.se 25 (.st [1, 1, 1, 2, 2, 0]) true (.t 20) (.t 24))⟩])
 (.cond (.t 25)
 (.seq (.reg [Mb 4 false])
 .ret)
 .skip)))
 (.reg [Mt 15 5, Ai 16 .add 15 1, Mt 5 16]))))))
 (.seq (.reg [Mb 4 true])
 .ret))))
noncomputable def ent30 : TEnt := ⟨30, [(.sl 65 shFix), (.sl 65 shFix)], .bool, fun x => F30 x.1 x.2, .plain⟩
theorem eq30 (x : dens ent30.as) : ent30.F x = evF [] SHF dc30 [(.tmp 4)] ent30.as ent30.rs x := by kernel_rfl
noncomputable def F14 (a0 : Obj) (a1 : Obj) : Option (Bool) :=
 cond (!decide (a0.1 = a1.1))
 (some false)
 (cond (!decide (a0.2.1 = a1.2.1))
 (some false)
 (cond (!(decide (a0.2.2.2.2.1 = a1.2.2.2.2.1) && (decide (a0.2.2.2.2.2.1 = a1.2.2.2.2.2.1) && (decide (a0.2.2.2.2.2.2.1 = a1.2.2.2.2.2.2.1) && (decide (a0.2.2.2.2.2.2.2 = a1.2.2.2.2.2.2.2) && true)))))
 (some false)
 (cond (!decide ((List.length a0.2.2.1 : Int) = (List.length a1.2.2.1 : Int)))
 (some false)
 (bindO (F30 a0.2.2.2.1 a1.2.2.2.1) fun y1 =>
 cond (!y1)
 (some false)
 (loopK (σ := Int) (fun p2 againp2 =>
 cond (decide (p2 < (List.length a0.2.2.1 : Int)))
 (gd (0 ≤ p2 ∧ p2 < (List.length a0.2.2.1 : Int)) <|
 gd (0 ≤ p2 ∧ p2 < (List.length a1.2.2.1 : Int)) <|
 cond (!decide ((List.getD a0.2.2.1 (Int.toNat p2) (0, (0, (0, ([], []))))).1 = (List.getD a1.2.2.1 (Int.toNat p2) (0, (0, (0, ([], []))))).1))
 (some false)
 (cond (!decide ((List.getD a0.2.2.1 (Int.toNat p2) (0, (0, (0, ([], []))))).2.1 = (List.getD a1.2.2.1 (Int.toNat p2) (0, (0, (0, ([], []))))).2.1))
 (some false)
 (cond (!decide ((List.getD a0.2.2.1 (Int.toNat p2) (0, (0, (0, ([], []))))).2.2.1 = (List.getD a1.2.2.1 (Int.toNat p2) (0, (0, (0, ([], []))))).2.2.1))
 (some false)
 (cond (!decide ((List.getD a0.2.2.1 (Int.toNat p2) (0, (0, (0, ([], []))))).2.2.2.1 = (List.getD a1.2.2.1 (Int.toNat p2) (0, (0, (0, ([], []))))).2.2.2.1))
 (some false)
 (bindO (F31 ((List.getD a0.2.2.1 (Int.toNat p2) (0, (0, (0, ([], []))))).2.2.2.2) ((List.getD a1.2.2.1 (Int.toNat p2) (0, (0, (0, ([], []))))).2.2.2.2)) fun y3 =>
 cond (!y3)
 (some false)
 (bnd (IntKind.wrap .i64 (p2 + (1 : Int))) fun x4 =>
 againp2 x4))))))
 (some true)) (0 : Int))))))
def dc14 : DC :=
 (.seq (.reg [Bx 2 32 0, Bx 3 32 1, Mb 4 false])
 (.seq (.seq (.reg [Fa 8 32 0 2, Ld 9 8, Fa 10 32 0 3, Ld 11 10, Ar 12 .neq 9 11, Mt 13 12, Gd 13 (Fa 14 32 1 2), Gd 13 (Ld 15 14), Gd 13 (Fa 16 32 1 3), Gd 13 (Ld 17 16), Gd 13 (Ar 18 .neq 15 17), Po 19 13 18, Mt 20 19, Gd 20 (Fa 21 32 4 2), Gd 20 (Lt 22 24 21), Gd 20 (Fa 23 32 4 3), Gd 20 (Lt 24 24 23), ⟨(some (20, false)), (.se 25 (.st [1, 1, 1, 1]) true (.t 22) (.t 24))⟩, Po 26 20 25, Mt 27 26, Gd 27 (Fa 28 32 2 2), Gd 27 (Ld 29 28), Gd 27 (Ln 30 63 29), Gd 27 (Fa 31 32 2 3), Gd 27 (Ld 32 31), Gd 27 (Ln 33 63 32), Gd 27 (Ar 34 .neq 30 33), Po 35 27 34, Mt 36 35, Gd 36 (Fa 37 32 3 2), Gd 36 (Ld 38 37), Gd 36 (Fa 39 32 3 3), Gd 36 (Ld 40 39), Gd 36 (Cb 41 30 38 40), Gd 36 (Un 42 41), Po 43 36 42])
 (.cond (.t 43)
 (.seq (.reg [Mb 4 false])
 .ret)
 .skip))
 (.seq (.seq (.reg [Mi 5 0])
 (.block 0 (.loop ⟨[(5, (.lf (.int .i64)))], [], [4, 6, 7, 44, 45, 46, 47, 48, 49, 50, 51, 52, 53, 54, 55, 56, 57, 58, 59, 60, 61, 62, 63, 64, 65, 66, 67, 68, 69, 70, 71, 72, 73, 74, 75, 76, 77, 78, 79, 80, 81, 82, 83, 84, 85, 86, 87, 88, 89, 90, 91, 92, 93, 94].map .s ++ [6, 7].map .b⟩ (.seq (.seq (.reg [Mt 44 5, Fa 45 32 2 2, Ld 46 45, Ln 47 63 46, Ar 48 .lss 44 47])
 (.cond (.t 48)
 .skip
 (.exit 0)))
 (.seq (.block 1 (.seq (.reg [⟨none, (.fx [6, 7] 51 32 2 (.t 2))⟩, ⟨none, (.lx [6, 7] 52 none (.t 51))⟩, Mt 53 5, ⟨none, (.gx 54 63 (.t 52) (.t 53))⟩, ⟨none, (.lx [6, 7] 55 (some 63) (.t 54))⟩, ⟨none, (.fx [6, 7] 56 32 2 (.t 3))⟩, ⟨none, (.lx [6, 7] 57 none (.t 56))⟩, Mt 58 5, ⟨none, (.gx 59 63 (.t 57) (.t 58))⟩, ⟨none, (.lx [6, 7] 60 (some 63) (.t 59))⟩, ⟨none, (.al 6 (.agg 63 [(.int .i64 0), (.int .i64 0), (.int .i64 0), (.str []), (.sl none 70 [])]))⟩, ⟨none, (.al 7 (.agg 63 [(.int .i64 0), (.int .i64 0), (.int .i64 0), (.str []), (.sl none 70 [])]))⟩, ⟨none, (.sx 6 (some 63) (.t 6) (.t 55))⟩, ⟨none, (.sx 7 (some 63) (.t 7) (.t 60))⟩])
 (.seq (.reg [Fa 61 63 0 6, Ld 62 61, Fa 63 63 0 7, Ld 64 63, Ar 65 .neq 62 64, Mt 66 65, Gd 66 (Fa 67 63 1 6), Gd 66 (Ld 68 67), Gd 66 (Fa 69 63 1 7), Gd 66 (Ld 70 69), Gd 66 (Ar 71 .neq 68 70), Po 72 66 71, Mt 73 72, Gd 73 (Fa 74 63 2 6), Gd 73 (Ld 75 74), Gd 73 (Fa 76 63 2 7), Gd 73 (Ld 77 76), Gd 73 (Ar 78 .neq 75 77), Po 79 73 78, Mt 80 79, Gd 80 (Fa 81 63 3 6), Gd 80 (Ld 82 81), Gd 80 (Fa 83 63 3 7), Gd 80 (Ld 84 83), Gd 80 (Ar 85 .neq 82 84), Po 86 80 85, Mt 87 86, Gd 87 (Fa 88 63 4 6), Gd 87 (Ld 89 88), Gd 87 (Fa 90 63 4 7), Gd 87 (Ld 91 90), Gd 87 (Cb 92 31 89 91), Gd 87 (Un 93 92), Po 94 87 93])
 (.cond (.t 94)
 (.seq (.reg [Mb 4 false])
 .ret)
 .skip))))
 (.reg [Mt 49 5, Ai 50 .add 49 1, Mt 5 50]))))))
 (.seq (.reg [Mb 4 true])
 .ret))))
noncomputable def ent14 : TEnt := ⟨14, [shObj, shObj], .bool, fun x => F14 x.1 x.2, .plain⟩
theorem eq14 (x : dens ent14.as) : ent14.F x = evF [ent30, ent31] SHF dc14 [(.tmp 4)] ent14.as ent14.rs x := by kernel_rfl
noncomputable def F11 (a0 : List (File)) : Option (Bool) :=
 cond (decide ((20 : Int) < (List.length a0 : Int)))
 (some false)
 (loopK (σ := Int × Int) (fun p1 againp1 =>
 cond (decide (p1.2 < (List.length a0 : Int)))
 (gd (0 ≤ p1.2 ∧ p1.2 < (List.length a0 : Int)) <|
 cond (decide ((200 : Int) < (List.length ((List.getD a0 (Int.toNat p1.2) ([], [])).1) : Int)))
 (some false)
 (gd (0 ≤ p1.2 ∧ p1.2 < (List.length a0 : Int)) <|
 cond (decide ((2100 : Int) < (List.length ((List.getD a0 (Int.toNat p1.2) ([], [])).2) : Int)))
 (some false)
 (gd (0 ≤ p1.2 ∧ p1.2 < (List.length a0 : Int)) <|
 bnd (IntKind.wrap .i64 (p1.1 + (List.length ((List.getD a0 (Int.toNat p1.2) ([], [])).2) : Int))) fun x2 =>
 bnd (IntKind.wrap .i64 (p1.2 + (1 : Int))) fun x3 =>
 againp1 (x2, x3))))
 (some (decide (p1.1 ≤ (10000 : Int))))) ((0 : Int), (0 : Int)))
def dc11 : DC :=
 (.seq (.reg [Mb 2 false])
 (.seq (.seq (.reg [Mt 5 0, Ln 6 70 5, Ai 7 .gtr 6 20])
 (.cond (.t 7)
 (.seq (.reg [Mb 2 false])
 .ret)
 .skip))
 (.seq (.reg [Mi 3 0])
 (.seq (.seq (.reg [Mi 4 0])
 (.block 0 (.loop ⟨[(3, (.lf (.int .i64))), (4, (.lf (.int .i64)))], [], [2, 8, 9, 10, 11, 12, 13, 14, 15, 16, 17, 18, 19, 20, 21, 22, 23, 24, 25, 26, 27, 28, 29, 30, 31, 32, 33, 34, 35, 36, 37].map .s⟩ (.seq (.seq (.reg [Mt 8 4, Mt 9 0, Ln 10 70 9, Ar 11 .lss 8 10])
 (.cond (.t 11)
 .skip
 (.exit 0)))
 (.seq (.block 1 (.seq (.seq (.reg [Mt 14 0, Mt 15 4, Ea 16 70 14 15, Fa 17 70 0 16, Ld 18 17, Lm 19 18, Ai 20 .gtr 19 200, Mt 21 20, Gd 21 (Mt 22 0), Gd 21 (Mt 23 4), Gd 21 (Ea 24 70 22 23), Gd 21 (Fa 25 70 1 24), Gd 21 (Ld 26 25), Gd 21 (Lm 27 26), Gd 21 (Ai 28 .gtr 27 2100), Po 29 21 28])
 (.cond (.t 29)
 (.seq (.reg [Mb 2 false])
 .ret)
 .skip))
 (.reg [Mt 30 3, Mt 31 0, Mt 32 4, Ea 33 70 31 32, Fa 34 70 1 33, Ld 35 34, Lm 36 35, Ar 37 .add 30 36, Mt 3 37])))
 (.reg [Mt 12 4, Ai 13 .add 12 1, Mt 4 13]))))))
 (.seq (.reg [Mt 38 3, Ai 39 .leq 38 10000, Mt 2 39])
 .ret)))))
noncomputable def ent11 : TEnt := ⟨11, [(.sl 70 shFile)], .bool, fun x => F11 x, .plain⟩
theorem eq11 (x : dens ent11.as) : ent11.F x = evF [] SHF dc11 [(.tmp 2)] ent11.as ent11.rs x := by kernel_rfl
noncomputable def F16 (a0 : Obj) : Option (Bool) :=
 cond (decide ((12 : Int) < (List.length a0.2.2.1 : Int)))
 (some false)
 (cond (decide ((80 : Int) < (List.length a0.2.2.2.1 : Int)))
 (some false)
 (loopK (σ := Int) (fun p1 againp1 =>
 cond (decide (p1 < (List.length a0.2.2.1 : Int)))
 (gd (0 ≤ p1 ∧ p1 < (List.length a0.2.2.1 : Int)) <|
 bindO (F11 ((List.getD a0.2.2.1 (Int.toNat p1) (0, (0, (0, ([], []))))).2.2.2.2)) fun y2 =>
 cond (!y2)
 (some false)
 (gd (0 ≤ p1 ∧ p1 < (List.length a0.2.2.1 : Int)) <|
 cond (decide ((100 : Int) < (List.length ((List.getD a0.2.2.1 (Int.toNat p1) (0, (0, (0, ([], []))))).2.2.2.1) : Int)))
 (some false)
 (bnd (IntKind.wrap .i64 (p1 + (1 : Int))) fun x3 =>
 againp1 x3)))
 (loopK (σ := Int) (fun p4 againp4 =>
 cond (decide (p4 < (List.length a0.2.2.2.1 : Int)))
 (gd (0 ≤ p4 ∧ p4 < (List.length a0.2.2.2.1 : Int)) <|
 cond (decide ((100 : Int) < (List.length ((List.getD a0.2.2.2.1 (Int.toNat p4) (0, (0, (0, ([], ([], false)))))).2.2.2.1) : Int)))
 (some false)
 (gd (0 ≤ p4 ∧ p4 < (List.length a0.2.2.2.1 : Int)) <|
 cond (decide ((100 : Int) < (List.length ((List.getD a0.2.2.2.1 (Int.toNat p4) (0, (0, (0, ([], ([], false)))))).2.2.2.2.1) : Int)))
 (some false)
 (bnd (IntKind.wrap .i64 (p4 + (1 : Int))) fun x5 =>
 againp4 x5)))
 (some true)) (0 : Int))) (0 : Int)))
def dc16 : DC :=
 (.seq (.reg [Bx 1 32 0, Mb 2 false])
 (.seq (.seq (.reg [Fa 5 32 2 1, Ld 6 5, Ln 7 63 6, Ai 8 .gtr 7 12, Mt 9 8, Gd 9 (Fa 10 32 3 1), Gd 9 (Ld 11 10), Gd 9 (Ln 12 65 11), Gd 9 (Ai 13 .gtr 12 80), Po 14 9 13])
 (.cond (.t 14)
 (.seq (.reg [Mb 2 false])
 .ret)
 .skip))
 (.seq (.seq (.reg [Mi 3 0])
 (.block 0 (.loop ⟨[(3, (.lf (.int .i64)))], [], [2, 15, 16, 17, 18, 19, 20, 21, 22, 23, 24, 25, 26, 27, 28, 29, 30, 31, 32, 33, 34, 35, 36, 37, 38, 39].map .s⟩ (.seq (.seq (.reg [Mt 15 3, Fa 16 32 2 1, Ld 17 16, Ln 18 63 17, Ar 19 .lss 15 18])
 (.cond (.t 19)
 .skip
 (.exit 0)))
 (.seq (.block 1 (.seq (.reg [Fa 22 32 2 1, Ld 23 22, Mt 24 3, Ea 25 63 23 24, Fa 26 63 4 25, Ld 27 26, Ca 28 11 27, Un 29 28, Mt 30 29, Gd 30 (Fa 31 32 2 1), Gd 30 (Ld 32 31), Gd 30 (Mt 33 3), Gd 30 (Ea 34 63 32 33), Gd 30 (Fa 35 63 3 34), Gd 30 (Ld 36 35), Gd 30 (Lm 37 36), Gd 30 (Ai 38 .gtr 37 100), Po 39 30 38])
 (.cond (.t 39)
 (.seq (.reg [Mb 2 false])
 .ret)
 .skip)))
 (.reg [Mt 20 3, Ai 21 .add 20 1, Mt 3 21]))))))
 (.seq (.seq (.reg [Mi 4 0])
 (.block 2 (.loop ⟨[(4, (.lf (.int .i64)))], [], [2, 40, 41, 42, 43, 44, 45, 46, 47, 48, 49, 50, 51, 52, 53, 54, 55, 56, 57, 58, 59, 60, 61, 62, 63, 64].map .s⟩ (.seq (.seq (.reg [Mt 40 4, Fa 41 32 3 1, Ld 42 41, Ln 43 65 42, Ar 44 .lss 40 43])
 (.cond (.t 44)
 .skip
 (.exit 2)))
 (.seq (.block 3 (.seq (.reg [Fa 47 32 3 1, Ld 48 47, Mt 49 4, Ea 50 65 48 49, Fa 51 65 3 50, Ld 52 51, Lm 53 52, Ai 54 .gtr 53 100, Mt 55 54, Gd 55 (Fa 56 32 3 1), Gd 55 (Ld 57 56), Gd 55 (Mt 58 4), Gd 55 (Ea 59 65 57 58), Gd 55 (Fa 60 65 4 59), Gd 55 (Ld 61 60), Gd 55 (Lm 62 61), Gd 55 (Ai 63 .gtr 62 100), Po 64 55 63])
 (.cond (.t 64)
 (.seq (.reg [Mb 2 false])
 .ret)
 .skip)))
 (.reg [Mt 45 4, Ai 46 .add 45 1, Mt 4 46]))))))
 (.seq (.reg [Mb 2 true])
 .ret)))))
noncomputable def ent16 : TEnt := ⟨16, [shObj], .bool, fun x => F16 x, .plain⟩
theorem eq16 (x : dens ent16.as) : ent16.F x = evF [ent11] SHF dc16 [(.tmp 2)] ent16.as ent16.rs x := by kernel_rfl
noncomputable def F58 (a0 : List UInt8) : Option (Bool) :=
 loopK (σ := Int) (fun p1 againp1 =>
 cond (decide (p1 < (List.length a0 : Int)))
 (gd (0 ≤ p1 ∧ p1 < (List.length a0 : Int)) <|
 cond (decide ((UInt8.toNat (List.getD a0 (Int.toNat p1) 0) : Int) < (97 : Int)))
 (cond (decide ((UInt8.toNat (List.getD a0 (Int.toNat p1) 0) : Int) < (48 : Int)))
 (cond (!decide ((UInt8.toNat (List.getD a0 (Int.toNat p1) 0) : Int) = (45 : Int)))
 (some false)
 (bnd (IntKind.wrap .i64 (p1 + (1 : Int))) fun x2 =>
 againp1 x2))
 (cond (decide ((57 : Int) < (UInt8.toNat (List.getD a0 (Int.toNat p1) 0) : Int)))
 (cond (!decide ((UInt8.toNat (List.getD a0 (Int.toNat p1) 0) : Int) = (45 : Int)))
 (some false)
 (bnd (IntKind.wrap .i64 (p1 + (1 : Int))) fun x3 =>
 againp1 x3))
 (bnd (IntKind.wrap .i64 (p1 + (1 : Int))) fun x4 =>
 againp1 x4)))
 (cond (decide ((122 : Int) < (UInt8.toNat (List.getD a0 (Int.toNat p1) 0) : Int)))
 (cond (decide ((UInt8.toNat (List.getD a0 (Int.toNat p1) 0) : Int) < (48 : Int)))
 (cond (!decide ((UInt8.toNat (List.getD a0 (Int.toNat p1) 0) : Int) = (45 : Int)))
 (some false)
 (bnd (IntKind.wrap .i64 (p1 + (1 : Int))) fun x5 =>
 againp1 x5))
 (cond (decide ((57 : Int) < (UInt8.toNat (List.getD a0 (Int.toNat p1) 0) : Int)))
 (cond (!decide ((UInt8.toNat (List.getD a0 (Int.toNat p1) 0) : Int) = (45 : Int)))
 (some false)
 (bnd (IntKind.wrap .i64 (p1 + (1 : Int))) fun x6 =>
 againp1 x6))
 (bnd (IntKind.wrap .i64 (p1 + (1 : Int))) fun x7 =>
 againp1 x7)))
 (bnd (IntKind.wrap .i64 (p1 + (1 : Int))) fun x8 =>
 againp1 x8)))
 (cond (decide ((1 : Int) ≤ (List.length a0 : Int)))
 (some (decide ((List.length a0 : Int) ≤ (20 : Int))))
 (some false))) (0 : Int)
def dc58 : DC :=
 (.seq (.reg [Mb 2 false])
 (.seq (.seq (.reg [Mi 3 0])
 (.block 0 (.loop ⟨[(3, (.lf (.int .i64)))], [], [2, 4, 5, 6, 7, 8, 9, 10, 11, 12, 13, 14, 15, 16, 17, 18, 19, 20, 21, 22, 23, 24, 25, 26, 27, 28, 29, 30, 31].map .s⟩ (.seq (.seq (.reg [Mt 5 3, Mt 6 0, Lm 7 6, Ar 8 .lss 5 7])
 (.cond (.t 8)
 .skip
 (.exit 0)))
 (.seq (.block 1 (.seq (.reg [Mt 11 0, Mt 12 3, ⟨none, (.ix 13 (.t 11) (.t 12))⟩, Mt 4 13])
 (.seq (.reg [Mt 14 4, ⟨none, (.ar 15 .lss (.t 14) (.v (.int .u8 97)))⟩, Mt 16 15, Gd 16 (Mt 17 4), ⟨(some (16, false)), (.ar 18 .gtr (.t 17) (.v (.int .u8 122)))⟩, Po 19 16 18, Mt 20 19, Ge 20 (Mt 21 4), ⟨(some (20, true)), (.ar 22 .lss (.t 21) (.v (.int .u8 48)))⟩, Ge 20 (Mt 23 22), Gd 23 (Mt 24 4), ⟨(some (23, false)), (.ar 25 .gtr (.t 24) (.v (.int .u8 57)))⟩, Ge 20 (Po 26 23 25), Pa 27 20 26, Mt 28 27, Ge 28 (Mt 29 4), ⟨(some (28, true)), (.ar 30 .neq (.t 29) (.v (.int .u8 45)))⟩, Pa 31 28 30])
 (.cond (.t 31)
 (.seq (.reg [Mb 2 false])
 .ret)
 .skip))))
 (.reg [Mt 9 3, Ai 10 .add 9 1, Mt 3 10]))))))
 (.seq (.reg [Mt 32 0, Lm 33 32, Ai 34 .geq 33 1, Mt 35 34, Ge 35 (Mt 36 0), Ge 35 (Lm 37 36), Ge 35 (Ai 38 .leq 37 20), Pa 39 35 38, Mt 2 39])
 .ret)))
noncomputable def ent58 : TEnt := ⟨58, [.str], .bool, fun x => F58 x, .plain⟩
theorem eq58 (x : dens ent58.as) : ent58.F x = evF [] SHF dc58 [(.tmp 2)] ent58.as ent58.rs x := by kernel_rfl
noncomputable def F22 (a0 : List (Fmt)) : Option (Int) :=
 cond (decide ((16 : Int) < (List.length a0 : Int)))
 (some (13 : Int))
 (loopK (σ := Int) (fun p1 againp1 =>
 cond (decide (p1 < (List.length a0 : Int)))
 (gd (0 ≤ p1 ∧ p1 < (List.length a0 : Int)) <|
 jn (σ := Unit) (fun nextj2 =>
 cond (decide ((0 : Int) < p1))
 (bnd (IntKind.wrap .i64 (p1 - (1 : Int))) fun x3 =>
 gd (0 ≤ x3 ∧ x3 < (List.length a0 : Int)) <|
 cond (decide ((List.getD a0 (Int.toNat p1) (0, (0, (0, (0, ([], ([], []))))))).1 ≤ (List.getD a0 (Int.toNat x3) (0, (0, (0, (0, ([], ([], []))))))).1))
 (some (7 : Int))
 (nextj2 ()))
 (nextj2 ())) fun j2 =>
 jn (σ := Unit × Int × Bool × Unit × Int × Bool × Unit × Int × Bool × Unit × Int × Bool × Bool × Bool × Unit × Int × Bool × Unit × Int × Bool) (fun nextj4 =>
 cond (decide ((List.getD a0 (Int.toNat p1) (0, (0, (0, (0, ([], ([], []))))))).1 < (1 : Int)))
 (some (2 : Int))
 (cond (decide ((9999 : Int) < (List.getD a0 (Int.toNat p1) (0, (0, (0, (0, ([], ([], []))))))).1))
 (some (2 : Int))
 (cond (decide ((List.getD a0 (Int.toNat p1) (0, (0, (0, (0, ([], ([], []))))))).2.1 < (1 : Int)))
 (some (2 : Int))
 (cond (decide ((2199 : Int) < (List.getD a0 (Int.toNat p1) (0, (0, (0, (0, ([], ([], []))))))).2.1))
 (some (2 : Int))
 (cond (!decide ((List.getD a0 (Int.toNat p1) (0, (0, (0, (0, ([], ([], []))))))).2.2.1 = (0 : Int)))
 (cond (decide ((List.getD a0 (Int.toNat p1) (0, (0, (0, (0, ([], ([], []))))))).2.2.1 < (List.getD a0 (Int.toNat p1) (0, (0, (0, (0, ([], ([], []))))))).2.1))
 (some (2 : Int))
 (cond (decide ((2199 : Int) < (List.getD a0 (Int.toNat p1) (0, (0, (0, (0, ([], ([], []))))))).2.2.1))
 (some (2 : Int))
 (cond (decide ((List.getD a0 (Int.toNat p1) (0, (0, (0, (0, ([], ([], []))))))).2.2.2.1 < (0 : Int)))
 (some (2 : Int))
 (cond (decide ((100 : Int) < (List.getD a0 (Int.toNat p1) (0, (0, (0, (0, ([], ([], []))))))).2.2.2.1))
 (some (2 : Int))
 (nextj4 ((), (List.getD a0 (Int.toNat p1) (0, (0, (0, (0, ([], ([], []))))))).1, decide ((9999 : Int) < (List.getD a0 (Int.toNat p1) (0, (0, (0, (0, ([], ([], []))))))).1), (), (List.getD a0 (Int.toNat p1) (0, (0, (0, (0, ([], ([], []))))))).2.1, decide ((List.getD a0 (Int.toNat p1) (0, (0, (0, (0, ([], ([], []))))))).2.1 < (1 : Int)), (), (List.getD a0 (Int.toNat p1) (0, (0, (0, (0, ([], ([], []))))))).2.1, decide ((2199 : Int) < (List.getD a0 (Int.toNat p1) (0, (0, (0, (0, ([], ([], []))))))).2.1), (), (List.getD a0 (Int.toNat p1) (0, (0, (0, (0, ([], ([], []))))))).2.2.1, !decide ((List.getD a0 (Int.toNat p1) (0, (0, (0, (0, ([], ([], []))))))).2.2.1 = (0 : Int)), true, decide ((2199 : Int) < (List.getD a0 (Int.toNat p1) (0, (0, (0, (0, ([], ([], []))))))).2.2.1), (), (List.getD a0 (Int.toNat p1) (0, (0, (0, (0, ([], ([], []))))))).2.2.2.1, decide ((List.getD a0 (Int.toNat p1) (0, (0, (0, (0, ([], ([], []))))))).2.2.2.1 < (0 : Int)), (), (List.getD a0 (Int.toNat p1) (0, (0, (0, (0, ([], ([], []))))))).2.2.2.1, decide ((100 : Int) < (List.getD a0 (Int.toNat p1) (0, (0, (0, (0, ([], ([], []))))))).2.2.2.1)))))))
 (cond (decide ((List.getD a0 (Int.toNat p1) (0, (0, (0, (0, ([], ([], []))))))).2.2.2.1 < (0 : Int)))
 (some (2 : Int))
 (cond (decide ((100 : Int) < (List.getD a0 (Int.toNat p1) (0, (0, (0, (0, ([], ([], []))))))).2.2.2.1))
 (some (2 : Int))
 (nextj4 ((), (List.getD a0 (Int.toNat p1) (0, (0, (0, (0, ([], ([], []))))))).1, decide ((9999 : Int) < (List.getD a0 (Int.toNat p1) (0, (0, (0, (0, ([], ([], []))))))).1), (), (List.getD a0 (Int.toNat p1) (0, (0, (0, (0, ([], ([], []))))))).2.1, decide ((List.getD a0 (Int.toNat p1) (0, (0, (0, (0, ([], ([], []))))))).2.1 < (1 : Int)), (), (List.getD a0 (Int.toNat p1) (0, (0, (0, (0, ([], ([], []))))))).2.1, decide ((2199 : Int) < (List.getD a0 (Int.toNat p1) (0, (0, (0, (0, ([], ([], []))))))).2.1), (), (List.getD a0 (Int.toNat p1) (0, (0, (0, (0, ([], ([], []))))))).2.2.1, !decide ((List.getD a0 (Int.toNat p1) (0, (0, (0, (0, ([], ([], []))))))).2.2.1 = (0 : Int)), false, false, (), (List.getD a0 (Int.toNat p1) (0, (0, (0, (0, ([], ([], []))))))).2.2.2.1, decide ((List.getD a0 (Int.toNat p1) (0, (0, (0, (0, ([], ([], []))))))).2.2.2.1 < (0 : Int)), (), (List.getD a0 (Int.toNat p1) (0, (0, (0, (0, ([], ([], []))))))).2.2.2.1, decide ((100 : Int) < (List.getD a0 (Int.toNat p1) (0, (0, (0, (0, ([], ([], []))))))).2.2.2.1)))))))))) fun j4 =>
 bindO (F58 ((List.getD a0 (Int.toNat p1) (0, (0, (0, (0, ([], ([], []))))))).2.2.2.2.1)) fun y5 =>
 cond (!y5)
 (some (3 : Int))
 (cond (decide ((List.length ((List.getD a0 (Int.toNat p1) (0, (0, (0, (0, ([], ([], []))))))).2.2.2.2.2.1) : Int) < (1 : Int)))
 (some (3 : Int))
 (cond (decide ((16 : Int) < (List.length ((List.getD a0 (Int.toNat p1) (0, (0, (0, (0, ([], ([], []))))))).2.2.2.2.2.1) : Int)))
 (some (3 : Int))
 (bnd (IntKind.wrap .i64 (p1 + (1 : Int))) fun x6 =>
 againp1 x6))))
 (loopK (σ := Int) (fun p7 againp7 =>
 cond (decide (p7 < (List.length a0 : Int)))
 (loopK (σ := Int) (fun p8 againp8 =>
 cond (decide (p8 < p7))
 (gd (0 ≤ p7 ∧ p7 < (List.length a0 : Int)) <|
 gd (0 ≤ p8 ∧ p8 < (List.length a0 : Int)) <|
 cond (decide ((List.getD a0 (Int.toNat p7) (0, (0, (0, (0, ([], ([], []))))))).2.2.2.2.1 = (List.getD a0 (Int.toNat p8) (0, (0, (0, (0, ([], ([], []))))))).2.2.2.2.1))
 (some (7 : Int))
 (gd (0 ≤ p7 ∧ p7 < (List.length a0 : Int)) <|
 gd (0 ≤ p8 ∧ p8 < (List.length a0 : Int)) <|
 cond (decide ((List.getD a0 (Int.toNat p7) (0, (0, (0, (0, ([], ([], []))))))).2.2.2.2.2.1 = (List.getD a0 (Int.toNat p8) (0, (0, (0, (0, ([], ([], []))))))).2.2.2.2.2.1))
 (some (7 : Int))
 (bnd (IntKind.wrap .i64 (p8 + (1 : Int))) fun x9 =>
 againp8 x9)))
 (bnd (IntKind.wrap .i64 (p7 + (1 : Int))) fun x10 =>
 againp7 x10)) (0 : Int))
 (loopK (σ := Int) (fun p11 againp11 =>
 cond (decide (p11 < (List.length a0 : Int)))
 (gd (0 ≤ p11 ∧ p11 < (List.length a0 : Int)) <|
 loopK (σ := Int) (fun p12 againp12 =>
 cond (decide (p12 < (List.length ((List.getD a0 (Int.toNat p11) (0, (0, (0, (0, ([], ([], []))))))).2.2.2.2.2.2) : Int)))
 (gd (0 ≤ p12 ∧ p12 < (List.length ((List.getD a0 (Int.toNat p11) (0, (0, (0, (0, ([], ([], []))))))).2.2.2.2.2.2) : Int)) <|
 bnd (IntKind.wrap .i64 (p12 - (1 : Int))) fun x13 =>
 gd (0 ≤ x13 ∧ x13 < (List.length ((List.getD a0 (Int.toNat p11) (0, (0, (0, (0, ([], ([], []))))))).2.2.2.2.2.2) : Int)) <|
 cond (decide ((List.getD ((List.getD a0 (Int.toNat p11) (0, (0, (0, (0, ([], ([], []))))))).2.2.2.2.2.2) (Int.toNat p12) 0) ≤ (List.getD ((List.getD a0 (Int.toNat p11) (0, (0, (0, (0, ([], ([], []))))))).2.2.2.2.2.2) (Int.toNat x13) 0)))
 (some (7 : Int))
 (bnd (IntKind.wrap .i64 (p12 + (1 : Int))) fun x14 =>
 againp12 x14))
 (loopK (σ := Int) (fun p15 againp15 =>
 cond (decide (p15 < (List.length ((List.getD a0 (Int.toNat p11) (0, (0, (0, (0, ([], ([], []))))))).2.2.2.2.2.2) : Int)))
 (gd (0 ≤ p15 ∧ p15 < (List.length ((List.getD a0 (Int.toNat p11) (0, (0, (0, (0, ([], ([], []))))))).2.2.2.2.2.2) : Int)) <|
 gd (0 ≤ p11 ∧ p11 < (List.length a0 : Int)) <|
 cond (decide ((List.getD ((List.getD a0 (Int.toNat p11) (0, (0, (0, (0, ([], ([], []))))))).2.2.2.2.2.2) (Int.toNat p15) 0) = (List.getD a0 (Int.toNat p11) (0, (0, (0, (0, ([], ([], []))))))).1))
 (some (11 : Int))
 (gd (0 ≤ p15 ∧ p15 < (List.length ((List.getD a0 (Int.toNat p11) (0, (0, (0, (0, ([], ([], []))))))).2.2.2.2.2.2) : Int)) <|
 bindO (F59 a0 (List.getD ((List.getD a0 (Int.toNat p11) (0, (0, (0, (0, ([], ([], []))))))).2.2.2.2.2.2) (Int.toNat p15) 0)) fun y16 =>
 cond (!y16.2)
 (some (9 : Int))
 (bnd (IntKind.wrap .i64 (p15 + (1 : Int))) fun x17 =>
 againp15 x17)))
 (bnd (IntKind.wrap .i64 (p11 + (1 : Int))) fun x18 =>
 againp11 x18)) (0 : Int))) (1 : Int))
 (some (0 : Int))) (0 : Int))) (0 : Int))) (0 : Int))
def dc22 : DC :=
 (.seq (.reg [Mi 2 0])
 (.seq (.seq (.reg [Mt 13 0, Ln 14 72 13, Ai 15 .gtr 14 16])
 (.cond (.t 15)
 (.seq (.reg [Mi 2 13])
 .ret)
 .skip))
 (.seq (.seq (.reg [Mi 3 0])
 (.block 0 (.loop ⟨[(3, (.lf (.int .i64)))], [], [2, 4, 16, 17, 18, 19, 20, 21, 22, 23, 24, 25, 26, 27, 28, 29, 30, 31, 32, 33, 34, 35, 36, 37, 38, 39, 40, 41, 42, 43, 44, 45, 46, 47, 48, 49, 50, 51, 52, 53, 54, 55, 56, 57, 58, 59, 60, 61, 62, 63, 64, 65, 66, 67, 68, 69, 70, 71, 72, 73, 74, 75, 76, 77, 78, 79, 80, 81, 82, 83, 84, 85, 86, 87, 88, 89, 90, 91, 92, 93, 94, 95, 96, 97, 98, 99].map .s ++ [4].map .b⟩ (.seq (.seq (.reg [Mt 16 3, Mt 17 0, Ln 18 72 17, Ar 19 .lss 16 18])
 (.cond (.t 19)
 .skip
 (.exit 0)))
 (.seq (.block 1 (.seq (.reg [Mt 22 0, Mt 23 3, Ea 24 72 22 23, Lt 25 72 24, ⟨none, (.al 4 (.agg 72 [(.int .i64 0), (.int .i64 0), (.int .i64 0), (.int .i64 0), (.str []), (.str []), (.sl none 3 [])]))⟩, Sr 72 4 25])
 (.jn ⟨[], [], [26, 27, 28, 29, 30, 31, 32, 33, 34, 35, 36, 37, 38].map .s⟩ (.seq (.reg [Mt 26 3, Ai 27 .gtr 26 0, Mt 28 27, Ge 28 (Fa 29 72 0 4), Ge 28 (Ld 30 29), Ge 28 (Mt 31 0), Ge 28 (Mt 32 3), Ge 28 (Ai 33 .sub 32 1), Ge 28 (Ea 34 72 31 33), Ge 28 (Fa 35 72 0 34), Ge 28 (Ld 36 35), Ge 28 (Ar 37 .leq 30 36), Pa 38 28 37])
 (.cond (.t 38)
 (.seq (.reg [Mi 2 7])
 .ret)
 .skip))
 (.jn ⟨[(43, (.con (.rf 4 [0]))), (44, (.lf (.int .i64))), (45, (.lf .bool)), (48, (.con (.rf 4 [1]))), (49, (.lf (.int .i64))), (50, (.lf .bool)), (53, (.con (.rf 4 [1]))), (54, (.lf (.int .i64))), (55, (.lf .bool)), (58, (.con (.rf 4 [2]))), (59, (.lf (.int .i64))), (60, (.lf .bool)), (61, (.lf .bool)), (72, (.lf .bool)), (75, (.con (.rf 4 [3]))), (76, (.lf (.int .i64))), (77, (.lf .bool)), (80, (.con (.rf 4 [3]))), (81, (.lf (.int .i64))), (82, (.lf .bool))], [], [39, 40, 41, 42, 46, 47, 51, 52, 56, 57, 62, 63, 64, 65, 66, 67, 68, 69, 70, 71, 73, 74, 78, 79, 83].map .s⟩ (.seq (.reg [Fa 39 72 0 4, Ld 40 39, Ai 41 .lss 40 1, Mt 42 41, Gd 42 (Fa 43 72 0 4), Gd 42 (Ld 44 43), Gd 42 (Ai 45 .gtr 44 9999), Po 46 42 45, Mt 47 46, Gd 47 (Fa 48 72 1 4), Gd 47 (Ld 49 48), Gd 47 (Ai 50 .lss 49 1), Po 51 47 50, Mt 52 51, Gd 52 (Fa 53 72 1 4), Gd 52 (Ld 54 53), Gd 52 (Ai 55 .gtr 54 2199), Po 56 52 55, Mt 57 56, Gd 57 (Fa 58 72 2 4), Gd 57 (Ld 59 58), Gd 57 (Ai 60 .neq 59 0), Gd 57 (Mt 61 60), Ge 61 (Fa 62 72 2 4), Ge 61 (Ld 63 62), Ge 61 (Fa 64 72 1 4), Ge 61 (Ld 65 64), Ge 61 (Ar 66 .lss 63 65), Ge 61 (Mt 67 66), Gd 67 (Fa 68 72 2 4), Gd 67 (Ld 69 68), Gd 67 (Ai 70 .gtr 69 2199), Ge 61 (Po 71 67 70), Gd 57 (Pa 72 61 71), Po 73 57 72, Mt 74 73, Gd 74 (Fa 75 72 3 4), Gd 74 (Ld 76 75), Gd 74 (Ai 77 .lss 76 0), Po 78 74 77, Mt 79 78, Gd 79 (Fa 80 72 3 4), Gd 79 (Ld 81 80), Gd 79 (Ai 82 .gtr 81 100), Po 83 79 82])
 (.cond (.t 83)
 (.seq (.reg [Mi 2 2])
 .ret)
 .skip))
 (.seq (.reg [Fa 84 72 4 4, Ld 85 84, Ca 86 58 85, Un 87 86, Mt 88 87, Gd 88 (Fa 89 72 5 4), Gd 88 (Ld 90 89), Gd 88 (Lm 91 90), Gd 88 (Ai 92 .lss 91 1), Po 93 88 92, Mt 94 93, Gd 94 (Fa 95 72 5 4), Gd 94 (Ld 96 95), Gd 94 (Lm 97 96), Gd 94 (Ai 98 .gtr 97 16), Po 99 94 98])
 (.cond (.t 99)
 (.seq (.reg [Mi 2 3])
 .ret)
 .skip))))))
 (.reg [Mt 20 3, Ai 21 .add 20 1, Mt 3 21]))))))
 (.seq (.seq (.reg [Mi 5 0])
 (.block 2 (.loop ⟨[(5, (.lf (.int .i64)))], [], [2, 6, 100, 101, 102, 103, 104, 105, 106, 107, 108, 109, 110, 111, 112, 113, 114, 115, 116, 117, 118, 119, 120, 121, 122, 123, 124, 125, 126, 127, 128, 129, 130, 131, 132, 133, 134].map .s⟩ (.seq (.seq (.reg [Mt 100 5, Mt 101 0, Ln 102 72 101, Ar 103 .lss 100 102])
 (.cond (.t 103)
 .skip
 (.exit 2)))
 (.seq (.block 3 (.seq (.reg [Mi 6 0])
 (.block 4 (.loop ⟨[(6, (.lf (.int .i64)))], [], [2, 106, 107, 108, 109, 110, 111, 112, 113, 114, 115, 116, 117, 118, 119, 120, 121, 122, 123, 124, 125, 126, 127, 128, 129, 130, 131, 132, 133, 134].map .s⟩ (.seq (.seq (.reg [Mt 106 6, Mt 107 5, Ar 108 .lss 106 107])
 (.cond (.t 108)
 .skip
 (.exit 4)))
 (.seq (.block 5 (.seq (.reg [Mt 111 0, Mt 112 5, Ea 113 72 111 112, Fa 114 72 4 113, Ld 115 114, Mt 116 0, Mt 117 6, Ea 118 72 116 117, Fa 119 72 4 118, Ld 120 119, Ar 121 .eql 115 120, Mt 122 121, Gd 122 (Mt 123 0), Gd 122 (Mt 124 5), Gd 122 (Ea 125 72 123 124), Gd 122 (Fa 126 72 5 125), Gd 122 (Ld 127 126), Gd 122 (Mt 128 0), Gd 122 (Mt 129 6), Gd 122 (Ea 130 72 128 129), Gd 122 (Fa 131 72 5 130), Gd 122 (Ld 132 131), Gd 122 (Ar 133 .eql 127 132), Po 134 122 133])
 (.cond (.t 134)
 (.seq (.reg [Mi 2 7])
 .ret)
 .skip)))
 (.reg [Mt 109 6, Ai 110 .add 109 1, Mt 6 110])))))))
 (.reg [Mt 104 5, Ai 105 .add 104 1, Mt 5 105]))))))
 (.seq (.seq (.reg [Mi 7 0])
 (.block 6 (.loop ⟨[(7, (.lf (.int .i64)))], [], [2, 8, 9, 10, 11, 12, 135, 136, 137, 138, 139, 140, 141, 142, 143, 144, 145, 146, 147, 148, 149, 150, 151, 152, 153, 154, 155, 156, 157, 158, 159, 160, 161, 162, 163, 164, 165, 166, 167, 168, 169, 170, 171, 172, 173, 174, 175, 176, 177, 178, 179, 180, 181, 182, 183, 184, 185, 186, 187, 188].map .s ++ [11].map .b⟩ (.seq (.seq (.reg [Mt 135 7, Mt 136 0, Ln 137 72 136, Ar 138 .lss 135 137])
 (.cond (.t 138)
 .skip
 (.exit 6)))
 (.seq (.block 7 (.seq (.reg [Mt 141 0, Mt 142 7, Ea 143 72 141 142, Fa 144 72 6 143, Ld 145 144, Mt 8 145])
 (.seq (.seq (.reg [Mi 9 1])
 (.block 8 (.loop ⟨[(9, (.lf (.int .i64)))], [], [2, 146, 147, 148, 149, 150, 151, 152, 153, 154, 155, 156, 157, 158, 159, 160, 161].map .s⟩ (.seq (.seq (.reg [Mt 146 9, Mt 147 8, Ln 148 3 147, Ar 149 .lss 146 148])
 (.cond (.t 149)
 .skip
 (.exit 8)))
 (.seq (.block 9 (.seq (.reg [Mt 152 8, Mt 153 9, Ea 154 3 152 153, Ld 155 154, Mt 156 8, Mt 157 9, Ai 158 .sub 157 1, Ea 159 3 156 158, Ld 160 159, Ar 161 .leq 155 160])
 (.cond (.t 161)
 (.seq (.reg [Mi 2 7])
 .ret)
 .skip)))
 (.reg [Mt 150 9, Ai 151 .add 150 1, Mt 9 151]))))))
 (.seq (.reg [Mi 10 0])
 (.block 10 (.loop ⟨[(10, (.lf (.int .i64)))], [], [2, 11, 12, 162, 163, 164, 165, 166, 167, 168, 169, 170, 171, 172, 173, 174, 175, 176, 177, 178, 179, 180, 181, 182, 183, 184, 185, 186, 187, 188].map .s ++ [11].map .b⟩ (.seq (.seq (.reg [Mt 162 10, Mt 163 8, Ln 164 3 163, Ar 165 .lss 162 164])
 (.cond (.t 165)
 .skip
 (.exit 10)))
 (.seq (.block 11 (.seq (.seq (.reg [Mt 168 8, Mt 169 10, Ea 170 3 168 169, Ld 171 170, Mt 172 0, Mt 173 7, Ea 174 72 172 173, Fa 175 72 0 174, Ld 176 175, Ar 177 .eql 171 176])
 (.cond (.t 177)
 (.seq (.reg [Mi 2 11])
 .ret)
 .skip))
 (.seq (.reg [Mt 179 0, Mt 180 8, Mt 181 10, Ea 182 3 180 181, Ld 183 182, Cb 184 59 179 183, Mt 178 184, Ex 185 0 178, Ex 186 1 178, ⟨none, (.al 11 (.agg 72 [(.int .i64 0), (.int .i64 0), (.int .i64 0), (.int .i64 0), (.str []), (.str []), (.sl none 3 [])]))⟩, Sr 72 11 185, Mt 12 186])
 (.seq (.reg [Mt 187 12, Un 188 187])
 (.cond (.t 188)
 (.seq (.reg [Mi 2 9])
 .ret)
 .skip)))))
 (.reg [Mt 166 10, Ai 167 .add 166 1, Mt 10 167])))))))))
 (.reg [Mt 139 7, Ai 140 .add 139 1, Mt 7 140]))))))
 (.seq (.reg [Mi 2 0])
 .ret))))))
noncomputable def ent22 : TEnt := ⟨22, [(.sl 72 shFmt)], (.int .i64), fun x => F22 x, .plain⟩
theorem eq22 (x : dens ent22.as) : ent22.F x = evF [ent58, ent59] SHF dc22 [(.tmp 2)] ent22.as ent22.rs x := by kernel_rfl
noncomputable def F74 (a0 : Fix) : Option (List UInt8) :=
 jn (σ := List UInt8) (fun nextj1 =>
 cond (a0.2.2.2.2.2)
 (nextj1 ([49] : List UInt8))
 (nextj1 ([48] : List UInt8))) fun j1 =>
 bindO (fItoa a0.1) fun y2 =>
 bindO (fItoa a0.2.1) fun y3 =>
 bindO (fItoa a0.2.2.1) fun y4 =>
 bindO (fJoin [y2, y3, y4, j1, a0.2.2.2.1] ([32] : List UInt8)) fun y5 =>
 some y5
def dc74 : DC :=
 (.seq (.reg [Bx 1 65 0, ⟨none, (.mv (some 2) (.v (.str [])))⟩])
 (.seq (.reg [⟨none, (.mv (some 3) (.v (.str [48])))⟩])
 (.jn ⟨[(3, (.lf .str))], [], [4, 5].map .s⟩ (.seq (.reg [Fa 4 65 5 1, Ld 5 4])
 (.cond (.t 5)
 (.reg [⟨none, (.mv (some 3) (.v (.str [49])))⟩])
 .skip))
 (.seq (.reg [Fa 6 65 0 1, Ld 7 6, Ca 8 92 7, Fa 9 65 1 1, Ld 10 9, Ca 11 92 10, Fa 12 65 2 1, Ld 13 12, Ca 14 92 13, Mt 15 3, Fa 16 65 3 1, Ld 17 16, ⟨none, (.bs 18 9 none [(.t 8), (.t 11), (.t 14), (.t 15), (.t 17)])⟩, ⟨none, (.ca (some 19) 91 [(.t 18), (.v (.str [32]))])⟩, Mt 2 19])
 .ret))))
noncomputable def ent74 : TEnt := ⟨74, [shFix], .str, fun x => F74 x, .plain⟩
theorem eq74 (x : dens ent74.as) : ent74.F x = evF [entJoin, entItoa] SHF dc74 [(.tmp 2)] ent74.as ent74.rs x := by kernel_rfl
noncomputable def F33 (a0 : Obj) : Option (Bool) :=
 loopK (σ := List UInt8 × Int) (fun p1 againp1 =>
 cond (decide (p1.2 < (List.length a0.2.2.2.1 : Int)))
 (gd (0 ≤ p1.2 ∧ p1.2 < (List.length a0.2.2.2.1 : Int)) <|
 bindO (F74 (List.getD a0.2.2.2.1 (Int.toNat p1.2) (0, (0, (0, ([], ([], false))))))) fun y2 =>
 gd (List.length p1.1 + List.length y2 ≤ big) <|
 bnd (p1.1 ++ y2) fun x3 =>
 bindO (F73 x3) fun y4 =>
 cond (!decide ((List.getD a0.2.2.2.1 (Int.toNat p1.2) (0, (0, (0, ([], ([], false)))))).2.2.2.2.1 = y4))
 (some false)
 (bnd (IntKind.wrap .i64 (p1.2 + (1 : Int))) fun x5 =>
 againp1 ((List.getD a0.2.2.2.1 (Int.toNat p1.2) (0, (0, (0, ([], ([], false)))))).2.2.2.2.1, x5)))
 (some true)) (([] : List UInt8), (0 : Int))
def dc33 : DC :=
 (.seq (.reg [Bx 1 32 0, Mb 2 false])
 (.seq (.reg [⟨none, (.mv (some 3) (.v (.str [])))⟩])
 (.seq (.seq (.reg [Fa 6 32 3 1, Ld 7 6, Ln 8 65 7, Mi 9 0])
 (.block 0 (.loop ⟨[(3, (.lf .str)), (9, (.lf (.int .i64)))], [], [2, 5, 10, 11, 12, 13, 14, 15, 16, 17, 18, 19, 20, 21, 22, 23].map .s ++ [5].map .b⟩ (.seq (.reg [Ar 10 .lss 9 8])
 (.seq (.cond (.t 10)
 .skip
 (.exit 0))
 (.seq (.block 1 (.seq (.reg [Ea 11 65 7 9, Lt 12 65 11, ⟨none, (.al 5 (.agg 65 [(.int .i64 0), (.int .i64 0), (.int .i64 0), (.str []), (.str []), (.bool false)]))⟩, Sr 65 5 12])
 (.seq (.seq (.reg [Fa 13 65 4 5, Ld 14 13, Mt 15 3, Lt 16 65 5, Ca 17 74 16, Ar 18 .add 15 17, Ca 19 73 18, Ar 20 .neq 14 19])
 (.cond (.t 20)
 (.seq (.reg [Mb 2 false])
 .ret)
 .skip))
 (.reg [Fa 21 65 4 5, Ld 22 21, Mt 3 22]))))
 (.reg [Ai 23 .add 9 1, Mt 9 23])))))))
 (.seq (.reg [Mb 2 true])
 .ret))))
noncomputable def ent33 : TEnt := ⟨33, [shObj], .bool, fun x => F33 x, .plain⟩
theorem eq33 (x : dens ent33.as) : ent33.F x = evF [ent73, ent74] SHF dc33 [(.tmp 2)] ent33.as ent33.rs x := by kernel_rfl
noncomputable def F48 (a0 : Edn) (a1 : Int) : Option (Int) :=
 jn (σ := Bool) (fun nextj1 =>
 bindO (F36 a0.1) fun y2 =>
 cond (!y2)
 (nextj1 true)
 (bindO (F37 a0.2.2.1) fun y3 =>
 nextj1 (!y3))) fun j1 =>
 cond (j1)
 (some (2 : Int))
 (jn (σ := Bool) (fun nextj4 =>
 cond (decide (a1 = (0 : Int)))
 (cond (!decide (a0.2.1 = (-1 : Int)))
 (nextj4 true)
 (cond (decide ((0 : Int) < a1))
 (cond (decide (a0.2.1 < (0 : Int)))
 (nextj4 true)
 (nextj4 (decide (a1 ≤ a0.2.1))))
 (nextj4 false)))
 (cond (decide ((0 : Int) < a1))
 (cond (decide (a0.2.1 < (0 : Int)))
 (nextj4 true)
 (nextj4 (decide (a1 ≤ a0.2.1))))
 (nextj4 false))) fun j4 =>
 cond (j4)
 (some (1 : Int))
 (bindO (F82 a0.2.2.2.1) fun y5 =>
 cond (!y5)
 (some (3 : Int))
 (bindO (F38 a0.2.2.2.2) fun y6 =>
 some y6)))
def dc48 : DC :=
 (.seq (.reg [Bx 2 63 0, Mi 4 0])
 (.seq (.block 0 (.jn ⟨[(5, (.lf .bool))], [], [6, 7, 8, 9, 10, 11, 12, 13, 14, 15].map .s⟩ (.reg [Fa 6 63 0 2, Ld 7 6, Ca 8 36 7, Un 9 8, Mt 10 9, Gd 10 (Fa 11 63 2 2), Gd 10 (Ld 12 11), Gd 10 (Ca 13 37 12), Gd 10 (Un 14 13), Po 15 10 14, Mt 5 15])
 (.cond (.t 5)
 (.seq (.reg [Mi 4 2])
 .ret)
 (.jn ⟨[(16, (.lf .bool))], [], [17, 18, 19, 20, 21, 22, 23, 24, 25, 26, 27, 28, 29, 30, 31, 32, 33, 34, 35, 36, 37, 38].map .s⟩ (.reg [Mt 17 1, Ai 18 .eql 17 0, Mt 19 18, Ge 19 (Fa 20 63 1 2), Ge 19 (Ld 21 20), Ge 19 (Ai 22 .neq 21 (-1)), Pa 23 19 22, Mt 24 23, Gd 24 (Mt 25 1), Gd 24 (Ai 26 .gtr 25 0), Gd 24 (Mt 27 26), Ge 27 (Fa 28 63 1 2), Ge 27 (Ld 29 28), Ge 27 (Ai 30 .lss 29 0), Ge 27 (Mt 31 30), Gd 31 (Fa 32 63 1 2), Gd 31 (Ld 33 32), Gd 31 (Mt 34 1), Gd 31 (Ar 35 .geq 33 34), Ge 27 (Po 36 31 35), Gd 24 (Pa 37 27 36), Po 38 24 37, Mt 16 38])
 (.cond (.t 16)
 (.seq (.reg [Mi 4 1])
 .ret)
 (.seq (.reg [Fa 40 63 3 2, Ld 41 40, Ca 42 82 41, Un 43 42, Mt 39 43])
 (.cond (.t 39)
 (.seq (.reg [Mi 4 3])
 .ret)
 .skip)))))))
 (.seq (.reg [Fa 44 63 4 2, Ld 45 44, Ca 46 38 45, Mt 4 46])
 .ret)))
noncomputable def ent48 : TEnt := ⟨48, [shEdn, (.int .i64)], (.int .i64), fun x => F48 x.1 x.2, .plain⟩
theorem eq48 (x : dens ent48.as) : ent48.F x = evF [ent36, ent37, ent38, ent82] SHF dc48 [(.tmp 4)] ent48.as ent48.rs x := by kernel_rfl
noncomputable def F49 (a0 : Obj) : Option (Bool) :=
 loopK (σ := Int × Int) (fun p1 againp1 =>
 cond (decide (p1.2 < (List.length a0.2.2.2.1 : Int)))
 (gd (0 ≤ p1.2 ∧ p1.2 < (List.length a0.2.2.2.1 : Int)) <|
 cond (decide ((List.getD a0.2.2.2.1 (Int.toNat p1.2) (0, (0, (0, ([], ([], false)))))).2.1 < (1 : Int)))
 (some false)
 (cond (decide ((4 : Int) < (List.getD a0.2.2.2.1 (Int.toNat p1.2) (0, (0, (0, ([], ([], false)))))).2.1))
 (some false)
 (cond (decide ((List.getD a0.2.2.2.1 (Int.toNat p1.2) (0, (0, (0, ([], ([], false)))))).2.2.1 < (0 : Int)))
 (some false)
 (cond (decide ((List.length a0.2.2.1 : Int) ≤ (List.getD a0.2.2.2.1 (Int.toNat p1.2) (0, (0, (0, ([], ([], false)))))).2.2.1))
 (some false)
 (bindO (F37 ((List.getD a0.2.2.2.1 (Int.toNat p1.2) (0, (0, (0, ([], ([], false)))))).1)) fun y2 =>
 cond (!y2)
 (some false)
 (cond (decide ((List.getD a0.2.2.2.1 (Int.toNat p1.2) (0, (0, (0, ([], ([], false)))))).1 < p1.1))
 (some false)
 (bindO (F82 ((List.getD a0.2.2.2.1 (Int.toNat p1.2) (0, (0, (0, ([], ([], false)))))).2.2.2.1)) fun y3 =>
 cond (!y3)
 (some false)
 (bnd (IntKind.wrap .i64 (p1.2 + (1 : Int))) fun x4 =>
 againp1 ((List.getD a0.2.2.2.1 (Int.toNat p1.2) (0, (0, (0, ([], ([], false)))))).1, x4)))))))))
 (some true)) ((0 : Int), (0 : Int))
def dc49 : DC :=
 (.seq (.reg [Bx 1 32 0, Mb 2 false])
 (.seq (.reg [Mi 3 0])
 (.seq (.seq (.reg [Fa 6 32 3 1, Ld 7 6, Ln 8 65 7, Mi 9 0])
 (.block 0 (.loop ⟨[(3, (.lf (.int .i64))), (9, (.lf (.int .i64)))], [], [2, 5, 10, 11, 12, 13, 14, 15, 16, 17, 18, 19, 20, 21, 22, 23, 24, 25, 26, 27, 28, 29, 30, 31, 32, 33, 34, 35, 36, 37, 38, 39, 40, 41, 42, 43, 44, 45, 46, 47, 48, 49, 50, 51, 52, 53, 54].map .s ++ [5].map .b⟩ (.seq (.reg [Ar 10 .lss 9 8])
 (.seq (.cond (.t 10)
 .skip
 (.exit 0))
 (.seq (.block 1 (.seq (.reg [Ea 11 65 7 9, Lt 12 65 11, ⟨none, (.al 5 (.agg 65 [(.int .i64 0), (.int .i64 0), (.int .i64 0), (.str []), (.str []), (.bool false)]))⟩, Sr 65 5 12])
 (.seq (.seq (.reg [Fa 13 65 1 5, Ld 14 13, Ai 15 .lss 14 1, Mt 16 15, Gd 16 (Fa 17 65 1 5), Gd 16 (Ld 18 17), Gd 16 (Ai 19 .gtr 18 4), Po 20 16 19, Mt 21 20, Gd 21 (Fa 22 65 2 5), Gd 21 (Ld 23 22), Gd 21 (Ai 24 .lss 23 0), Po 25 21 24, Mt 26 25, Gd 26 (Fa 27 65 2 5), Gd 26 (Ld 28 27), Gd 26 (Fa 29 32 2 1), Gd 26 (Ld 30 29), Gd 26 (Ln 31 63 30), Gd 26 (Ar 32 .geq 28 31), Po 33 26 32, Mt 34 33, Gd 34 (Fa 35 65 0 5), Gd 34 (Ld 36 35), Gd 34 (Ca 37 37 36), Gd 34 (Un 38 37), Po 39 34 38, Mt 40 39, Gd 40 (Fa 41 65 0 5), Gd 40 (Ld 42 41), Gd 40 (Mt 43 3), Gd 40 (Ar 44 .lss 42 43), Po 45 40 44, Mt 46 45, Gd 46 (Fa 47 65 3 5), Gd 46 (Ld 48 47), Gd 46 (Ca 49 82 48), Gd 46 (Un 50 49), Po 51 46 50])
 (.cond (.t 51)
 (.seq (.reg [Mb 2 false])
 .ret)
 .skip))
 (.reg [Fa 52 65 0 5, Ld 53 52, Mt 3 53]))))
 (.reg [Ai 54 .add 9 1, Mt 9 54])))))))
 (.seq (.reg [Mb 2 true])
 .ret))))
noncomputable def ent49 : TEnt := ⟨49, [shObj], .bool, fun x => F49 x, .plain⟩
theorem eq49 (x : dens ent49.as) : ent49.F x = evF [ent37, ent82] SHF dc49 [(.tmp 2)] ent49.as ent49.rs x := by kernel_rfl
noncomputable def F50 (a0 : Obj) : Option (Bool) :=
 loopK (σ := Int × Int) (fun p1 againp1 =>
 cond (decide (p1.2 < (List.length a0.2.2.2.1 : Int)))
 (gd (0 ≤ p1.2 ∧ p1.2 < (List.length a0.2.2.2.1 : Int)) <|
 jn (σ := Unit) (fun nextj2 =>
 cond (!decide ((List.getD a0.2.2.2.1 (Int.toNat p1.2) (0, (0, (0, ([], ([], false)))))).2.1 = (1 : Int)))
 (cond (!decide ((List.getD a0.2.2.2.1 (Int.toNat p1.2) (0, (0, (0, ([], ([], false)))))).2.1 = (3 : Int)))
 (bnd (IntKind.wrap .i64 (p1.2 + (1 : Int))) fun x3 =>
 againp1 (p1.1, x3))
 (nextj2 ()))
 (nextj2 ())) fun j2 =>
 cond (decide (p1.1 = (List.length a0.2.2.1 : Int)))
 (some false)
 (cond (!decide ((List.getD a0.2.2.2.1 (Int.toNat p1.2) (0, (0, (0, ([], ([], false)))))).2.2.1 = p1.1))
 (some false)
 (cond (!((decide ((List.getD a0.2.2.2.1 (Int.toNat p1.2) (0, (0, (0, ([], ([], false)))))).2.1 = (1 : Int))) == (decide (p1.1 = (0 : Int)))))
 (some false)
 (cond (!((List.getD a0.2.2.2.1 (Int.toNat p1.2) (0, (0, (0, ([], ([], false)))))).2.2.2.2.2))
 (some false)
 (gd (0 ≤ p1.1 ∧ p1.1 < (List.length a0.2.2.1 : Int)) <|
 cond (!decide ((List.getD a0.2.2.2.1 (Int.toNat p1.2) (0, (0, (0, ([], ([], false)))))).2.2.2.1 = (List.getD a0.2.2.1 (Int.toNat p1.1) (0, (0, (0, ([], []))))).2.2.2.1))
 (some false)
 (gd (0 ≤ p1.1 ∧ p1.1 < (List.length a0.2.2.1 : Int)) <|
 cond (!decide ((List.getD a0.2.2.2.1 (Int.toNat p1.2) (0, (0, (0, ([], ([], false)))))).1 = (List.getD a0.2.2.1 (Int.toNat p1.1) (0, (0, (0, ([], []))))).2.2.1))
 (some false)
 (bnd (IntKind.wrap .i64 (p1.1 + (1 : Int))) fun x4 =>
 bnd (IntKind.wrap .i64 (p1.2 + (1 : Int))) fun x5 =>
 againp1 (x4, x5))))))))
 (some (decide (p1.1 = (List.length a0.2.2.1 : Int))))) ((0 : Int), (0 : Int))
def dc50 : DC :=
 (.seq (.reg [Bx 1 32 0, Mb 2 false])
 (.seq (.reg [Mi 3 0])
 (.seq (.seq (.reg [Fa 6 32 3 1, Ld 7 6, Ln 8 65 7, Mi 9 0])
 (.block 0 (.loop ⟨[(3, (.lf (.int .i64))), (9, (.lf (.int .i64)))], [], [2, 5, 10, 11, 12, 13, 14, 15, 16, 17, 18, 19, 20, 21, 22, 23, 24, 25, 26, 27, 28, 29, 30, 31, 32, 33, 34, 35, 36, 37, 38, 39, 40, 41, 42, 43, 44, 45, 46, 47, 48, 49, 50, 51, 52, 53, 54, 55, 56, 57, 58, 59, 60, 61, 62, 63, 64, 65, 66, 67, 68, 69].map .s ++ [5].map .b⟩ (.seq (.reg [Ar 10 .lss 9 8])
 (.seq (.cond (.t 10)
 .skip
 (.exit 0))
 (.seq (.block 1 (.seq (.reg [Ea 11 65 7 9, Lt 12 65 11, ⟨none, (.al 5 (.agg 65 [(.int .i64 0), (.int .i64 0), (.int .i64 0), (.str []), (.str []), (.bool false)]))⟩, Sr 65 5 12])
 (.jn ⟨[], [], [13, 14, 15, 16, 17, 18, 19, 20].map .s⟩ (.seq (.reg [Fa 13 65 1 5, Ld 14 13, Ai 15 .neq 14 1, Mt 16 15, Ge 16 (Fa 17 65 1 5), Ge 16 (Ld 18 17), Ge 16 (Ai 19 .neq 18 3), Pa 20 16 19])
 (.cond (.t 20)
 (.exit 1)
 .skip))
 (.seq (.seq (.reg [Mt 21 3, Fa 22 32 2 1, Ld 23 22, Ln 24 63 23, Ar 25 .eql 21 24, Mt 26 25, Gd 26 (Fa 27 65 2 5), Gd 26 (Ld 28 27), Gd 26 (Mt 29 3), Gd 26 (Ar 30 .neq 28 29), Po 31 26 30, Mt 32 31, Gd 32 (Fa 33 65 1 5), Gd 32 (Ld 34 33), Gd 32 (Ai 35 .eql 34 1), Gd 32 (Mt 36 3), Gd 32 (Ai 37 .eql 36 0), ⟨(some (32, false)), (.eb 38 true (.t 35) (.t 37))⟩, Po 39 32 38, Mt 40 39, Gd 40 (Fa 41 65 5 5), Gd 40 (Ld 42 41), Gd 40 (Un 43 42), Po 44 40 43, Mt 45 44, Gd 45 (Fa 46 65 3 5), Gd 45 (Ld 47 46), Gd 45 (Fa 48 32 2 1), Gd 45 (Ld 49 48), Gd 45 (Mt 50 3), Gd 45 (Ea 51 63 49 50), Gd 45 (Fa 52 63 3 51), Gd 45 (Ld 53 52), Gd 45 (Ar 54 .neq 47 53), Po 55 45 54, Mt 56 55, Gd 56 (Fa 57 65 0 5), Gd 56 (Ld 58 57), Gd 56 (Fa 59 32 2 1), Gd 56 (Ld 60 59), Gd 56 (Mt 61 3), Gd 56 (Ea 62 63 60 61), Gd 56 (Fa 63 63 2 62), Gd 56 (Ld 64 63), Gd 56 (Ar 65 .neq 58 64), Po 66 56 65])
 (.cond (.t 66)
 (.seq (.reg [Mb 2 false])
 .ret)
 .skip))
 (.reg [Mt 67 3, Ai 68 .add 67 1, Mt 3 68])))))
 (.reg [Ai 69 .add 9 1, Mt 9 69])))))))
 (.seq (.reg [Mt 70 3, Fa 71 32 2 1, Ld 72 71, Ln 73 63 72, Ar 74 .eql 70 73, Mt 2 74])
 .ret))))
noncomputable def ent50 : TEnt := ⟨50, [shObj], .bool, fun x => F50 x, .plain⟩
theorem eq50 (x : dens ent50.as) : ent50.F x = evF [] SHF dc50 [(.tmp 2)] ent50.as ent50.rs x := by kernel_rfl
noncomputable def F15 (a0 : Obj) : Option (Int) :=
 jn (σ := Bool) (fun nextj1 =>
 bindO (F36 a0.1) fun y2 =>
 cond (!y2)
 (nextj1 true)
 (bindO (F36 a0.2.1) fun y3 =>
 nextj1 (!y3))) fun j1 =>
 cond (j1)
 (some (2 : Int))
 (cond (decide ((List.length a0.2.2.1 : Int) = (0 : Int)))
 (some (8 : Int))
 (cond (decide ((8 : Int) < (List.length a0.2.2.1 : Int)))
 (some (13 : Int))
 (cond (decide ((64 : Int) < (List.length a0.2.2.2.1 : Int)))
 (some (13 : Int))
 (loopK (σ := Int) (fun p4 againp4 =>
 cond (decide (p4 < (List.length a0.2.2.1 : Int)))
 (gd (0 ≤ p4 ∧ p4 < (List.length a0.2.2.1 : Int)) <|
 bindO (F48 (List.getD a0.2.2.1 (Int.toNat p4) (0, (0, (0, ([], []))))) p4) fun y5 =>
 cond (!decide (y5 = (0 : Int)))
 (some y5)
 (bnd (IntKind.wrap .i64 (p4 + (1 : Int))) fun x6 =>
 againp4 x6))
 (bindO (F39 a0.2.2.2.2) fun y7 =>
 cond (!decide (y7 = (0 : Int)))
 (some y7)
 (bindO (F49 a0) fun y8 =>
 cond (!y8)
 (some (1 : Int))
 (bindO (F33 a0) fun y9 =>
 cond (!y9)
 (some (19 : Int))
 (bindO (F50 a0) fun y10 =>
 cond (!y10)
 (some (19 : Int))
 (some (0 : Int))))))) (0 : Int)))))
def dc15 : DC :=
 (.seq (.reg [Bx 1 32 0, Mi 2 0])
 (.seq (.block 0 (.jn ⟨[(7, (.lf .bool))], [], [8, 9, 10, 11, 12, 13, 14, 15, 16, 17].map .s⟩ (.reg [Fa 8 32 0 1, Ld 9 8, Ca 10 36 9, Un 11 10, Mt 12 11, Gd 12 (Fa 13 32 1 1), Gd 12 (Ld 14 13), Gd 12 (Ca 15 36 14), Gd 12 (Un 16 15), Po 17 12 16, Mt 7 17])
 (.cond (.t 7)
 (.seq (.reg [Mi 2 2])
 .ret)
 (.seq (.reg [Fa 19 32 2 1, Ld 20 19, Ln 21 63 20, Ai 22 .eql 21 0, Mt 18 22])
 (.cond (.t 18)
 (.seq (.reg [Mi 2 8])
 .ret)
 (.seq (.reg [Fa 24 32 2 1, Ld 25 24, Ln 26 63 25, Ai 27 .gtr 26 8, Mt 28 27, Gd 28 (Fa 29 32 3 1), Gd 28 (Ld 30 29), Gd 28 (Ln 31 65 30), Gd 28 (Ai 32 .gtr 31 64), Po 33 28 32, Mt 23 33])
 (.cond (.t 23)
 (.seq (.reg [Mi 2 13])
 .ret)
 .skip)))))))
 (.seq (.seq (.reg [Fa 34 32 2 1, Ld 35 34, Ln 36 63 35, Mi 37 0])
 (.block 1 (.loop ⟨[(37, (.lf (.int .i64)))], [], [2, 3, 4, 5, 38, 39, 40, 41, 42, 43, 44, 45, 46, 47, 48].map .s ++ [4].map .b⟩ (.seq (.reg [Ar 38 .lss 37 36])
 (.seq (.cond (.t 38)
 .skip
 (.exit 1))
 (.seq (.block 2 (.seq (.reg [Mt 39 37, Ea 40 63 35 37, Lt 41 63 40, ⟨none, (.al 4 (.agg 63 [(.int .i64 0), (.int .i64 0), (.int .i64 0), (.str []), (.sl none 70 [])]))⟩, Mt 3 39, Sr 63 4 41])
 (.seq (.reg [Lt 42 63 4, Mt 43 3, Cb 44 48 42 43, Mt 5 44])
 (.seq (.reg [Mt 45 5, Ai 46 .neq 45 0])
 (.cond (.t 46)
 (.seq (.reg [Mt 47 5, Mt 2 47])
 .ret)
 .skip)))))
 (.reg [Ai 48 .add 37 1, Mt 37 48])))))))
 (.seq (.seq (.reg [Fa 49 32 4 1, Lt 50 24 49, Ca 51 39 50, Mt 6 51])
 (.seq (.reg [Mt 52 6, Ai 53 .neq 52 0])
 (.cond (.t 53)
 (.seq (.reg [Mt 54 6, Mt 2 54])
 .ret)
 .skip)))
 (.seq (.block 3 (.seq (.reg [Lt 56 32 1, Ca 57 49 56, Un 58 57, Mt 55 58])
 (.cond (.t 55)
 (.seq (.reg [Mi 2 1])
 .ret)
 (.seq (.reg [Lt 60 32 1, Ca 61 33 60, Un 62 61, Mt 63 62, Gd 63 (Lt 64 32 1), Gd 63 (Ca 65 50 64), Gd 63 (Un 66 65), Po 67 63 66, Mt 59 67])
 (.cond (.t 59)
 (.seq (.reg [Mi 2 19])
 .ret)
 .skip)))))
 (.seq (.reg [Mi 2 0])
 .ret))))))
noncomputable def ent15 : TEnt := ⟨15, [shObj], (.int .i64), fun x => F15 x, .plain⟩
theorem eq15 (x : dens ent15.as) : ent15.F x = evF [ent33, ent36, ent39, ent48, ent49, ent50] SHF dc15 [(.tmp 2)] ent15.as ent15.rs x := by kernel_rfl
noncomputable def F21 (a0 : Obj) : Option (Int) :=
 bnd (IntKind.wrap .i64 ((List.length a0.2.2.1 : Int) - (1 : Int))) fun x1 =>
 some x1
def dc21 : DC :=
 (.seq (.reg [Bx 1 32 0, Mi 2 0])
 (.seq (.reg [Fa 3 32 2 1, Ld 4 3, Ln 5 63 4, Ai 6 .sub 5 1, Mt 2 6])
 .ret))
noncomputable def ent21 : TEnt := ⟨21, [shObj], (.int .i64), fun x => F21 x, .plain⟩
theorem eq21 (x : dens ent21.as) : ent21.F x = evF [] SHF dc21 [(.tmp 2)] ent21.as ent21.rs x := by kernel_rfl
noncomputable def F51 (a0 : Obj) (a1 : Int) : Option (Int) :=
 bindO (F37 a1) fun y1 =>
 cond (!y1)
 (some (2 : Int))
 (cond (decide ((0 : Int) < (List.length a0.2.2.2.1 : Int)))
 (bnd (IntKind.wrap .i64 ((List.length a0.2.2.2.1 : Int) - (1 : Int))) fun x2 =>
 gd (0 ≤ x2 ∧ x2 < (List.length a0.2.2.2.1 : Int)) <|
 cond (decide (a1 < (List.getD a0.2.2.2.1 (Int.toNat x2) (0, (0, (0, ([], ([], false)))))).1))
 (some (12 : Int))
 (some (0 : Int)))
 (some (0 : Int)))
def dc51 : DC :=
 (.seq (.reg [Bx 2 32 0, Mi 4 0])
 (.seq (.block 0 (.seq (.reg [Mt 6 1, Ca 7 37 6, Un 8 7, Mt 5 8])
 (.cond (.t 5)
 (.seq (.reg [Mi 4 2])
 .ret)
 (.seq (.reg [Fa 10 32 3 2, Ld 11 10, Ln 12 65 11, Ai 13 .gtr 12 0, Mt 14 13, Ge 14 (Mt 15 1), Ge 14 (Fa 16 32 3 2), Ge 14 (Ld 17 16), Ge 14 (Fa 18 32 3 2), Ge 14 (Ld 19 18), Ge 14 (Ln 20 65 19), Ge 14 (Ai 21 .sub 20 1), Ge 14 (Ea 22 65 17 21), Ge 14 (Fa 23 65 0 22), Ge 14 (Ld 24 23), Ge 14 (Ar 25 .lss 15 24), Pa 26 14 25, Mt 9 26])
 (.cond (.t 9)
 (.seq (.reg [Mi 4 12])
 .ret)
 .skip)))))
 (.seq (.reg [Mi 4 0])
 .ret)))
noncomputable def ent51 : TEnt := ⟨51, [shObj, (.int .i64)], (.int .i64), fun x => F51 x.1 x.2, .plain⟩
theorem eq51 (x : dens ent51.as) : ent51.F x = evF [ent37] SHF dc51 [(.tmp 4)] ent51.as ent51.rs x := by kernel_rfl
noncomputable def F57 (a0 : Edn) : Option (Bool) :=
 bindO (F40 a0.2.2.2.2) fun y1 =>
 some (decide (y1 = a0.2.2.2.1))
def dc57 : DC :=
 (.seq (.reg [Bx 1 63 0, Mb 2 false])
 (.seq (.reg [Fa 3 63 4 1, Ld 4 3, Ca 5 40 4, Fa 6 63 3 1, Ld 7 6, Ar 8 .eql 5 7, Mt 2 8])
 .ret))
noncomputable def ent57 : TEnt := ⟨57, [shEdn], .bool, fun x => F57 x, .plain⟩
theorem eq57 (x : dens ent57.as) : ent57.F x = evF [ent40] SHF dc57 [(.tmp 2)] ent57.as ent57.rs x := by kernel_rfl
noncomputable def F56 (a0 : Edn) : Option (Bool) :=
 bindO (F57 a0) fun y1 =>
 some (!y1)
def dc56 : DC :=
 (.seq (.reg [Bx 1 63 0, Mb 2 false])
 (.seq (.reg [Lt 3 63 1, Ca 4 57 3, Un 5 4, Mt 2 5])
 .ret))
noncomputable def ent56 : TEnt := ⟨56, [shEdn], .bool, fun x => F56 x, .plain⟩
theorem eq56 (x : dens ent56.as) : ent56.F x = evF [ent57] SHF dc56 [(.tmp 2)] ent56.as ent56.rs x := by kernel_rfl
noncomputable def F83 (a0 : List (Edn)) (a1 : Unit) : Option (Int) :=
 loopK (σ := Int) (fun p1 againp1 =>
 cond (decide (p1 < (List.length a0 : Int)))
 (gd (0 ≤ p1 ∧ p1 < (List.length a0 : Int)) <|
 bindO (F56 (List.getD a0 (Int.toNat p1) (0, (0, (0, ([], [])))))) fun y2 =>
 cond (y2)
 (some p1)
 (bnd (IntKind.wrap .i64 (p1 + (1 : Int))) fun x3 =>
 againp1 x3))
 (some (-1 : Int))) (0 : Int)
def dc83 : DC :=
 (.seq (.reg [Mi 4 0])
 (.seq (.seq (.reg [Mt 6 0, Ln 7 63 6, Mi 8 0])
 (.block 0 (.loop ⟨[(8, (.lf (.int .i64)))], [], [4, 5, 9, 10, 11, 12, 13, 14, 15, 16, 17, 18].map .s⟩ (.seq (.reg [Ar 9 .lss 8 7])
 (.seq (.cond (.t 9)
 .skip
 (.exit 0))
 (.seq (.block 1 (.seq (.reg [Mt 10 8, Mt 5 10])
 (.seq (.reg [Mt 11 1, Mt 12 0, Mt 13 5, Ea 14 63 12 13, Lt 15 63 14, ⟨none, (.cd (some 16) (.t 11) [(.t 15)])⟩])
 (.cond (.t 16)
 (.seq (.reg [Mt 17 5, Mt 4 17])
 .ret)
 .skip))))
 (.reg [Ai 18 .add 8 1, Mt 8 18])))))))
 (.seq (.reg [Mi 4 (-1)])
 .ret)))
noncomputable def ent83 : TEnt := ⟨83, [(.sl 63 shEdn), (.fn 56 .unit)], (.int .i64), fun x => F83 x.1 x.2, .plain⟩
theorem eq83 (x : dens ent83.as) : ent83.F x = evF [ent56] SHF dc83 [(.tmp 4)] ent83.as ent83.rs x := by kernel_rfl
noncomputable def F55 (a0 : List (Edn)) (a1 : Unit) : Option (Bool) :=
 bindO (F83 a0 a1) fun y1 =>
 some (decide ((0 : Int) ≤ y1))
def dc55 : DC :=
 (.seq (.reg [Mb 4 false])
 (.seq (.reg [Mt 5 0, Mt 6 1, Cb 7 83 5 6, Ai 8 .geq 7 0, Mt 4 8])
 .ret))
noncomputable def ent55 : TEnt := ⟨55, [(.sl 63 shEdn), (.fn 56 .unit)], .bool, fun x => F55 x.1 x.2, .plain⟩
theorem eq55 (x : dens ent55.as) : ent55.F x = evF [ent83] SHF dc55 [(.tmp 4)] ent55.as ent55.rs x := by kernel_rfl
noncomputable def F20 (a0 : Obj) : Option (Bool) :=
 bindO (F55 a0.2.2.1 ()) fun y1 =>
 some (!y1)
def dc20 : DC :=
 (.seq (.reg [Bx 1 32 0, Mb 2 false])
 (.seq (.reg [Fa 3 32 2 1, Ld 4 3, ⟨none, (.ca (some 5) 55 [(.t 4), (.v (.fn 56 []))])⟩, Un 6 5, Mt 2 6])
 .ret))
noncomputable def ent20 : TEnt := ⟨20, [shObj], .bool, fun x => F20 x, .plain⟩
theorem eq20 (x : dens ent20.as) : ent20.F x = evF [ent55] SHF dc20 [(.tmp 2)] ent20.as ent20.rs x := by kernel_rfl
noncomputable def F101 (a0 : Fmt) (a1 : Int) : Option (Bool) :=
 some (decide (a0.1 = a1))
def dc101 : DC :=
 (.seq (.reg [Bx 2 72 0, Mb 3 false])
 (.seq (.reg [Fa 4 72 0 2, Ld 5 4, Ld 6 1, Ar 7 .eql 5 6, Mt 3 7])
 .ret))
noncomputable def ent101 : TEnt := ⟨101, [shFmt, (.rp (.int .i64))], .bool, fun x => F101 x.1 x.2, .plain⟩
theorem eq101 (x : dens ent101.as) : ent101.F x = evF [] SHF dc101 [(.tmp 3)] ent101.as ent101.rs x := by kernel_rfl
noncomputable def F100 (a0 : List (Fmt)) (a1 : Int × Unit) : Option (Int) :=
 loopK (σ := Int) (fun p1 againp1 =>
 cond (decide (p1 < (List.length a0 : Int)))
 (gd (0 ≤ p1 ∧ p1 < (List.length a0 : Int)) <|
 bindO (F101 (List.getD a0 (Int.toNat p1) (0, (0, (0, (0, ([], ([], []))))))) a1.1) fun y2 =>
 cond (y2)
 (some p1)
 (bnd (IntKind.wrap .i64 (p1 + (1 : Int))) fun x3 =>
 againp1 x3))
 (some (-1 : Int))) (0 : Int)
def dc100 : DC :=
 (.seq (.reg [Mi 4 0])
 (.seq (.seq (.reg [Mt 6 0, Ln 7 72 6, Mi 8 0])
 (.block 0 (.loop ⟨[(8, (.lf (.int .i64)))], [], [4, 5, 9, 10, 11, 12, 13, 14, 15, 16, 17, 18].map .s⟩ (.seq (.reg [Ar 9 .lss 8 7])
 (.seq (.cond (.t 9)
 .skip
 (.exit 0))
 (.seq (.block 1 (.seq (.reg [Mt 10 8, Mt 5 10])
 (.seq (.reg [Mt 11 1, Mt 12 0, Mt 13 5, Ea 14 72 12 13, Lt 15 72 14, ⟨none, (.cd (some 16) (.t 11) [(.t 15)])⟩])
 (.cond (.t 16)
 (.seq (.reg [Mt 17 5, Mt 4 17])
 .ret)
 .skip))))
 (.reg [Ai 18 .add 8 1, Mt 8 18])))))))
 (.seq (.reg [Mi 4 (-1)])
 .ret)))
noncomputable def ent100 : TEnt := ⟨100, [(.sl 72 shFmt), (.fn 101 (.pair (.rp (.int .i64)) .unit))], (.int .i64), fun x => F100 x.1 x.2, .plain⟩
theorem eq100 (x : dens ent100.as) : ent100.F x = evF [ent101] SHF dc100 [(.tmp 4)] ent100.as ent100.rs x := by kernel_rfl
noncomputable def F84 (a0 : List (Fmt)) (a1 : Int) : Option (Int) :=
 bindO (F100 a0 (a1, ())) fun y1 =>
 some y1
def dc84 : DC :=
 (.seq (.reg [⟨none, (.bx 3 none (.t 1))⟩, Mi 4 0])
 (.seq (.seq (.gh 3 [])
 (.reg [Mt 5 0, ⟨none, (.mf 6 101 [(.t 3)])⟩, Cb 7 100 5 6, Mt 4 7]))
 .ret))
noncomputable def ent84 : TEnt := ⟨84, [(.sl 72 shFmt), (.int .i64)], (.int .i64), fun x => F84 x.1 x.2, .plain⟩
theorem eq84 (x : dens ent84.as) : ent84.F x = evF [ent100] SHF dc84 [(.tmp 4)] ent84.as ent84.rs x := by kernel_rfl
noncomputable def F60 (a0 : List (Fmt)) (a1 : Int) : Option ((Fmt) × Bool) :=
 bindO (F84 a0 a1) fun y1 =>
 cond (decide ((0 : Int) ≤ y1))
 (gd (0 ≤ y1 ∧ y1 < (List.length a0 : Int)) <|
 some ((List.getD a0 (Int.toNat y1) (0, (0, (0, (0, ([], ([], []))))))), true))
 (some (((0 : Int), (0 : Int), (0 : Int), (0 : Int), ([] : List UInt8), ([] : List UInt8), ([] : List (Int))), false))
def dc60 : DC :=
 (.seq (.reg [⟨none, (.al 4 (.agg 72 [(.int .i64 0), (.int .i64 0), (.int .i64 0), (.int .i64 0), (.str []), (.str []), (.sl none 3 [])]))⟩, Mb 5 false])
 (.seq (.seq (.reg [Mt 7 0, Mt 8 1, Cb 9 84 7 8, Mt 6 9])
 (.seq (.reg [Mt 10 6, Ai 11 .geq 10 0])
 (.cond (.t 11)
 (.seq (.reg [Mt 12 0, Mt 13 6, Ea 14 72 12 13, Lt 15 72 14, Sr 72 4 15, Mb 5 true])
 .ret)
 .skip)))
 (.seq (.reg [⟨none, (.bd 16 72 [(.int .i64 0), (.int .i64 0), (.int .i64 0), (.int .i64 0), (.str []), (.str []), (.sl none 3 [])] [] [])⟩, Sr 72 4 16, Mb 5 false])
 .ret)))
noncomputable def ent60 : TEnt := ⟨60, [(.sl 72 shFmt), (.int .i64)], (.tup (.pair shFmt .bool)), fun x => F60 x.1 x.2, .plain⟩
theorem eq60 (x : dens ent60.as) : ent60.F x = evF [ent84] SHF dc60 [(.cell 4 (some 72)), (.tmp 5)] ent60.as ent60.rs x := by kernel_rfl
noncomputable def F85 (a0 : List (Int)) (a1 : Int) : Option (Int) :=
 loopK (σ := Int) (fun p1 againp1 =>
 cond (decide (p1 < (List.length a0 : Int)))
 (gd (0 ≤ p1 ∧ p1 < (List.length a0 : Int)) <|
 cond (decide (a1 = (List.getD a0 (Int.toNat p1) 0)))
 (some p1)
 (bnd (IntKind.wrap .i64 (p1 + (1 : Int))) fun x2 =>
 againp1 x2))
 (some (-1 : Int))) (0 : Int)
def dc85 : DC :=
 (.seq (.reg [Mi 4 0])
 (.seq (.seq (.reg [Mt 6 0, Ln 7 3 6, Mi 8 0])
 (.block 0 (.loop ⟨[(8, (.lf (.int .i64)))], [], [4, 5, 9, 10, 11, 12, 13, 14, 15, 16, 17, 18].map .s⟩ (.seq (.reg [Ar 9 .lss 8 7])
 (.seq (.cond (.t 9)
 .skip
 (.exit 0))
 (.seq (.block 1 (.seq (.reg [Mt 10 8, Mt 5 10])
 (.seq (.reg [Mt 11 1, Mt 12 0, Mt 13 5, Ea 14 3 12 13, Ld 15 14, Ar 16 .eql 11 15])
 (.cond (.t 16)
 (.seq (.reg [Mt 17 5, Mt 4 17])
 .ret)
 .skip))))
 (.reg [Ai 18 .add 8 1, Mt 8 18])))))))
 (.seq (.reg [Mi 4 (-1)])
 .ret)))
noncomputable def ent85 : TEnt := ⟨85, [(.sl 3 (.int .i64)), (.int .i64)], (.int .i64), fun x => F85 x.1 x.2, .plain⟩
theorem eq85 (x : dens ent85.as) : ent85.F x = evF [] SHF dc85 [(.tmp 4)] ent85.as ent85.rs x := by kernel_rfl
noncomputable def F61 (a0 : List (Int)) (a1 : Int) : Option (Bool) :=
 bindO (F85 a0 a1) fun y1 =>
 some (decide ((0 : Int) ≤ y1))
def dc61 : DC :=
 (.seq (.reg [Mb 4 false])
 (.seq (.reg [Mt 5 0, Mt 6 1, Cb 7 85 5 6, Ai 8 .geq 7 0, Mt 4 8])
 .ret))
noncomputable def ent61 : TEnt := ⟨61, [(.sl 3 (.int .i64)), (.int .i64)], .bool, fun x => F61 x.1 x.2, .plain⟩
theorem eq61 (x : dens ent61.as) : ent61.F x = evF [ent85] SHF dc61 [(.tmp 4)] ent61.as ent61.rs x := by kernel_rfl
noncomputable def F86 (a0 : Fmt) (a1 : Fmt) (a2 : List UInt8) : Option (List UInt8 × Int) :=
 bindO (fCutP a2 a0.2.2.2.2.2.1) fun y1 =>
 cond (!y1.2)
 (some (([] : List UInt8), (3 : Int)))
 (gd (List.length a1.2.2.2.2.2.1 + List.length y1.1 ≤ big) <|
 bnd (a1.2.2.2.2.2.1 ++ y1.1) fun x2 =>
 some (x2, (0 : Int)))
def dc86 : DC :=
 (.seq (.reg [Bx 3 72 0, Bx 4 72 1, ⟨none, (.mv (some 6) (.v (.str [])))⟩, Mi 7 0])
 (.seq (.reg [Mt 11 2, Fa 12 72 5 3, Ld 13 12, Cb 14 102 11 13, Mt 10 14, Ex 15 0 10, Ex 16 1 10, Mt 8 15, Mt 9 16])
 (.seq (.seq (.reg [Mt 17 9, Un 18 17])
 (.cond (.t 18)
 (.seq (.reg [⟨none, (.mv (some 6) (.v (.str [])))⟩, Mi 7 3])
 .ret)
 .skip))
 (.seq (.reg [Fa 19 72 5 4, Ld 20 19, Mt 21 8, Ar 22 .add 20 21, Mt 6 22, Mi 7 0])
 .ret))))
noncomputable def ent86 : TEnt := ⟨86, [shFmt, shFmt, .str], (.tup (.pair .str (.int .i64))), fun x => F86 x.1 x.2.1 x.2.2, .plain⟩
theorem eq86 (x : dens ent86.as) : ent86.F x = evF [entCutP] SHF dc86 [(.tmp 6), (.tmp 7)] ent86.as ent86.rs x := by kernel_rfl
noncomputable def F62 (a0 : List (File)) (a1 : Fmt) (a2 : Fmt) : Option ((List (File)) × Int) :=
 jn (σ := Unit × Unit × (Fmt) × Fmt) (fun nextj1 =>
 nextj1 ((), (), a1, a2)) fun j1 =>
 gdN (List.length ([] : List (File))) (List.length ([] : List (File))) <|
 loopK (σ := (List (File)) × Int) (fun p2 againp2 =>
 cond (decide (p2.2 < (List.length a0 : Int)))
 (gd (0 ≤ p2.2 ∧ p2.2 < (List.length a0 : Int)) <|
 bindO (F86 j1.2.2.1 j1.2.2.2 ((List.getD a0 (Int.toNat p2.2) ([], [])).2)) fun y3 =>
 cond (!decide (y3.2 = (0 : Int)))
 (some (([] : List (File)), y3.2))
 (gdN (List.length p2.1) (List.length p2.1) <|
 gd (List.length p2.1 + List.length [((List.getD a0 (Int.toNat p2.2) ([], [])).1, y3.1)] ≤ big) <|
 bnd (p2.1 ++ [((List.getD a0 (Int.toNat p2.2) ([], [])).1, y3.1)]) fun l4 =>
 bnd (IntKind.wrap .i64 (p2.2 + (1 : Int))) fun x5 =>
 gdN (List.length l4) (List.length l4) <|
 againp2 (l4, x5)))
 (bindO (F38 p2.1) fun y6 =>
 some (p2.1, y6))) (([] : List (File)), (0 : Int))
def dc62 : DC :=
 (.jn ⟨[(4, (.con (.rf 4 []))), (5, (.con (.rf 5 [])))], [(4, (.lf shFmt)), (5, (.lf shFmt))], [6, 7].map .s ++ [6].map .f⟩ (.reg [Bx 4 72 1, Bx 5 72 2, Nl 6 70, Mi 7 0])
 (.seq (.reg [Nl 8 70])
 (.seq (.seq (.reg [Mt 13 0, Ln 14 70 13, Mi 15 0])
 (.block 0 (.loop ⟨[(8, (.row 8 70 shFile)), (15, (.lf (.int .i64)))], [], [6, 7, 10, 11, 12, 16, 17, 18, 19, 20, 21, 22, 23, 24, 25, 26, 27, 28, 29, 30, 31, 32, 33, 34, 35, 36, 37].map .s ++ [10].map .b ++ [6, 35].map .f⟩ (.seq (.reg [Ar 16 .lss 15 14])
 (.seq (.cond (.t 16)
 .skip
 (.exit 0))
 (.seq (.block 1 (.seq (.reg [Ea 17 70 13 15, Lt 18 70 17, ⟨none, (.al 10 (.agg 70 [(.str []), (.str [])]))⟩, Sr 70 10 18])
 (.seq (.reg [Lt 20 72 4, Lt 21 72 5, Fa 22 70 1 10, Ld 23 22, ⟨none, (.ca (some 24) 86 [(.t 20), (.t 21), (.t 23)])⟩, Mt 19 24, Ex 25 0 19, Ex 26 1 19, Mt 11 25, Mt 12 26])
 (.seq (.seq (.reg [Mt 27 12, Ai 28 .neq 27 0])
 (.cond (.t 28)
 (.seq (.reg [Mt 29 12, Nl 6 70, Mt 7 29])
 .ret)
 .skip))
 (.reg [Mt 30 8, Fa 31 70 0 10, Ld 32 31, Mt 33 11, ⟨none, (.bd 34 70 [(.str []), (.str [])] [0, 1] [(.t 32), (.t 33)])⟩, ⟨none, (.bs 35 70 (some 70) [(.t 34)])⟩, Ap 36 70 30 35, Mt 8 36])))))
 (.reg [Ai 37 .add 15 1, Mt 15 37])))))))
 (.seq (.reg [Mt 38 8, Mt 39 8, Ca 40 38 39, Mt 6 38, Mt 7 40])
 .ret))))
noncomputable def ent62 : TEnt := ⟨62, [(.sl 70 shFile), shFmt, shFmt], (.tup (.pair (.sl 70 shFile) (.int .i64))), fun x => F62 x.1 x.2.1 x.2.2, .plain⟩
theorem eq62 (x : dens ent62.as) : ent62.F x = evF [ent38, ent86] SHF dc62 [(.tmp 6), (.tmp 7)] ent62.as ent62.rs x := by kernel_rfl
noncomputable def F10 : Option (Bool) :=
 bindO (fIngest (1 : Int) (1 : Int) (1 : Int) (5 : Int) [(([97] : List UInt8), ([84, 58, 120] : List UInt8))] ((1 : Int), (0 : Int), (0 : Int), (0 : Int))) fun y1 =>
 bindO (fCheck y1.1 (5 : Int)) fun y2 =>
 cond (!decide (y1.2 = (0 : Int)))
 (some false)
 (cond (!decide (y2.2.2 = (0 : Int)))
 (some false)
 (cond (!decide ((List.length y1.1.2.2.2.1 : Int) = (1 : Int)))
 (some false)
 (bindO (F20 y1.1) fun y3 =>
 cond (!y3)
 (some false)
 (cond (!decide ((List.length y2.1.2.2.2.1 : Int) = (2 : Int)))
 (some false)
 (cond (!decide ((List.length y2.2.1 : Int) = (0 : Int)))
 (some false)
 (bindO (F21 y1.1) fun y4 =>
 cond (!decide (y4 = (0 : Int)))
 (some false)
 (bindO (fDamage y1.1 (0 : Int) (0 : Int) (2 : Int)) fun y5 =>
 bindO (fCheck y5.1 (5 : Int)) fun y6 =>
 bindO (fRepair y5.1 (0 : Int) [(([97] : List UInt8), ([84, 58, 120] : List UInt8))] (6 : Int)) fun y7 =>
 bindO (fRepair y5.1 (0 : Int) [(([97] : List UInt8), ([84, 58, 121] : List UInt8))] (6 : Int)) fun y8 =>
 bindO (fMigrate y1.1 [((1 : Int), (1990 : Int), (0 : Int), (0 : Int), ([116, 120, 116] : List UInt8), ([84, 58] : List UInt8), ([] : List (Int))), ((2 : Int), (1990 : Int), (0 : Int), (0 : Int), ([112, 100, 102] : List UInt8), ([37, 80] : List UInt8), ([] : List (Int)))] (2 : Int) (6 : Int)) fun y9 =>
 bindO (fMigrate y1.1 [((1 : Int), (1990 : Int), (0 : Int), (0 : Int), ([116, 120, 116] : List UInt8), ([84, 58] : List UInt8), ([] : List (Int))), ((2 : Int), (1990 : Int), (0 : Int), (0 : Int), ([112, 100, 102] : List UInt8), ([37, 80] : List UInt8), ([] : List (Int)))] (3 : Int) (6 : Int)) fun y10 =>
 bindO (fCheck y1.1 (4 : Int)) fun y11 =>
 cond (decide (y5.2 = (0 : Int)))
 (bindO (F20 y5.1) fun y12 =>
 cond (!y12)
 (cond (decide (y6.2.2 = (0 : Int)))
 (cond (decide ((List.length y6.2.1 : Int) = (1 : Int)))
 (gd (0 ≤ (0 : Int) ∧ (0 : Int) < (List.length y6.2.1 : Int)) <|
 cond (decide ((List.getD y6.2.1 (Int.toNat (0 : Int)) 0) = (0 : Int)))
 (cond (decide (y7.2 = (0 : Int)))
 (bindO (F20 y7.1) fun y13 =>
 cond (y13)
 (bindO (F33 y7.1) fun y14 =>
 cond (y14)
 (cond (decide (y8.2 = (19 : Int)))
 (cond (decide (y9.2 = (1 : Int)))
 (cond (decide (y10.2 = (9 : Int)))
 (some (decide (y11.2.2 = (12 : Int))))
 (some false))
 (some false))
 (some false))
 (some false))
 (some false))
 (some false))
 (some false))
 (some false))
 (some false))
 (some false))
 (some false))))))))
def dc10 : DC :=
 (.seq (.reg [Mb 0 false])
 (.seq (.reg [⟨none, (.bd 25 24 [(.int .i64 0), (.int .i64 0), (.int .i64 0), (.int .i64 0)] [0] [(.v (.int .i64 1))])⟩, ⟨none, (.al 1 (.agg 24 [(.int .i64 0), (.int .i64 0), (.int .i64 0), (.int .i64 0)]))⟩, Sr 24 1 25])
 (.seq (.reg [⟨none, (.bd 26 70 [(.str []), (.str [])] [0, 1] [(.v (.str [97])), (.v (.str [84, 58, 120]))])⟩, ⟨none, (.bs 27 70 (some 70) [(.t 26)])⟩, Mt 2 27])
 (.seq (.reg [⟨none, (.bd 28 72 [(.int .i64 0), (.int .i64 0), (.int .i64 0), (.int .i64 0), (.str []), (.str []), (.sl none 3 [])] [0, 1, 4, 5] [(.v (.int .i64 1)), (.v (.int .i64 1990)), (.v (.str [116, 120, 116])), (.v (.str [84, 58]))])⟩, ⟨none, (.bd 29 72 [(.int .i64 0), (.int .i64 0), (.int .i64 0), (.int .i64 0), (.str []), (.str []), (.sl none 3 [])] [0, 1, 4, 5] [(.v (.int .i64 2)), (.v (.int .i64 1990)), (.v (.str [112, 100, 102])), (.v (.str [37, 80]))])⟩, ⟨none, (.bs 30 72 (some 72) [(.t 28), (.t 29)])⟩, Mt 3 30])
 (.seq (.reg [Mt 32 2, Lt 33 24 1, ⟨none, (.ca (some 34) 12 [(.v (.int .i64 1)), (.v (.int .i64 1)), (.v (.int .i64 1)), (.v (.int .i64 5)), (.t 32), (.t 33)])⟩, Mt 31 34, Ex 35 0 31, Ex 36 1 31, ⟨none, (.al 4 (.agg 32 zO))⟩, Sr 32 4 35, Mt 5 36])
 (.seq (.reg [Lt 38 32 4, ⟨none, (.ca (some 39) 17 [(.t 38), (.v (.int .i64 5))])⟩, Mt 37 39, Ex 40 0 37, Ex 41 1 37, Ex 42 2 37, ⟨none, (.al 6 (.agg 32 zO))⟩, Sr 32 6 40, Mt 7 41, Mt 8 42])
 (.seq (.seq (.reg [Mt 43 5, Ai 44 .neq 43 0, Mt 45 44, Gd 45 (Mt 46 8), Gd 45 (Ai 47 .neq 46 0), Po 48 45 47, Mt 49 48, Gd 49 (Fa 50 32 3 4), Gd 49 (Ld 51 50), Gd 49 (Ln 52 65 51), Gd 49 (Ai 53 .neq 52 1), Po 54 49 53, Mt 55 54, Gd 55 (Lt 56 32 4), Gd 55 (Ca 57 20 56), Gd 55 (Un 58 57), Po 59 55 58, Mt 60 59, Gd 60 (Fa 61 32 3 6), Gd 60 (Ld 62 61), Gd 60 (Ln 63 65 62), Gd 60 (Ai 64 .neq 63 2), Po 65 60 64, Mt 66 65, Gd 66 (Mt 67 7), Gd 66 (Ln 68 3 67), Gd 66 (Ai 69 .neq 68 0), Po 70 66 69, Mt 71 70, Gd 71 (Lt 72 32 4), Gd 71 (Ca 73 21 72), Gd 71 (Ai 74 .neq 73 0), Po 75 71 74])
 (.cond (.t 75)
 (.seq (.reg [Mb 0 false])
 .ret)
 .skip))
 (.seq (.reg [Lt 77 32 4, ⟨none, (.ca (some 78) 25 [(.t 77), (.v (.int .i64 0)), (.v (.int .i64 0)), (.v (.int .i64 2))])⟩, Mt 76 78, Ex 79 0 76, Ex 80 1 76, ⟨none, (.al 9 (.agg 32 zO))⟩, Sr 32 9 79, Mt 10 80])
 (.seq (.reg [Lt 82 32 9, ⟨none, (.ca (some 83) 17 [(.t 82), (.v (.int .i64 5))])⟩, Mt 81 83, Ex 84 0 81, Ex 85 1 81, Ex 86 2 81, ⟨none, (.al 11 (.agg 32 zO))⟩, Sr 32 11 84, Mt 12 85, Mt 13 86])
 (.seq (.reg [Lt 88 32 9, Mt 89 2, ⟨none, (.ca (some 90) 27 [(.t 88), (.v (.int .i64 0)), (.t 89), (.v (.int .i64 6))])⟩, Mt 87 90, Ex 91 0 87, Ex 92 1 87, ⟨none, (.al 14 (.agg 32 zO))⟩, Sr 32 14 91, Mt 15 92])
 (.seq (.reg [Lt 94 32 9, ⟨none, (.bd 95 70 [(.str []), (.str [])] [0, 1] [(.v (.str [97])), (.v (.str [84, 58, 121]))])⟩, ⟨none, (.bs 96 70 (some 70) [(.t 95)])⟩, ⟨none, (.ca (some 97) 27 [(.t 94), (.v (.int .i64 0)), (.t 96), (.v (.int .i64 6))])⟩, Mt 93 97, Ex 98 0 93, Ex 99 1 93, ⟨none, (.al 16 (.agg 32 zO))⟩, Sr 32 16 98, Mt 17 99])
 (.seq (.reg [Lt 101 32 4, Mt 102 3, ⟨none, (.ca (some 103) 23 [(.t 101), (.t 102), (.v (.int .i64 2)), (.v (.int .i64 6))])⟩, Mt 100 103, Ex 104 0 100, Ex 105 1 100, ⟨none, (.al 18 (.agg 32 zO))⟩, Sr 32 18 104, Mt 19 105])
 (.seq (.reg [Lt 107 32 4, Mt 108 3, ⟨none, (.ca (some 109) 23 [(.t 107), (.t 108), (.v (.int .i64 3)), (.v (.int .i64 6))])⟩, Mt 106 109, Ex 110 0 106, Ex 111 1 106, ⟨none, (.al 20 (.agg 32 zO))⟩, Sr 32 20 110, Mt 21 111])
 (.seq (.reg [Lt 113 32 4, ⟨none, (.ca (some 114) 17 [(.t 113), (.v (.int .i64 4))])⟩, Mt 112 114, Ex 115 0 112, Ex 116 1 112, Ex 117 2 112, ⟨none, (.al 22 (.agg 32 zO))⟩, Sr 32 22 115, Mt 23 116, Mt 24 117])
 (.seq (.reg [Mt 118 10, Ai 119 .eql 118 0, Mt 120 119, Ge 120 (Lt 121 32 9), Ge 120 (Ca 122 20 121), Ge 120 (Un 123 122), Pa 124 120 123, Mt 125 124, Ge 125 (Mt 126 13), Ge 125 (Ai 127 .eql 126 0), Pa 128 125 127, Mt 129 128, Ge 129 (Mt 130 12), Ge 129 (Ln 131 3 130), Ge 129 (Ai 132 .eql 131 1), Pa 133 129 132, Mt 134 133, Ge 134 (Mt 135 12), ⟨(some (134, true)), (.ea 136 3 (.t 135) (.v (.int .i64 0)))⟩, Ge 134 (Ld 137 136), Ge 134 (Ai 138 .eql 137 0), Pa 139 134 138, Mt 140 139, Ge 140 (Mt 141 15), Ge 140 (Ai 142 .eql 141 0), Pa 143 140 142, Mt 144 143, Ge 144 (Lt 145 32 14), Ge 144 (Ca 146 20 145), Pa 147 144 146, Mt 148 147, Ge 148 (Lt 149 32 14), Ge 148 (Ca 150 33 149), Pa 151 148 150, Mt 152 151, Ge 152 (Mt 153 17), Ge 152 (Ai 154 .eql 153 19), Pa 155 152 154, Mt 156 155, Ge 156 (Mt 157 19), Ge 156 (Ai 158 .eql 157 1), Pa 159 156 158, Mt 160 159, Ge 160 (Mt 161 21), Ge 160 (Ai 162 .eql 161 9), Pa 163 160 162, Mt 164 163, Ge 164 (Mt 165 24), Ge 164 (Ai 166 .eql 165 12), Pa 167 164 166, Mt 0 167])
 .ret)))))))))))))))
noncomputable def ent10 : TEnt := ⟨10, [], .bool, fun _ => F10, .plain⟩
theorem eq10 (x : dens ent10.as) : ent10.F x = evF [entIngest, entCheck, ent20, ent21, entMigrate, entDamage, entRepair, ent33] SHF dc10 [(.tmp 0)] ent10.as ent10.rs x := by kernel_rfl
noncomputable def F5 (a0 : Obj) (a1 : (List (Fmt)) × Int × Int) : Option (Bool) :=
 bindO (F10) fun y1 =>
 cond (!y1)
 (some false)
 (bindO (F16 a0) fun y2 =>
 cond (!y2)
 (some true)
 (cond (decide ((16 : Int) < (List.length a1.1 : Int)))
 (some true)
 (bindO (F22 a1.1) fun y3 =>
 cond (!decide (y3 = (0 : Int)))
 (some true)
 (bindO (fMigrate a0 a1.1 a1.2.1 a1.2.2) fun y4 =>
 bindO (F24 a0 a1.1 a1.2.1 a1.2.2) fun y5 =>
 cond (decide (y4.2 = y5.2))
 (bindO (F14 y4.1 y5.1) fun y6 =>
 cond (y6)
 (cond (!decide (y4.2 = (0 : Int)))
 (some true)
 (bindO (F15 y4.1) fun y7 =>
 some (decide (y7 = (0 : Int)))))
 (some false))
 (some false)))))
def dc5 : DC :=
 (.seq (.reg [Bx 2 32 0, Bx 3 48 1, Mb 4 false])
 (.seq (.seq (.reg [⟨none, (.ca (some 9) 10 [])⟩, Un 10 9])
 (.cond (.t 10)
 (.seq (.reg [Mb 4 false])
 .ret)
 .skip))
 (.seq (.seq (.reg [Lt 11 32 2, Ca 12 16 11, Un 13 12, Mt 14 13, Gd 14 (Fa 15 48 0 3), Gd 14 (Ld 16 15), Gd 14 (Ln 17 72 16), Gd 14 (Ai 18 .gtr 17 16), Po 19 14 18, Mt 20 19, Gd 20 (Fa 21 48 0 3), Gd 20 (Ld 22 21), Gd 20 (Ca 23 22 22), Gd 20 (Ai 24 .neq 23 0), Po 25 20 24])
 (.cond (.t 25)
 (.seq (.reg [Mb 4 true])
 .ret)
 .skip))
 (.seq (.reg [Lt 27 32 2, Fa 28 48 0 3, Ld 29 28, Fa 30 48 1 3, Ld 31 30, Fa 32 48 2 3, Ld 33 32, ⟨none, (.ca (some 34) 23 [(.t 27), (.t 29), (.t 31), (.t 33)])⟩, Mt 26 34, Ex 35 0 26, Ex 36 1 26, ⟨none, (.al 5 (.agg 32 zO))⟩, Sr 32 5 35, Mt 6 36])
 (.seq (.reg [Lt 38 32 2, Fa 39 48 0 3, Ld 40 39, Fa 41 48 1 3, Ld 42 41, Fa 43 48 2 3, Ld 44 43, ⟨none, (.ca (some 45) 24 [(.t 38), (.t 40), (.t 42), (.t 44)])⟩, Mt 37 45, Ex 46 0 37, Ex 47 1 37, ⟨none, (.al 7 (.agg 32 zO))⟩, Sr 32 7 46, Mt 8 47])
 (.seq (.reg [Mt 48 6, Mt 49 8, Ar 50 .eql 48 49, Mt 51 50, Ge 51 (Lt 52 32 5), Ge 51 (Lt 53 32 7), Ge 51 (Cb 54 14 52 53), Pa 55 51 54, Mt 56 55, Ge 56 (Mt 57 6), Ge 56 (Ai 58 .neq 57 0), Ge 56 (Mt 59 58), Gd 59 (Lt 60 32 5), Gd 59 (Ca 61 15 60), Gd 59 (Ai 62 .eql 61 0), Ge 56 (Po 63 59 62), Pa 64 56 63, Mt 4 64])
 .ret))))))
noncomputable def ent5 : TEnt := ⟨5, [shObj, (.agg 48 (.pair (.sl 72 shFmt) (.pair (.int .i64) (.int .i64))))], .bool, fun x => F5 x.1 x.2, .plain⟩
theorem eq5 (x : dens ent5.as) : ent5.F x = evF [ent10, ent14, ent15, ent16, ent22, entMigrate, ent24] SHF dc5 [(.tmp 4)] ent5.as ent5.rs x := by kernel_rfl
theorem mixedF : Tryz.prog.follows .mixedOrders = true := by kernel_rfl
section
variable {G : World → Prop} (hG : Keeps G)
include hG in
theorem ok153 : TEnt.Ok Tryz.prog G ent153 :=
 ent_ok hG mixedF (fn := Tryz.f153) (d := dc153) (crs := [(.tmp 2)]) (hint := []) (TT := []) (SH := SHF) rfl rfl (by kernel_rfl) (splitsNil (by kernel_rfl)) (by decide) rfl trivial eq153
include hG in
theorem ok139 (h153 : TEnt.Ok Tryz.prog G ent153) (h154 : TEnt.Ok Tryz.prog G entTZ) : TEnt.Ok Tryz.prog G ent139 :=
 ent_ok hG mixedF (fn := Tryz.f139) (d := dc139) (crs := [(.tmp 10), (.tmp 11)]) (hint := [(30, 12)]) (TT := [ent153, entTZ]) (SH := SHF) rfl rfl (by kernel_rfl) (splitsNil (by kernel_rfl)) (by decide) rfl ⟨h153, h154, trivial⟩ eq139
include hG in
theorem ok121 (h139 : TEnt.Ok Tryz.prog G ent139) : TEnt.Ok Tryz.prog G ent121 :=
 ent_ok hG mixedF (fn := Tryz.f121) (d := dc121) (crs := [(.tmp 4)]) (hint := []) (TT := [ent139]) (SH := SHF) rfl rfl (by kernel_rfl) (splitsNil (by kernel_rfl)) (by decide) rfl ⟨h139, trivial⟩ eq121
include hG in
theorem ok104 (h121 : TEnt.Ok Tryz.prog G ent121) : TEnt.Ok Tryz.prog G ent104 :=
 ent_ok hG mixedF (fn := Tryz.f104) (d := dc104) (crs := [(.tmp 4)]) (hint := []) (TT := [ent121]) (SH := SHF) rfl rfl (by kernel_rfl) (splitsNil (by kernel_rfl)) (by decide) rfl ⟨h121, trivial⟩ eq104
include hG in
theorem ok90 (h104 : TEnt.Ok Tryz.prog G ent104) (h105 : TEnt.Ok Tryz.prog G entRepeat) : TEnt.Ok Tryz.prog G ent90 :=
 ent_ok hG mixedF (fn := Tryz.f90) (d := dc90) (crs := [(.tmp 2)]) (hint := []) (TT := [ent104, entRepeat]) (SH := SHF) rfl rfl (by kernel_rfl) (splitsNil (by kernel_rfl)) (by decide) rfl ⟨h104, h105, trivial⟩ eq90
include hG in
theorem ok73 (h90 : TEnt.Ok Tryz.prog G ent90) : TEnt.Ok Tryz.prog G ent73 :=
 ent_ok hG mixedF (fn := Tryz.f73) (d := dc73) (crs := [(.tmp 2)]) (hint := []) (TT := [ent90]) (SH := SHF) rfl rfl (by kernel_rfl) (splitsNil (by kernel_rfl)) (by decide) rfl ⟨h90, trivial⟩ eq73
include hG in
theorem ok71 : TEnt.Ok Tryz.prog G ent71 :=
 ent_ok hG mixedF (fn := Tryz.f71) (d := dc71) (crs := [(.tmp 2)]) (hint := []) (TT := []) (SH := SHF) rfl rfl (by kernel_rfl) (splitsNil (by kernel_rfl)) (by decide) rfl trivial eq71
include hG in
theorem ok118 (h90 : TEnt.Ok Tryz.prog G ent90) : TEnt.Ok Tryz.prog G ent118 :=
 ent_ok hG mixedF (fn := Tryz.f118) (d := dc118) (crs := [(.tmp 4)]) (hint := []) (TT := [ent90]) (SH := SHF) rfl rfl (by kernel_rfl) (splitsNil (by kernel_rfl)) (by decide) rfl ⟨h90, trivial⟩ eq118
include hG in
theorem ok103 (h71 : TEnt.Ok Tryz.prog G ent71) : TEnt.Ok Tryz.prog G ent103 :=
 ent_ok hG mixedF (fn := Tryz.f103) (d := dc103) (crs := [(.tmp 4)]) (hint := []) (TT := [ent71]) (SH := SHF) rfl rfl (by kernel_rfl) (splitsNil (by kernel_rfl)) (by decide) rfl ⟨h71, trivial⟩ eq103
include hG in
theorem ok82 (h94 : TEnt.Ok Tryz.prog G entTrim) : TEnt.Ok Tryz.prog G ent82 :=
 ent_ok hG mixedF (fn := Tryz.f82) (d := dc82) (crs := [(.tmp 2)]) (hint := []) (TT := [entTrim]) (SH := SHF) rfl rfl (by kernel_rfl) (splitsNil (by kernel_rfl)) (by decide) rfl ⟨h94, trivial⟩ eq82
include hG in
theorem ok69 : TEnt.Ok Tryz.prog G ent69 :=
 ent_ok hG mixedF (fn := Tryz.f69) (d := dc69) (crs := [(.tmp 2)]) (hint := []) (TT := []) (SH := SHF) rfl rfl (by kernel_rfl) (splitsNil (by kernel_rfl)) (by decide) rfl trivial eq69
include hG in
theorem ok96 (h90 : TEnt.Ok Tryz.prog G ent90) : TEnt.Ok Tryz.prog G ent96 :=
 ent_ok hG mixedF (fn := Tryz.f96) (d := dc96) (crs := [(.tmp 2)]) (hint := [(7, 8)]) (TT := [ent90]) (SH := SHF) rfl rfl (by kernel_rfl) (splitsNil (by kernel_rfl)) (by decide) rfl ⟨h90, trivial⟩ eq96
include hG in
theorem ok97 (h118 : TEnt.Ok Tryz.prog G ent118) : TEnt.Ok Tryz.prog G ent97 :=
 ent_ok hG mixedF (fn := Tryz.f97) (d := dc97) (crs := [(.tmp 2)]) (hint := []) (TT := [ent118]) (SH := SHF) rfl rfl (by kernel_rfl) (splitsNil (by kernel_rfl)) (by decide) rfl ⟨h118, trivial⟩ eq97
include hG in
theorem ok88 (h71 : TEnt.Ok Tryz.prog G ent71) : TEnt.Ok Tryz.prog G ent88 :=
 ent_ok hG mixedF (fn := Tryz.f88) (d := dc88) (crs := [(.tmp 2)]) (hint := []) (TT := [ent71]) (SH := SHF) rfl rfl (by kernel_rfl) (splitsNil (by kernel_rfl)) (by decide) rfl ⟨h71, trivial⟩ eq88
include hG in
theorem ok89 (h103 : TEnt.Ok Tryz.prog G ent103) : TEnt.Ok Tryz.prog G ent89 :=
 ent_ok hG mixedF (fn := Tryz.f89) (d := dc89) (crs := [(.tmp 2)]) (hint := []) (TT := [ent103]) (SH := SHF) rfl rfl (by kernel_rfl) (splitsNil (by kernel_rfl)) (by decide) rfl ⟨h103, trivial⟩ eq89
include hG in
theorem ok78 (h73 : TEnt.Ok Tryz.prog G ent73) (h96 : TEnt.Ok Tryz.prog G ent96) (h97 : TEnt.Ok Tryz.prog G ent97) : TEnt.Ok Tryz.prog G ent78 :=
 ent_ok hG mixedF (fn := Tryz.f78) (d := dc78) (crs := [(.tmp 2)]) (hint := []) (TT := [ent73, ent96, ent97]) (SH := SHF) rfl rfl (by kernel_rfl) (splitsNil (by kernel_rfl)) (by decide) rfl ⟨h73, h96, h97, trivial⟩ eq78
include hG in
theorem ok72 (h71 : TEnt.Ok Tryz.prog G ent71) (h88 : TEnt.Ok Tryz.prog G ent88) (h89 : TEnt.Ok Tryz.prog G ent89) : TEnt.Ok Tryz.prog G ent72 :=
 ent_ok hG mixedF (fn := Tryz.f72) (d := dc72) (crs := [(.tmp 2)]) (hint := []) (TT := [ent71, ent88, ent89]) (SH := SHF) rfl rfl (by kernel_rfl) (splitsNil (by kernel_rfl)) (by decide) rfl ⟨h71, h88, h89, trivial⟩ eq72
include hG in
theorem ok76 (h94 : TEnt.Ok Tryz.prog G entTrim) (h95 : TEnt.Ok Tryz.prog G entSplit) : TEnt.Ok Tryz.prog G ent76 :=
 ent_ok hG mixedF (fn := Tryz.f76) (d := dc76) (crs := [(.tmp 2)]) (hint := []) (TT := [entTrim, entSplit]) (SH := SHF) rfl rfl (by kernel_rfl) (splitsNil (by kernel_rfl)) (by decide) rfl ⟨h94, h95, trivial⟩ eq76
include hG in
theorem ok38 (h76 : TEnt.Ok Tryz.prog G ent76) : TEnt.Ok Tryz.prog G ent38 :=
 ent_ok hG mixedF (fn := Tryz.f38) (d := dc38) (crs := [(.tmp 2)]) (hint := []) (TT := [ent76]) (SH := SHF) rfl rfl (by kernel_rfl) (splitsNil (by kernel_rfl)) (by decide) rfl ⟨h76, trivial⟩ eq38
include hG in
theorem ok40 (h73 : TEnt.Ok Tryz.prog G ent73) (h78 : TEnt.Ok Tryz.prog G ent78) : TEnt.Ok Tryz.prog G ent40 :=
 ent_ok hG mixedF (fn := Tryz.f40) (d := dc40) (crs := [(.tmp 2)]) (hint := []) (TT := [ent73, ent78]) (SH := SHF) rfl rfl (by kernel_rfl) (splitsNil (by kernel_rfl)) (by decide) rfl ⟨h73, h78, trivial⟩ eq40
include hG in
theorem ok99 : TEnt.Ok Tryz.prog G ent99 :=
 ent_ok hG mixedF (fn := Tryz.f99) (d := dc99) (crs := [(.tmp 2)]) (hint := []) (TT := []) (SH := SHF) rfl rfl (by kernel_rfl) (splitsNil (by kernel_rfl)) (by decide) rfl trivial eq99
include hG in
theorem ok80 (h99 : TEnt.Ok Tryz.prog G ent99) : TEnt.Ok Tryz.prog G ent80 :=
 ent_ok hG mixedF (fn := Tryz.f80) (d := dc80) (crs := [(.tmp 2)]) (hint := []) (TT := [ent99]) (SH := SHF) rfl rfl (by kernel_rfl) (splitsNil (by kernel_rfl)) (by decide) rfl ⟨h99, trivial⟩ eq80
include hG in
theorem ok45 (h80 : TEnt.Ok Tryz.prog G ent80) : TEnt.Ok Tryz.prog G ent45 :=
 ent_ok hG mixedF (fn := Tryz.f45) (d := dc45) (crs := [(.tmp 2)]) (hint := []) (TT := [ent80]) (SH := SHF) rfl rfl (by kernel_rfl) (splitsNil (by kernel_rfl)) (by decide) rfl ⟨h80, trivial⟩ eq45
include hG in
theorem ok32 (h71 : TEnt.Ok Tryz.prog G ent71) (h72 : TEnt.Ok Tryz.prog G ent72) : TEnt.Ok Tryz.prog G ent32 :=
 ent_ok hG mixedF (fn := Tryz.f32) (d := dc32) (crs := [(.tmp 2)]) (hint := []) (TT := [ent71, ent72]) (SH := SHF) rfl rfl (by kernel_rfl) (splitsNil (by kernel_rfl)) (by decide) rfl ⟨h71, h72, trivial⟩ eq32
include hG in
theorem ok36 : TEnt.Ok Tryz.prog G ent36 :=
 ent_ok hG mixedF (fn := Tryz.f36) (d := dc36) (crs := [(.tmp 2)]) (hint := []) (TT := []) (SH := SHF) rfl rfl (by kernel_rfl) (splitsNil (by kernel_rfl)) (by decide) rfl trivial eq36
include hG in
theorem ok37 : TEnt.Ok Tryz.prog G ent37 :=
 ent_ok hG mixedF (fn := Tryz.f37) (d := dc37) (crs := [(.tmp 2)]) (hint := []) (TT := []) (SH := SHF) rfl rfl (by kernel_rfl) (splitsNil (by kernel_rfl)) (by decide) rfl trivial eq37
include hG in
theorem ok77 : TEnt.Ok Tryz.prog G ent77 :=
 ent_ok hG mixedF (fn := Tryz.f77) (d := dc77) (crs := [(.tmp 6)]) (hint := []) (TT := []) (SH := SHF) rfl rfl (by kernel_rfl) (splitsNil (by kernel_rfl)) (by decide) rfl trivial eq77
include hG in
theorem ok39 (h77 : TEnt.Ok Tryz.prog G ent77) : TEnt.Ok Tryz.prog G ent39 :=
 ent_ok hG mixedF (fn := Tryz.f39) (d := dc39) (crs := [(.tmp 2)]) (hint := []) (TT := [ent77]) (SH := SHF) rfl rfl (by kernel_rfl) (splitsNil (by kernel_rfl)) (by decide) rfl ⟨h77, trivial⟩ eq39
include hG in
theorem ok81 : TEnt.Ok Tryz.prog G ent81 :=
 ent_ok hG mixedF (fn := Tryz.f81) (d := dc81) (crs := [(.tmp 2)]) (hint := []) (TT := []) (SH := SHF) rfl rfl (by kernel_rfl) (splitsNil (by kernel_rfl)) (by decide) rfl trivial eq81
include hG in
theorem ok46 (h81 : TEnt.Ok Tryz.prog G ent81) : TEnt.Ok Tryz.prog G ent46 :=
 ent_ok hG mixedF (fn := Tryz.f46) (d := dc46) (crs := [(.tmp 2)]) (hint := []) (TT := [ent81]) (SH := SHF) rfl rfl (by kernel_rfl) (splitsNil (by kernel_rfl)) (by decide) rfl ⟨h81, trivial⟩ eq46
include hG in
theorem ok44 : TEnt.Ok Tryz.prog G ent44 :=
 ent_ok hG mixedF (fn := Tryz.f44) (d := dc44) (crs := [(.tmp 2)]) (hint := []) (TT := []) (SH := SHF) rfl rfl (by kernel_rfl) (splitsNil (by kernel_rfl)) (by decide) rfl trivial eq44
include hG in
theorem ok93 : TEnt.Ok Tryz.prog G ent93 :=
 ent_ok hG mixedF (fn := Tryz.f93) (d := dc93) (crs := [(.tmp 2)]) (hint := []) (TT := []) (SH := SHF) rfl rfl (by kernel_rfl) (splitsNil (by kernel_rfl)) (by decide) rfl trivial eq93
include hG in
theorem ok75 (h93 : TEnt.Ok Tryz.prog G ent93) : TEnt.Ok Tryz.prog G ent75 :=
 ent_ok hG mixedF (fn := Tryz.f75) (d := dc75) (crs := [(.tmp 2)]) (hint := []) (TT := [ent93]) (SH := SHF) rfl rfl (by kernel_rfl) (splitsNil (by kernel_rfl)) (by decide) rfl ⟨h93, trivial⟩ eq75
include hG in
theorem ok35 (h71 : TEnt.Ok Tryz.prog G ent71) (h75 : TEnt.Ok Tryz.prog G ent75) : TEnt.Ok Tryz.prog G ent35 :=
 ent_ok hG mixedF (fn := Tryz.f35) (d := dc35) (crs := [(.tmp 4)]) (hint := []) (TT := [ent71, ent75]) (SH := SHF) rfl rfl (by kernel_rfl) (splitsNil (by kernel_rfl)) (by decide) rfl ⟨h71, h75, trivial⟩ eq35
include hG in
theorem ok34 (h35 : TEnt.Ok Tryz.prog G ent35) : TEnt.Ok Tryz.prog G ent34 :=
 ent_ok hG mixedF (fn := Tryz.f34) (d := dc34) (crs := [(.tmp 2)]) (hint := []) (TT := [ent35]) (SH := SHF) rfl rfl (by kernel_rfl) (splitsNil (by kernel_rfl)) (by decide) rfl ⟨h35, trivial⟩ eq34
include hG in
theorem ok47 (h35 : TEnt.Ok Tryz.prog G ent35) : TEnt.Ok Tryz.prog G ent47 :=
 ent_ok hG mixedF (fn := Tryz.f47) (d := dc47) (crs := [(.cell 12 (some 32))]) (hint := []) (TT := [ent35]) (SH := SHF) rfl rfl (by kernel_rfl) (splitsNil (by kernel_rfl)) (by decide) rfl ⟨h35, trivial⟩ eq47
include hG in
theorem ok70 : TEnt.Ok Tryz.prog G ent70 :=
 ent_ok hG mixedF (fn := Tryz.f70) (d := dc70) (crs := [(.tmp 2)]) (hint := []) (TT := []) (SH := SHF) rfl rfl (by kernel_rfl) (splitsNil (by kernel_rfl)) (by decide) rfl trivial eq70
include hG in
theorem ok29 (h34 : TEnt.Ok Tryz.prog G ent34) (h44 : TEnt.Ok Tryz.prog G ent44) (h45 : TEnt.Ok Tryz.prog G ent45) (h46 : TEnt.Ok Tryz.prog G ent46) (h69 : TEnt.Ok Tryz.prog G ent69) (h70 : TEnt.Ok Tryz.prog G ent70) : TEnt.Ok Tryz.prog G ent29 :=
 ent_ok hG mixedF (fn := Tryz.f29) (d := dc29) (crs := [(.tmp 2)]) (hint := []) (TT := [ent34, ent44, ent45, ent46, ent69, ent70]) (SH := SHF) rfl rfl (by kernel_rfl) (splitsNil (by kernel_rfl)) (by decide) rfl ⟨h34, h44, h45, h46, h69, h70, trivial⟩ eq29
include hG in
theorem ok64 : TEnt.Ok Tryz.prog G ent64 :=
 ent_ok hG mixedF (fn := Tryz.f64) (d := dc64) (crs := [(.tmp 2)]) (hint := []) (TT := []) (SH := SHF) rfl rfl (by kernel_rfl) (splitsNil (by kernel_rfl)) (by decide) rfl trivial eq64
include hG in
theorem ok54 (h32 : TEnt.Ok Tryz.prog G ent32) : TEnt.Ok Tryz.prog G ent54 :=
 ent_ok hG mixedF (fn := Tryz.f54) (d := dc54) (crs := [(.tmp 2)]) (hint := []) (TT := [ent32]) (SH := SHF) rfl rfl (by kernel_rfl) (splitsNil (by kernel_rfl)) (by decide) rfl ⟨h32, trivial⟩ eq54
include hG in
theorem ok53 (h44 : TEnt.Ok Tryz.prog G ent44) : TEnt.Ok Tryz.prog G ent53 :=
 ent_ok hG mixedF (fn := Tryz.f53) (d := dc53) (crs := [(.tmp 4)]) (hint := []) (TT := [ent44]) (SH := SHF) rfl rfl (by kernel_rfl) (splitsNil (by kernel_rfl)) (by decide) rfl ⟨h44, trivial⟩ eq53
include hG in
theorem ok65 : TEnt.Ok Tryz.prog G ent65 :=
 ent_ok hG mixedF (fn := Tryz.f65) (d := dc65) (crs := [(.tmp 4)]) (hint := []) (TT := []) (SH := SHF) rfl rfl (by kernel_rfl) (splitsNil (by kernel_rfl)) (by decide) rfl trivial eq65
include hG in
theorem ok87 : TEnt.Ok Tryz.prog G ent87 :=
 ent_ok hG mixedF (fn := Tryz.f87) (d := dc87) (crs := [(.tmp 4)]) (hint := []) (TT := []) (SH := SHF) rfl rfl (by kernel_rfl) (splitsNil (by kernel_rfl)) (by decide) rfl trivial eq87
include hG in
theorem ok66 (h87 : TEnt.Ok Tryz.prog G ent87) : TEnt.Ok Tryz.prog G ent66 :=
 ent_ok hG mixedF (fn := Tryz.f66) (d := dc66) (crs := [(.tmp 6), (.tmp 7)]) (hint := []) (TT := [ent87]) (SH := SHF) rfl rfl (by kernel_rfl) (splitsNil (by kernel_rfl)) (by decide) rfl ⟨h87, trivial⟩ eq66
include hG in
theorem ok59 : TEnt.Ok Tryz.prog G ent59 :=
 ent_ok hG mixedF (fn := Tryz.f59) (d := dc59) (crs := [(.cell 4 (some 72)), (.tmp 5)]) (hint := []) (TT := []) (SH := SHF) rfl rfl (by kernel_rfl) (splitsNil (by kernel_rfl)) (by decide) rfl trivial eq59
include hG in
theorem ok24 (h29 : TEnt.Ok Tryz.prog G ent29) (h32 : TEnt.Ok Tryz.prog G ent32) (h45 : TEnt.Ok Tryz.prog G ent45) (h47 : TEnt.Ok Tryz.prog G ent47) (h53 : TEnt.Ok Tryz.prog G ent53) (h54 : TEnt.Ok Tryz.prog G ent54) (h59 : TEnt.Ok Tryz.prog G ent59) (h64 : TEnt.Ok Tryz.prog G ent64) (h65 : TEnt.Ok Tryz.prog G ent65) (h66 : TEnt.Ok Tryz.prog G ent66) : TEnt.Ok Tryz.prog G ent24 :=
 ent_ok hG mixedF (fn := Tryz.f24) (d := dc24) (crs := [(.cell 8 (some 32)), (.tmp 9)]) (hint := []) (TT := [ent29, ent32, ent45, ent47, ent53, ent54, ent59, ent64, ent65, ent66]) (SH := SHF) rfl rfl (by kernel_rfl) (splitsNil (by kernel_rfl)) (by decide) rfl ⟨h29, h32, h45, h47, h53, h54, h59, h64, h65, h66, trivial⟩ eq24
include hG in
theorem ok31 : TEnt.Ok Tryz.prog G ent31 :=
 ent_ok hG mixedF (fn := Tryz.f31) (d := dc31) (crs := [(.tmp 4)]) (hint := []) (TT := []) (SH := SHF) rfl rfl (by kernel_rfl) (splitsNil (by kernel_rfl)) (by decide) rfl trivial eq31
include hG in
theorem ok30 : TEnt.Ok Tryz.prog G ent30 :=
 ent_ok hG mixedF (fn := Tryz.f30) (d := dc30) (crs := [(.tmp 4)]) (hint := []) (TT := []) (SH := SHF) rfl rfl (by kernel_rfl) (splitsNil (by kernel_rfl)) (by decide) rfl trivial eq30
include hG in
theorem ok14 (h30 : TEnt.Ok Tryz.prog G ent30) (h31 : TEnt.Ok Tryz.prog G ent31) : TEnt.Ok Tryz.prog G ent14 :=
 ent_ok hG mixedF (fn := Tryz.f14) (d := dc14) (crs := [(.tmp 4)]) (hint := []) (TT := [ent30, ent31]) (SH := SHF) rfl rfl (by kernel_rfl) (splitsNil (by kernel_rfl)) (by decide) rfl ⟨h30, h31, trivial⟩ eq14
include hG in
theorem ok11 : TEnt.Ok Tryz.prog G ent11 :=
 ent_ok hG mixedF (fn := Tryz.f11) (d := dc11) (crs := [(.tmp 2)]) (hint := []) (TT := []) (SH := SHF) rfl rfl (by kernel_rfl) (splitsNil (by kernel_rfl)) (by decide) rfl trivial eq11
include hG in
theorem ok16 (h11 : TEnt.Ok Tryz.prog G ent11) : TEnt.Ok Tryz.prog G ent16 :=
 ent_ok hG mixedF (fn := Tryz.f16) (d := dc16) (crs := [(.tmp 2)]) (hint := []) (TT := [ent11]) (SH := SHF) rfl rfl (by kernel_rfl) (splitsNil (by kernel_rfl)) (by decide) rfl ⟨h11, trivial⟩ eq16
include hG in
theorem ok58 : TEnt.Ok Tryz.prog G ent58 :=
 ent_ok hG mixedF (fn := Tryz.f58) (d := dc58) (crs := [(.tmp 2)]) (hint := []) (TT := []) (SH := SHF) rfl rfl (by kernel_rfl) (splitsNil (by kernel_rfl)) (by decide) rfl trivial eq58
include hG in
theorem ok22 (h58 : TEnt.Ok Tryz.prog G ent58) (h59 : TEnt.Ok Tryz.prog G ent59) : TEnt.Ok Tryz.prog G ent22 :=
 ent_ok hG mixedF (fn := Tryz.f22) (d := dc22) (crs := [(.tmp 2)]) (hint := []) (TT := [ent58, ent59]) (SH := SHF) rfl rfl (by kernel_rfl) (splitsNil (by kernel_rfl)) (by decide) rfl ⟨h58, h59, trivial⟩ eq22
include hG in
theorem ok74 (h91 : TEnt.Ok Tryz.prog G entJoin) (h92 : TEnt.Ok Tryz.prog G entItoa) : TEnt.Ok Tryz.prog G ent74 :=
 ent_ok hG mixedF (fn := Tryz.f74) (d := dc74) (crs := [(.tmp 2)]) (hint := []) (TT := [entJoin, entItoa]) (SH := SHF) rfl rfl (by kernel_rfl) (splitsNil (by kernel_rfl)) (by decide) rfl ⟨h91, h92, trivial⟩ eq74
include hG in
theorem ok33 (h73 : TEnt.Ok Tryz.prog G ent73) (h74 : TEnt.Ok Tryz.prog G ent74) : TEnt.Ok Tryz.prog G ent33 :=
 ent_ok hG mixedF (fn := Tryz.f33) (d := dc33) (crs := [(.tmp 2)]) (hint := []) (TT := [ent73, ent74]) (SH := SHF) rfl rfl (by kernel_rfl) (splitsNil (by kernel_rfl)) (by decide) rfl ⟨h73, h74, trivial⟩ eq33
include hG in
theorem ok48 (h36 : TEnt.Ok Tryz.prog G ent36) (h37 : TEnt.Ok Tryz.prog G ent37) (h38 : TEnt.Ok Tryz.prog G ent38) (h82 : TEnt.Ok Tryz.prog G ent82) : TEnt.Ok Tryz.prog G ent48 :=
 ent_ok hG mixedF (fn := Tryz.f48) (d := dc48) (crs := [(.tmp 4)]) (hint := []) (TT := [ent36, ent37, ent38, ent82]) (SH := SHF) rfl rfl (by kernel_rfl) (splitsNil (by kernel_rfl)) (by decide) rfl ⟨h36, h37, h38, h82, trivial⟩ eq48
include hG in
theorem ok49 (h37 : TEnt.Ok Tryz.prog G ent37) (h82 : TEnt.Ok Tryz.prog G ent82) : TEnt.Ok Tryz.prog G ent49 :=
 ent_ok hG mixedF (fn := Tryz.f49) (d := dc49) (crs := [(.tmp 2)]) (hint := []) (TT := [ent37, ent82]) (SH := SHF) rfl rfl (by kernel_rfl) (splitsNil (by kernel_rfl)) (by decide) rfl ⟨h37, h82, trivial⟩ eq49
include hG in
theorem ok50 : TEnt.Ok Tryz.prog G ent50 :=
 ent_ok hG mixedF (fn := Tryz.f50) (d := dc50) (crs := [(.tmp 2)]) (hint := []) (TT := []) (SH := SHF) rfl rfl (by kernel_rfl) (splitsNil (by kernel_rfl)) (by decide) rfl trivial eq50
include hG in
theorem ok15 (h33 : TEnt.Ok Tryz.prog G ent33) (h36 : TEnt.Ok Tryz.prog G ent36) (h39 : TEnt.Ok Tryz.prog G ent39) (h48 : TEnt.Ok Tryz.prog G ent48) (h49 : TEnt.Ok Tryz.prog G ent49) (h50 : TEnt.Ok Tryz.prog G ent50) : TEnt.Ok Tryz.prog G ent15 :=
 ent_ok hG mixedF (fn := Tryz.f15) (d := dc15) (crs := [(.tmp 2)]) (hint := []) (TT := [ent33, ent36, ent39, ent48, ent49, ent50]) (SH := SHF) rfl rfl (by kernel_rfl) (splitsNil (by kernel_rfl)) (by decide) rfl ⟨h33, h36, h39, h48, h49, h50, trivial⟩ eq15
include hG in
theorem ok21 : TEnt.Ok Tryz.prog G ent21 :=
 ent_ok hG mixedF (fn := Tryz.f21) (d := dc21) (crs := [(.tmp 2)]) (hint := []) (TT := []) (SH := SHF) rfl rfl (by kernel_rfl) (splitsNil (by kernel_rfl)) (by decide) rfl trivial eq21
include hG in
theorem ok51 (h37 : TEnt.Ok Tryz.prog G ent37) : TEnt.Ok Tryz.prog G ent51 :=
 ent_ok hG mixedF (fn := Tryz.f51) (d := dc51) (crs := [(.tmp 4)]) (hint := []) (TT := [ent37]) (SH := SHF) rfl rfl (by kernel_rfl) (splitsNil (by kernel_rfl)) (by decide) rfl ⟨h37, trivial⟩ eq51
include hG in
theorem ok57 (h40 : TEnt.Ok Tryz.prog G ent40) : TEnt.Ok Tryz.prog G ent57 :=
 ent_ok hG mixedF (fn := Tryz.f57) (d := dc57) (crs := [(.tmp 2)]) (hint := []) (TT := [ent40]) (SH := SHF) rfl rfl (by kernel_rfl) (splitsNil (by kernel_rfl)) (by decide) rfl ⟨h40, trivial⟩ eq57
include hG in
theorem ok56 (h57 : TEnt.Ok Tryz.prog G ent57) : TEnt.Ok Tryz.prog G ent56 :=
 ent_ok hG mixedF (fn := Tryz.f56) (d := dc56) (crs := [(.tmp 2)]) (hint := []) (TT := [ent57]) (SH := SHF) rfl rfl (by kernel_rfl) (splitsNil (by kernel_rfl)) (by decide) rfl ⟨h57, trivial⟩ eq56
include hG in
theorem ok83 (h56 : TEnt.Ok Tryz.prog G ent56) : TEnt.Ok Tryz.prog G ent83 :=
 ent_ok hG mixedF (fn := Tryz.f83) (d := dc83) (crs := [(.tmp 4)]) (hint := []) (TT := [ent56]) (SH := SHF) rfl rfl (by kernel_rfl) (splitsNil (by kernel_rfl)) (by decide) rfl ⟨h56, trivial⟩ eq83
include hG in
theorem ok55 (h83 : TEnt.Ok Tryz.prog G ent83) : TEnt.Ok Tryz.prog G ent55 :=
 ent_ok hG mixedF (fn := Tryz.f55) (d := dc55) (crs := [(.tmp 4)]) (hint := []) (TT := [ent83]) (SH := SHF) rfl rfl (by kernel_rfl) (splitsNil (by kernel_rfl)) (by decide) rfl ⟨h83, trivial⟩ eq55
include hG in
theorem ok20 (h55 : TEnt.Ok Tryz.prog G ent55) : TEnt.Ok Tryz.prog G ent20 :=
 ent_ok hG mixedF (fn := Tryz.f20) (d := dc20) (crs := [(.tmp 2)]) (hint := []) (TT := [ent55]) (SH := SHF) rfl rfl (by kernel_rfl) (splitsNil (by kernel_rfl)) (by decide) rfl ⟨h55, trivial⟩ eq20
include hG in
theorem ok101 : TEnt.Ok Tryz.prog G ent101 :=
 ent_ok hG mixedF (fn := Tryz.f101) (d := dc101) (crs := [(.tmp 3)]) (hint := []) (TT := []) (SH := SHF) rfl rfl (by kernel_rfl) (splitsNil (by kernel_rfl)) (by decide) rfl trivial eq101
include hG in
theorem ok100 (h101 : TEnt.Ok Tryz.prog G ent101) : TEnt.Ok Tryz.prog G ent100 :=
 ent_ok hG mixedF (fn := Tryz.f100) (d := dc100) (crs := [(.tmp 4)]) (hint := []) (TT := [ent101]) (SH := SHF) rfl rfl (by kernel_rfl) (splitsNil (by kernel_rfl)) (by decide) rfl ⟨h101, trivial⟩ eq100
include hG in
theorem ok84 (h100 : TEnt.Ok Tryz.prog G ent100) : TEnt.Ok Tryz.prog G ent84 :=
 ent_ok hG mixedF (fn := Tryz.f84) (d := dc84) (crs := [(.tmp 4)]) (hint := [(1, 3)]) (TT := [ent100]) (SH := SHF) rfl rfl (by kernel_rfl) (splitsNil (by kernel_rfl)) (by decide) rfl ⟨h100, trivial⟩ eq84
include hG in
theorem ok60 (h84 : TEnt.Ok Tryz.prog G ent84) : TEnt.Ok Tryz.prog G ent60 :=
 ent_ok hG mixedF (fn := Tryz.f60) (d := dc60) (crs := [(.cell 4 (some 72)), (.tmp 5)]) (hint := []) (TT := [ent84]) (SH := SHF) rfl rfl (by kernel_rfl) (splitsNil (by kernel_rfl)) (by decide) rfl ⟨h84, trivial⟩ eq60
include hG in
theorem ok85 : TEnt.Ok Tryz.prog G ent85 :=
 ent_ok hG mixedF (fn := Tryz.f85) (d := dc85) (crs := [(.tmp 4)]) (hint := []) (TT := []) (SH := SHF) rfl rfl (by kernel_rfl) (splitsNil (by kernel_rfl)) (by decide) rfl trivial eq85
include hG in
theorem ok61 (h85 : TEnt.Ok Tryz.prog G ent85) : TEnt.Ok Tryz.prog G ent61 :=
 ent_ok hG mixedF (fn := Tryz.f61) (d := dc61) (crs := [(.tmp 4)]) (hint := []) (TT := [ent85]) (SH := SHF) rfl rfl (by kernel_rfl) (splitsNil (by kernel_rfl)) (by decide) rfl ⟨h85, trivial⟩ eq61
include hG in
theorem ok86 (h102 : TEnt.Ok Tryz.prog G entCutP) : TEnt.Ok Tryz.prog G ent86 :=
 ent_ok hG mixedF (fn := Tryz.f86) (d := dc86) (crs := [(.tmp 6), (.tmp 7)]) (hint := []) (TT := [entCutP]) (SH := SHF) rfl rfl (by kernel_rfl) (splitsNil (by kernel_rfl)) (by decide) rfl ⟨h102, trivial⟩ eq86
include hG in
theorem ok62 (h38 : TEnt.Ok Tryz.prog G ent38) (h86 : TEnt.Ok Tryz.prog G ent86) : TEnt.Ok Tryz.prog G ent62 :=
 ent_ok hG mixedF (fn := Tryz.f62) (d := dc62) (crs := [(.tmp 6), (.tmp 7)]) (hint := []) (TT := [ent38, ent86]) (SH := SHF) rfl rfl (by kernel_rfl) (splitsNil (by kernel_rfl)) (by decide) rfl ⟨h38, h86, trivial⟩ eq62
include hG in
theorem ok10 (h12 : TEnt.Ok Tryz.prog G entIngest) (h17 : TEnt.Ok Tryz.prog G entCheck) (h20 : TEnt.Ok Tryz.prog G ent20) (h21 : TEnt.Ok Tryz.prog G ent21) (h23 : TEnt.Ok Tryz.prog G entMigrate) (h25 : TEnt.Ok Tryz.prog G entDamage) (h27 : TEnt.Ok Tryz.prog G entRepair) (h33 : TEnt.Ok Tryz.prog G ent33) : TEnt.Ok Tryz.prog G ent10 :=
 ent_ok hG mixedF (fn := Tryz.f10) (d := dc10) (crs := [(.tmp 0)]) (hint := []) (TT := [entIngest, entCheck, ent20, ent21, entMigrate, entDamage, entRepair, ent33]) (SH := SHF) rfl rfl (by kernel_rfl) (splitsNil (by kernel_rfl)) (by decide) rfl ⟨h12, h17, h20, h21, h23, h25, h27, h33, trivial⟩ eq10
include hG in
theorem ok5 (h10 : TEnt.Ok Tryz.prog G ent10) (h14 : TEnt.Ok Tryz.prog G ent14) (h15 : TEnt.Ok Tryz.prog G ent15) (h16 : TEnt.Ok Tryz.prog G ent16) (h22 : TEnt.Ok Tryz.prog G ent22) (h23 : TEnt.Ok Tryz.prog G entMigrate) (h24 : TEnt.Ok Tryz.prog G ent24) : TEnt.Ok Tryz.prog G ent5 :=
 ent_ok hG mixedF (fn := Tryz.f5) (d := dc5) (crs := [(.tmp 4)]) (hint := []) (TT := [ent10, ent14, ent15, ent16, ent22, entMigrate, ent24]) (SH := SHF) rfl rfl (by kernel_rfl) (splitsNil (by kernel_rfl)) (by decide) rfl ⟨h10, h14, h15, h16, h22, h23, h24, trivial⟩ eq5
end
end Go.Proofs.YtecjedagdpnemaaGreatDoor
