/-
 THE FUNCTIONS AS PLAIN ONES (printed by a program of ours), and that they are what the code's runs give.
-/
import Derived.Test.YtecjedagdpnemaaGreatDoorG
import Derived.Test.YtecjedagdpnemaaGreatDoorAb
namespace Go.Proofs.YtecjedagdpnemaaGreatDoor
open Go Go.Nu
set_option maxRecDepth 100000
set_option linter.unusedVariables false
def SHF : List (TypeId × Sh) := [(3, (.int .i64)), (5, .byte), (9, .str), (30, (.sl 65 shFix)), (63, shEdn), (65, shFix), (70, shFile), (72, shFmt), (133, (.arr 133 .bool)), (134, (.arr 134 .bool)), (153, (.arr 153 .byte)), (171, (.arr 171 (.int .u64))), (172, (.arr 172 .byte)), (174, (.arr 174 .byte)), (177, (.arr 177 (.agg 176 (.pair .byte .byte)))), (181, (.arr 181 .byte)), (182, (.arr 182 .byte))]
noncomputable def F153 (a0 : Int) : Option (Bool) :=
 bnd (IntKind.wrap .i64 (a0 - (1 : Int))) fun x1 =>
 bnd (andI .i64 a0 x1) fun x2 =>
 some (decide (x2 = (0 : Int)))
def dc153 : DC :=
 (.seq (.reg [Mb 2 false])
 (.seq (.reg [Mt 3 0, Mt 4 0, Ai 5 .sub 4 1, Ar 6 .and 3 5, Ai 7 .eql 6 0, Mt 2 7])
 .ret))
noncomputable def ent153 : TEnt := ⟨153, [(.int .i64)], .bool, fun x => F153 x, .plain⟩
theorem eq153 (x : dens ent153.as) : ent153.F x = evF [] SHF dc153 [(.tmp 2)] ent153.as ent153.rs x := by kernel_rfl
noncomputable def F139 (a0 : List (UInt8)) (a1 : Int) (a2 : Int) (a3 : Bool) (a4 : Bool) : Option (List (UInt8) × List UInt8) :=
 cond (decide (a2 < (2 : Int)))
 (none)
 (cond (decide (a2 = (10 : Int)))
 (none)
 (cond (decide ((36 : Int) < a2))
 (none)
 (jn (σ := Int) (fun nextj1 =>
 cond (a3)
 (bnd (IntKind.wrap .u64 (0 - a1)) fun x2 =>
 nextj1 x2)
 (nextj1 a1)) fun j1 =>
 jn (σ := Int × List (UInt8)) (fun nextj3 =>
 bindO (F153 a2) fun y4 =>
 cond (y4)
 (bindO (fTZ (IntKind.wrap .u64 a2)) fun y5 =>
 bnd (IntKind.wrap .u64 ((IntKind.wrap .u64 a2) - (1 : Int))) fun x6 =>
 loopK (σ := Int × Int × List (UInt8)) (fun p7 againp7 =>
 cond (decide ((IntKind.wrap .u64 a2) ≤ p7.1))
 (bnd (IntKind.wrap .i64 (p7.2.1 - (1 : Int))) fun x8 =>
 bnd (andI .u64 p7.1 x6) fun x9 =>
 gd (0 ≤ x9 ∧ x9 < (List.length ([48, 49, 50, 51, 52, 53, 54, 55, 56, 57, 97, 98, 99, 100, 101, 102, 103, 104, 105, 106, 107, 108, 109, 110, 111, 112, 113, 114, 115, 116, 117, 118, 119, 120, 121, 122] : List UInt8) : Int)) <|
 gd (0 ≤ x8 ∧ x8 < (List.length p7.2.2 : Int)) <|
 gd ((Int.toNat x8) < List.length p7.2.2) <|
 gd (0 ≤ (IntKind.wrap .u64 y5)) <|
 bnd (shrI .u64 p7.1 (IntKind.wrap .u64 y5)) fun x10 =>
 againp7 (x10, x8, (List.set p7.2.2 (Int.toNat x8) (List.getD ([48, 49, 50, 51, 52, 53, 54, 55, 56, 57, 97, 98, 99, 100, 101, 102, 103, 104, 105, 106, 107, 108, 109, 110, 111, 112, 113, 114, 115, 116, 117, 118, 119, 120, 121, 122] : List UInt8) (Int.toNat x9) 0))))
 (bnd (IntKind.wrap .i64 (p7.2.1 - (1 : Int))) fun x11 =>
 gd (0 ≤ p7.1 ∧ p7.1 < (List.length ([48, 49, 50, 51, 52, 53, 54, 55, 56, 57, 97, 98, 99, 100, 101, 102, 103, 104, 105, 106, 107, 108, 109, 110, 111, 112, 113, 114, 115, 116, 117, 118, 119, 120, 121, 122] : List UInt8) : Int)) <|
 gd (0 ≤ x11 ∧ x11 < (List.length p7.2.2 : Int)) <|
 gd ((Int.toNat x11) < List.length p7.2.2) <|
 nextj3 (x11, (List.set p7.2.2 (Int.toNat x11) (List.getD ([48, 49, 50, 51, 52, 53, 54, 55, 56, 57, 97, 98, 99, 100, 101, 102, 103, 104, 105, 106, 107, 108, 109, 110, 111, 112, 113, 114, 115, 116, 117, 118, 119, 120, 121, 122] : List UInt8) (Int.toNat p7.1) 0))))) (j1, (65 : Int), (List.replicate 65 (UInt8.ofNat (Int.toNat (0 : Int))))))
 (loopK (σ := Int × Int × List (UInt8)) (fun p12 againp12 =>
 cond (decide ((IntKind.wrap .u64 a2) ≤ p12.1))
 (bnd (IntKind.wrap .i64 (p12.2.1 - (1 : Int))) fun x13 =>
 gd ((IntKind.wrap .u64 a2) ≠ 0) <|
 bnd (IntKind.wrap .u64 (Int.tdiv p12.1 (IntKind.wrap .u64 a2))) fun x14 =>
 bnd (IntKind.wrap .u64 (x14 * (IntKind.wrap .u64 a2))) fun x15 =>
 bnd (IntKind.wrap .u64 (p12.1 - x15)) fun x16 =>
 gd (0 ≤ x16 ∧ x16 < (List.length ([48, 49, 50, 51, 52, 53, 54, 55, 56, 57, 97, 98, 99, 100, 101, 102, 103, 104, 105, 106, 107, 108, 109, 110, 111, 112, 113, 114, 115, 116, 117, 118, 119, 120, 121, 122] : List UInt8) : Int)) <|
 gd (0 ≤ x13 ∧ x13 < (List.length p12.2.2 : Int)) <|
 gd ((Int.toNat x13) < List.length p12.2.2) <|
 againp12 (x14, x13, (List.set p12.2.2 (Int.toNat x13) (List.getD ([48, 49, 50, 51, 52, 53, 54, 55, 56, 57, 97, 98, 99, 100, 101, 102, 103, 104, 105, 106, 107, 108, 109, 110, 111, 112, 113, 114, 115, 116, 117, 118, 119, 120, 121, 122] : List UInt8) (Int.toNat x16) 0))))
 (bnd (IntKind.wrap .i64 (p12.2.1 - (1 : Int))) fun x17 =>
 gd (0 ≤ p12.1 ∧ p12.1 < (List.length ([48, 49, 50, 51, 52, 53, 54, 55, 56, 57, 97, 98, 99, 100, 101, 102, 103, 104, 105, 106, 107, 108, 109, 110, 111, 112, 113, 114, 115, 116, 117, 118, 119, 120, 121, 122] : List UInt8) : Int)) <|
 gd (0 ≤ x17 ∧ x17 < (List.length p12.2.2 : Int)) <|
 gd ((Int.toNat x17) < List.length p12.2.2) <|
 nextj3 (x17, (List.set p12.2.2 (Int.toNat x17) (List.getD ([48, 49, 50, 51, 52, 53, 54, 55, 56, 57, 97, 98, 99, 100, 101, 102, 103, 104, 105, 106, 107, 108, 109, 110, 111, 112, 113, 114, 115, 116, 117, 118, 119, 120, 121, 122] : List UInt8) (Int.toNat p12.1) 0))))) (j1, (65 : Int), (List.replicate 65 (UInt8.ofNat (Int.toNat (0 : Int))))))) fun j3 =>
 jn (σ := Int × List (UInt8)) (fun nextj18 =>
 cond (a3)
 (bnd (IntKind.wrap .i64 (j3.1 - (1 : Int))) fun x19 =>
 gd (0 ≤ x19 ∧ x19 < (List.length j3.2 : Int)) <|
 gd ((Int.toNat x19) < List.length j3.2) <|
 gd ((0 : Int) ≤ (45 : Int) ∧ (45 : Int) < (256 : Int)) <|
 nextj18 (x19, (List.set j3.2 (Int.toNat x19) (UInt8.ofNat (Int.toNat (45 : Int))))))
 (nextj18 (j3.1, j3.2))) fun j18 =>
 cond (a4)
 (none)
 (gd (0 ≤ j18.1 ∧ j18.1 ≤ (List.length j18.2 : Int)) <|
 bnd (List.drop (Int.toNat j18.1) j18.2) fun x20 =>
 some (([] : List (UInt8)), x20)))))
def dc139 : DC :=
 (.seq (.reg [Nl 10 5, ⟨none, (.mv (some 11) (.v (.str [])))⟩])
 (.seq (.seq (.reg [Mt 19 2, Ai 20 .lss 19 2, Mt 21 20, Gd 21 (Mt 22 2), Gd 21 (Ai 23 .eql 22 10), Po 24 21 23, Mt 25 24, Gd 25 (Mt 26 2), Gd 25 (Ai 27 .gtr 26 36), Po 28 25 27])
 (.cond (.t 28)
 (.reg [⟨none, (.mi 29 9 (.v (.str [115, 116, 114, 99, 111, 110, 118, 58, 32, 105, 108, 108, 101, 103, 97, 108, 32, 65, 112, 112, 101, 110, 100, 73, 110, 116, 47, 70, 111, 114, 109, 97, 116, 73, 110, 116, 32, 98, 97, 115, 101])))⟩, ⟨none, (.no none)⟩])
 .skip))
 (.seq (.reg [⟨none, (.al 12 (.agg 172 (List.replicate 65 (.int .u8 0))))⟩])
 (.seq (.reg [Mi 13 65])
 (.jn ⟨[(1, (.lf (.int .u64)))], [], [30, 31, 32].map .s⟩ (.seq (.reg [Mt 30 3])
 (.cond (.t 30)
 (.reg [Mt 31 1, ⟨none, (.un 32 .neg (.t 31))⟩, Mt 1 32])
 .skip))
 (.jn ⟨[(13, (.lf (.int .i64)))], [(12, (.lf (.arr 172 .byte)))], [1, 14, 15, 16, 17, 18, 33, 34, 35, 36, 37, 38, 39, 40, 41, 42, 43, 44, 45, 46, 47, 48, 49, 50, 51, 52, 53, 54, 55, 56, 57, 58, 59, 60, 61, 62, 63, 64, 65, 66, 67, 68, 69, 70, 71, 72, 73, 74, 75, 76, 77, 78, 79, 80, 81, 82, 83, 84, 85, 86, 87, 88].map .s⟩ (.seq (.reg [Mt 33 2, Ca 34 153 33])
 (.cond (.t 34)
 (.seq (.reg [Mt 35 2, ⟨none, (.cvi 36 .u64 (.t 35))⟩, Ca 37 154 36, ⟨none, (.cvi 38 .u64 (.t 37))⟩, Mt 14 38])
 (.seq (.reg [Mt 39 2, ⟨none, (.cvi 40 .u64 (.t 39))⟩, Mt 15 40])
 (.seq (.reg [Mt 41 2, ⟨none, (.cvi 42 .u64 (.t 41))⟩, ⟨none, (.ar 43 .sub (.t 42) (.v (.int .u64 1)))⟩, Mt 16 43])
 (.seq (.block 0 (.loop ⟨[(1, (.lf (.int .u64))), (13, (.lf (.int .i64)))], [(12, (.lf (.arr 172 .byte)))], [44, 45, 46, 47, 48, 49, 50, 51, 52, 53, 54, 55, 56, 57].map .s⟩ (.seq (.seq (.reg [Mt 44 1, Mt 45 15, Ar 46 .geq 44 45])
 (.cond (.t 46)
 .skip
 (.exit 0)))
 (.block 1 (.seq (.reg [Mt 47 13, Ai 48 .sub 47 1, Mt 13 48])
 (.seq (.reg [Mt 49 13, Mt 50 1, Mt 51 16, Ar 52 .and 50 51, ⟨none, (.ix 53 (.v (.str [48, 49, 50, 51, 52, 53, 54, 55, 56, 57, 97, 98, 99, 100, 101, 102, 103, 104, 105, 106, 107, 108, 109, 110, 111, 112, 113, 114, 115, 116, 117, 118, 119, 120, 121, 122])) (.t 52))⟩, ⟨none, (.aa 54 172 (.t 12) (.t 49))⟩, Su 54 53])
 (.reg [Mt 55 1, Mt 56 14, Ar 57 .shr 55 56, Mt 1 57])))))))
 (.seq (.reg [Mt 58 13, Ai 59 .sub 58 1, Mt 13 59])
 (.reg [Mt 60 13, Mt 61 1, ⟨none, (.ix 62 (.v (.str [48, 49, 50, 51, 52, 53, 54, 55, 56, 57, 97, 98, 99, 100, 101, 102, 103, 104, 105, 106, 107, 108, 109, 110, 111, 112, 113, 114, 115, 116, 117, 118, 119, 120, 121, 122])) (.t 61))⟩, ⟨none, (.aa 63 172 (.t 12) (.t 60))⟩, Su 63 62]))))))
 (.seq (.reg [Mt 64 2, ⟨none, (.cvi 65 .u64 (.t 64))⟩, Mt 17 65])
 (.seq (.block 2 (.loop ⟨[(1, (.lf (.int .u64))), (13, (.lf (.int .i64)))], [(12, (.lf (.arr 172 .byte)))], [18, 66, 67, 68, 69, 70, 71, 72, 73, 74, 75, 76, 77, 78, 79, 80, 81, 82].map .s⟩ (.seq (.seq (.reg [Mt 66 1, Mt 67 17, Ar 68 .geq 66 67])
 (.cond (.t 68)
 .skip
 (.exit 2)))
 (.block 3 (.seq (.reg [Mt 69 13, Ai 70 .sub 69 1, Mt 13 70])
 (.seq (.reg [Mt 71 1, Mt 72 17, Ar 73 .quo 71 72, Mt 18 73])
 (.seq (.reg [Mt 74 13, Mt 75 1, Mt 76 18, Mt 77 17, Ar 78 .mul 76 77, Ar 79 .sub 75 78, ⟨none, (.ix 80 (.v (.str [48, 49, 50, 51, 52, 53, 54, 55, 56, 57, 97, 98, 99, 100, 101, 102, 103, 104, 105, 106, 107, 108, 109, 110, 111, 112, 113, 114, 115, 116, 117, 118, 119, 120, 121, 122])) (.t 79))⟩, ⟨none, (.aa 81 172 (.t 12) (.t 74))⟩, Su 81 80])
 (.reg [Mt 82 18, Mt 1 82]))))))))
 (.seq (.reg [Mt 83 13, Ai 84 .sub 83 1, Mt 13 84])
 (.reg [Mt 85 13, Mt 86 1, ⟨none, (.ix 87 (.v (.str [48, 49, 50, 51, 52, 53, 54, 55, 56, 57, 97, 98, 99, 100, 101, 102, 103, 104, 105, 106, 107, 108, 109, 110, 111, 112, 113, 114, 115, 116, 117, 118, 119, 120, 121, 122])) (.t 86))⟩, ⟨none, (.aa 88 172 (.t 12) (.t 85))⟩, Su 88 87]))))))
 (.jn ⟨[(13, (.lf (.int .i64)))], [(12, (.lf (.arr 172 .byte)))], [89, 90, 91, 92, 93].map .s⟩ (.seq (.reg [Mt 89 3])
 (.cond (.t 89)
 (.seq (.reg [Mt 90 13, Ai 91 .sub 90 1, Mt 13 91])
 (.reg [Mt 92 13, ⟨none, (.aa 93 172 (.t 12) (.t 92))⟩, ⟨none, (.st none (.t 93) (.v (.int .u8 45)))⟩]))
 .skip))
 (.seq (.seq (.reg [Mt 94 4])
 (.cond (.t 94)
 (.seq (.reg [Mt 95 0, Mt 96 13, ⟨none, (.sa 97 172 5 (.t 12) (some (.t 96)) none)⟩, Ap 98 5 95 97, Mt 10 98])
 .ret)
 .skip))
 (.seq (.seq (.gh 12 [])
 (.reg [Mt 99 13, ⟨none, (.sa 100 172 5 (.t 12) (some (.t 99)) none)⟩, ⟨none, (.cvb 101 (.t 100))⟩, Mt 11 101]))
 .ret)))))))))
noncomputable def ent139 : TEnt := ⟨139, [(.sl 5 .byte), (.int .u64), (.int .i64), .bool, .bool], (.tup (.pair (.sl 5 .byte) .str)), fun x => F139 x.1 x.2.1 x.2.2.1 x.2.2.2.1 x.2.2.2.2, .plain⟩
theorem eq139 (x : dens ent139.as) : ent139.F x = evF [ent153, entTZ] SHF dc139 [(.tmp 10), (.tmp 11)] ent139.as ent139.rs x := by kernel_rfl
noncomputable def F121 (a0 : Int) (a1 : Int) : Option (List UInt8) :=
 cond (decide (a1 = (10 : Int)))
 (cond (decide (a0 < (100 : Int)))
 (none)
 (none))
 (bindO (F139 ([] : List (UInt8)) a0 a1 false false) fun y1 =>
 some y1.2)
def dc121 : DC :=
 (.seq (.reg [⟨none, (.mv (some 4) (.v (.str [])))⟩])
 (.seq (.seq (.reg [Mt 9 1, Ai 10 .eql 9 10])
 (.cond (.t 10)
 (.seq (.seq (.reg [Mt 11 0, ⟨none, (.ar 12 .lss (.t 11) (.v (.int .u64 100)))⟩])
 (.cond (.t 12)
 (.seq (.reg [Mt 13 0, ⟨none, (.cvi 14 .i64 (.t 13))⟩, Ca 15 136 14, Mt 4 15])
 .ret)
 .skip))
 (.seq (.reg [⟨none, (.al 5 (.agg 153 [(.int .u8 0), (.int .u8 0), (.int .u8 0), (.int .u8 0), (.int .u8 0), (.int .u8 0), (.int .u8 0), (.int .u8 0), (.int .u8 0), (.int .u8 0), (.int .u8 0), (.int .u8 0), (.int .u8 0), (.int .u8 0), (.int .u8 0), (.int .u8 0), (.int .u8 0), (.int .u8 0), (.int .u8 0), (.int .u8 0), (.int .u8 0), (.int .u8 0), (.int .u8 0), (.int .u8 0)]))⟩])
 (.seq (.reg [Mt 16 0, Ca 17 137 16, Mt 6 17])
 (.seq (.reg [Mt 18 6, ⟨none, (.sa 19 153 5 (.t 5) none (some (.t 18)))⟩, Mt 20 0, ⟨none, (.cb (some 21) 138 [(.t 19), (.t 20)])⟩])
 (.seq (.reg [Mt 22 6, ⟨none, (.sa 23 153 5 (.t 5) none (some (.t 22)))⟩, ⟨none, (.cvb 24 (.t 23))⟩, Mt 4 24])
 .ret)))))
 .skip))
 (.seq (.reg [Mt 26 0, Mt 27 1, ⟨none, (.ca (some 28) 139 [(.v (.sl none 0 [])), (.t 26), (.t 27), (.v (.bool false)), (.v (.bool false))])⟩, Mt 25 28, Ex 29 0 25, Ex 30 1 25, Mt 7 29, Mt 8 30])
 (.seq (.reg [Mt 31 8, Mt 4 31])
 .ret))))
noncomputable def ent121 : TEnt := ⟨121, [(.int .u64), (.int .i64)], .str, fun x => F121 x.1 x.2, .plain⟩
theorem eq121 (x : dens ent121.as) : ent121.F x = evF [ent139] SHF dc121 [(.tmp 4)] ent121.as ent121.rs x := by kernel_rfl
noncomputable def F104 (a0 : Int) (a1 : Int) : Option (List UInt8) :=
 bindO (F121 a0 a1) fun y1 =>
 some y1
def dc104 : DC :=
 (.seq (.reg [⟨none, (.mv (some 4) (.v (.str [])))⟩])
 (.seq (.reg [Mt 5 0, Mt 6 1, Cb 7 121 5 6, Mt 4 7])
 .ret))
noncomputable def ent104 : TEnt := ⟨104, [(.int .u64), (.int .i64)], .str, fun x => F104 x.1 x.2, .plain⟩
theorem eq104 (x : dens ent104.as) : ent104.F x = evF [ent121] SHF dc104 [(.tmp 4)] ent104.as ent104.rs x := by kernel_rfl
noncomputable def F90 (a0 : List (List UInt8)) : Option (List UInt8) :=
 loopK (σ := Int × Int) (fun p1 againp1 =>
 cond (decide (p1.2 < (List.length a0 : Int)))
 (gd (0 ≤ p1.2 ∧ p1.2 < (List.length a0 : Int)) <|
 loopK (σ := Int × Int) (fun p2 againp2 =>
 cond (decide (p2.2 < (List.length (List.getD a0 (Int.toNat p1.2) []) : Int)))
 (gd (0 ≤ p2.2 ∧ p2.2 < (List.length (List.getD a0 (Int.toNat p1.2) []) : Int)) <|
 bnd (xorI .u64 p2.1 (IntKind.wrap .u64 (UInt8.toNat (List.getD (List.getD a0 (Int.toNat p1.2) []) (Int.toNat p2.2) 0) : Int))) fun x3 =>
 bnd (IntKind.wrap .u64 (x3 * (1099511628211 : Int))) fun x4 =>
 bnd (IntKind.wrap .i64 (p2.2 + (1 : Int))) fun x5 =>
 againp2 (x4, x5))
 (bnd (IntKind.wrap .i64 (p1.2 + (1 : Int))) fun x6 =>
 againp1 (p2.1, x6))) (p1.1, (0 : Int)))
 (gd (0 ≤ (33 : Int)) <|
 bnd (shrI .u64 p1.1 (33 : Int)) fun x7 =>
 bnd (xorI .u64 p1.1 x7) fun x8 =>
 bnd (IntKind.wrap .u64 (x8 * (18397679294719823053 : Int))) fun x9 =>
 gd (0 ≤ (33 : Int)) <|
 bnd (shrI .u64 x9 (33 : Int)) fun x10 =>
 bnd (xorI .u64 x9 x10) fun x11 =>
 bnd (IntKind.wrap .u64 (x11 * (14181476777654086739 : Int))) fun x12 =>
 gd (0 ≤ (33 : Int)) <|
 bnd (shrI .u64 x12 (33 : Int)) fun x13 =>
 bnd (xorI .u64 x12 x13) fun x14 =>
 bindO (F104 x14 (16 : Int)) fun y15 =>
 bnd (IntKind.wrap .i64 ((16 : Int) - (List.length y15 : Int))) fun x16 =>
 bindO (fRepeat ([48] : List UInt8) x16) fun y17 =>
 gd (List.length y17 + List.length y15 ≤ big) <|
 bnd (y17 ++ y15) fun x18 =>
 some x18)) ((14695981039346656037 : Int), (0 : Int))
def dc90 : DC :=
 (.seq (.reg [⟨none, (.mv (some 2) (.v (.str [])))⟩])
 (.seq (.reg [⟨none, (.mv (some 3) (.v (.int .u64 14695981039346656037)))⟩])
 (.seq (.seq (.reg [Mt 8 0, Ln 9 9 8, Mi 10 0])
 (.block 0 (.loop ⟨[(3, (.lf (.int .u64))), (10, (.lf (.int .i64)))], [], [5, 6, 11, 12, 13, 14, 15, 16, 17, 18, 19, 20, 21, 22, 23, 24, 25, 26, 27].map .s⟩ (.seq (.reg [Ar 11 .lss 10 9])
 (.seq (.cond (.t 11)
 .skip
 (.exit 0))
 (.seq (.block 1 (.seq (.reg [Ea 12 9 8 10, Ld 13 12, Mt 5 13])
 (.seq (.reg [Mt 14 5, Lm 15 14, Mi 16 0])
 (.block 2 (.loop ⟨[(3, (.lf (.int .u64))), (16, (.lf (.int .i64)))], [], [6, 17, 18, 19, 20, 21, 22, 23, 24, 25, 26].map .s⟩ (.seq (.reg [Ar 17 .lss 16 15])
 (.seq (.cond (.t 17)
 .skip
 (.exit 2))
 (.seq (.block 3 (.seq (.reg [Mt 18 16, Mt 6 18])
 (.reg [Mt 19 3, Mt 20 5, Mt 21 6, ⟨none, (.ix 22 (.t 20) (.t 21))⟩, ⟨none, (.cvi 23 .u64 (.t 22))⟩, Ar 24 .xor 19 23, ⟨none, (.ar 25 .mul (.t 24) (.v (.int .u64 1099511628211)))⟩, Mt 3 25])))
 (.reg [Ai 26 .add 16 1, Mt 16 26])))))))))
 (.reg [Ai 27 .add 10 1, Mt 10 27])))))))
 (.seq (.reg [Mt 28 3, Mt 29 3, ⟨none, (.ar 30 .shr (.t 29) (.v (.int .u64 33)))⟩, Ar 31 .xor 28 30, Mt 3 31])
 (.seq (.reg [Mt 32 3, ⟨none, (.ar 33 .mul (.t 32) (.v (.int .u64 18397679294719823053)))⟩, Mt 3 33])
 (.seq (.reg [Mt 34 3, Mt 35 3, ⟨none, (.ar 36 .shr (.t 35) (.v (.int .u64 33)))⟩, Ar 37 .xor 34 36, Mt 3 37])
 (.seq (.reg [Mt 38 3, ⟨none, (.ar 39 .mul (.t 38) (.v (.int .u64 14181476777654086739)))⟩, Mt 3 39])
 (.seq (.reg [Mt 40 3, Mt 41 3, ⟨none, (.ar 42 .shr (.t 41) (.v (.int .u64 33)))⟩, Ar 43 .xor 40 42, Mt 3 43])
 (.seq (.reg [Mt 44 3, ⟨none, (.ca (some 45) 104 [(.t 44), (.v (.int .i64 16))])⟩, Mt 7 45])
 (.seq (.reg [Mt 46 7, Lm 47 46, ⟨none, (.ar 48 .sub (.v (.int .i64 16)) (.t 47))⟩, ⟨none, (.ca (some 49) 105 [(.v (.str [48])), (.t 48)])⟩, Mt 50 7, Ar 51 .add 49 50, Mt 2 51])
 .ret))))))))))
noncomputable def ent90 : TEnt := ⟨90, [(.sl 9 .str)], .str, fun x => F90 x, .plain⟩
theorem eq90 (x : dens ent90.as) : ent90.F x = evF [ent104, entRepeat] SHF dc90 [(.tmp 2)] ent90.as ent90.rs x := by kernel_rfl
noncomputable def F73 (a0 : List UInt8) : Option (List UInt8) :=
 bindO (F90 [a0]) fun y1 =>
 some y1
def dc73 : DC :=
 (.seq (.reg [⟨none, (.mv (some 2) (.v (.str [])))⟩])
 (.seq (.reg [Mt 3 0, ⟨none, (.bs 4 9 none [(.t 3)])⟩, Ca 5 90 4, Mt 2 5])
 .ret))
noncomputable def ent73 : TEnt := ⟨73, [.str], .str, fun x => F73 x, .plain⟩
theorem eq73 (x : dens ent73.as) : ent73.F x = evF [ent90] SHF dc73 [(.tmp 2)] ent73.as ent73.rs x := by kernel_rfl
noncomputable def F71 (a0 : List UInt8) : Option (List UInt8) :=
 loopK (σ := Int × Int) (fun p1 againp1 =>
 cond (decide (p1.2 < (List.length a0 : Int)))
 (gd (0 ≤ p1.2 ∧ p1.2 < (List.length a0 : Int)) <|
 bnd (xorI .u64 p1.1 (IntKind.wrap .u64 (UInt8.toNat (List.getD a0 (Int.toNat p1.2) 0) : Int))) fun x2 =>
 bnd (IntKind.wrap .u64 (x2 * (1099511628211 : Int))) fun x3 =>
 bnd (IntKind.wrap .i64 (p1.2 + (1 : Int))) fun x4 =>
 againp1 (x3, x4))
 (gd (0 ≤ (33 : Int)) <|
 bnd (shrI .u64 p1.1 (33 : Int)) fun x5 =>
 bnd (xorI .u64 p1.1 x5) fun x6 =>
 bnd (IntKind.wrap .u64 (x6 * (18397679294719823053 : Int))) fun x7 =>
 gd (0 ≤ (33 : Int)) <|
 bnd (shrI .u64 x7 (33 : Int)) fun x8 =>
 bnd (xorI .u64 x7 x8) fun x9 =>
 bnd (IntKind.wrap .u64 (x9 * (14181476777654086739 : Int))) fun x10 =>
 gd (0 ≤ (33 : Int)) <|
 bnd (shrI .u64 x10 (33 : Int)) fun x11 =>
 bnd (xorI .u64 x10 x11) fun x12 =>
 loopK (σ := Int × List (UInt8) × Int) (fun p13 againp13 =>
 cond (decide (p13.2.2 < (16 : Int)))
 (gd ((16 : Int) ≠ 0) <|
 bnd (Int.tmod p13.1 (16 : Int)) fun x14 =>
 gd (0 ≤ x14 ∧ x14 < (List.length ([48, 49, 50, 51, 52, 53, 54, 55, 56, 57, 97, 98, 99, 100, 101, 102] : List UInt8) : Int)) <|
 gdN (List.length [(List.getD ([48, 49, 50, 51, 52, 53, 54, 55, 56, 57, 97, 98, 99, 100, 101, 102] : List UInt8) (Int.toNat x14) 0)]) (List.length [(List.getD ([48, 49, 50, 51, 52, 53, 54, 55, 56, 57, 97, 98, 99, 100, 101, 102] : List UInt8) (Int.toNat x14) 0)]) <|
 gd (List.length [(List.getD ([48, 49, 50, 51, 52, 53, 54, 55, 56, 57, 97, 98, 99, 100, 101, 102] : List UInt8) (Int.toNat x14) 0)] + List.length p13.2.1 ≤ big) <|
 bnd ([(List.getD ([48, 49, 50, 51, 52, 53, 54, 55, 56, 57, 97, 98, 99, 100, 101, 102] : List UInt8) (Int.toNat x14) 0)] ++ p13.2.1) fun l15 =>
 gd ((16 : Int) ≠ 0) <|
 bnd (IntKind.wrap .u64 (Int.tdiv p13.1 (16 : Int))) fun x16 =>
 bnd (IntKind.wrap .i64 (p13.2.2 + (1 : Int))) fun x17 =>
 againp13 (x16, l15, x17))
 (some p13.2.1)) (x12, ([] : List (UInt8)), (0 : Int)))) ((14695981039346656037 : Int), (0 : Int))
def dc71 : DC :=
 (.seq (.reg [⟨none, (.mv (some 2) (.v (.str [])))⟩])
 (.seq (.reg [⟨none, (.mv (some 3) (.v (.int .u64 14695981039346656037)))⟩])
 (.seq (.seq (.reg [Mi 4 0])
 (.block 0 (.loop ⟨[(3, (.lf (.int .u64))), (4, (.lf (.int .i64)))], [], [7, 8, 9, 10, 11, 12, 13, 14, 15, 16, 17, 18, 19].map .s⟩ (.seq (.seq (.reg [Mt 7 4, Mt 8 0, Lm 9 8, Ar 10 .lss 7 9])
 (.cond (.t 10)
 .skip
 (.exit 0)))
 (.seq (.block 1 (.reg [Mt 13 3, Mt 14 0, Mt 15 4, ⟨none, (.ix 16 (.t 14) (.t 15))⟩, ⟨none, (.cvi 17 .u64 (.t 16))⟩, Ar 18 .xor 13 17, ⟨none, (.ar 19 .mul (.t 18) (.v (.int .u64 1099511628211)))⟩, Mt 3 19]))
 (.reg [Mt 11 4, Ai 12 .add 11 1, Mt 4 12]))))))
 (.seq (.reg [Mt 20 3, Mt 21 3, ⟨none, (.ar 22 .shr (.t 21) (.v (.int .u64 33)))⟩, Ar 23 .xor 20 22, Mt 3 23])
 (.seq (.reg [Mt 24 3, ⟨none, (.ar 25 .mul (.t 24) (.v (.int .u64 18397679294719823053)))⟩, Mt 3 25])
 (.seq (.reg [Mt 26 3, Mt 27 3, ⟨none, (.ar 28 .shr (.t 27) (.v (.int .u64 33)))⟩, Ar 29 .xor 26 28, Mt 3 29])
 (.seq (.reg [Mt 30 3, ⟨none, (.ar 31 .mul (.t 30) (.v (.int .u64 14181476777654086739)))⟩, Mt 3 31])
 (.seq (.reg [Mt 32 3, Mt 33 3, ⟨none, (.ar 34 .shr (.t 33) (.v (.int .u64 33)))⟩, Ar 35 .xor 32 34, Mt 3 35])
 (.seq (.reg [⟨none, (.bs 36 5 none [])⟩, Mt 5 36])
 (.seq (.seq (.reg [Mi 6 0])
 (.block 2 (.loop ⟨[(3, (.lf (.int .u64))), (5, (.lf (.sl 5 .byte))), (6, (.lf (.int .i64)))], [], [37, 38, 39, 40, 41, 42, 43, 44, 45, 46, 47, 48].map .s ++ [44].map .f⟩ (.seq (.seq (.reg [Mt 37 6, Ai 38 .lss 37 16])
 (.cond (.t 38)
 .skip
 (.exit 2)))
 (.seq (.block 3 (.seq (.reg [Mt 41 3, ⟨none, (.ar 42 .rem (.t 41) (.v (.int .u64 16)))⟩, ⟨none, (.ix 43 (.v (.str [48, 49, 50, 51, 52, 53, 54, 55, 56, 57, 97, 98, 99, 100, 101, 102])) (.t 42))⟩, ⟨none, (.bs 44 5 none [(.t 43)])⟩, Mt 45 5, Ap 46 5 44 45, Mt 5 46])
 (.reg [Mt 47 3, ⟨none, (.ar 48 .quo (.t 47) (.v (.int .u64 16)))⟩, Mt 3 48])))
 (.reg [Mt 39 6, Ai 40 .add 39 1, Mt 6 40]))))))
 (.seq (.reg [Mt 49 5, ⟨none, (.cvb 50 (.t 49))⟩, Mt 2 50])
 .ret)))))))))))
noncomputable def ent71 : TEnt := ⟨71, [.str], .str, fun x => F71 x, .plain⟩
theorem eq71 (x : dens ent71.as) : ent71.F x = evF [] SHF dc71 [(.tmp 2)] ent71.as ent71.rs x := by kernel_rfl
noncomputable def F118 (a0 : List UInt8) (a1 : List UInt8) : Option (List UInt8) :=
 bindO (F90 [([49] : List UInt8), a0, a1]) fun y1 =>
 some y1
def dc118 : DC :=
 (.seq (.reg [⟨none, (.mv (some 4) (.v (.str [])))⟩])
 (.seq (.reg [Mt 5 0, Mt 6 1, ⟨none, (.bs 7 9 none [(.v (.str [49])), (.t 5), (.t 6)])⟩, Ca 8 90 7, Mt 4 8])
 .ret))
noncomputable def ent118 : TEnt := ⟨118, [.str, .str], .str, fun x => F118 x.1 x.2, .plain⟩
theorem eq118 (x : dens ent118.as) : ent118.F x = evF [ent90] SHF dc118 [(.tmp 4)] ent118.as ent118.rs x := by kernel_rfl
noncomputable def F82 (a0 : List UInt8) : Option (Bool) :=
 cond (decide ((List.length a0 : Int) = (16 : Int)))
 (bindO (fTrim a0 ([48, 49, 50, 51, 52, 53, 54, 55, 56, 57, 97, 98, 99, 100, 101, 102] : List UInt8)) fun y1 =>
 some (decide (y1 = ([] : List UInt8))))
 (some false)
def dc82 : DC :=
 (.seq (.reg [Mb 2 false])
 (.seq (.reg [Mt 3 0, Lm 4 3, Ai 5 .eql 4 16, Mt 6 5, Ge 6 (Mt 7 0), ⟨(some (6, true)), (.ca (some 8) 94 [(.t 7), (.v (.str [48, 49, 50, 51, 52, 53, 54, 55, 56, 57, 97, 98, 99, 100, 101, 102]))])⟩, ⟨(some (6, true)), (.ar 9 .eql (.t 8) (.v (.str [])))⟩, Pa 10 6 9, Mt 2 10])
 .ret))
noncomputable def ent82 : TEnt := ⟨82, [.str], .bool, fun x => F82 x, .plain⟩
theorem eq82 (x : dens ent82.as) : ent82.F x = evF [entTrim] SHF dc82 [(.tmp 2)] ent82.as ent82.rs x := by kernel_rfl
noncomputable def F96 (a0 : List (List UInt8)) : Option (List (List UInt8)) :=
 gd (0 ≤ (List.length a0 : Int) ∧ (List.length a0 : Int) = (List.length a0 : Int) ∧ (List.length a0 : Int) ≤ (big : Int)) <|
 loopK (σ := Int × List (List UInt8)) (fun p1 againp1 =>
 cond (decide (p1.1 < (List.length a0 : Int)))
 (gd (0 ≤ p1.1 ∧ p1.1 < (List.length a0 : Int)) <|
 bindO (F90 [([48] : List UInt8), (List.getD a0 (Int.toNat p1.1) [])]) fun y2 =>
 gd (0 ≤ p1.1 ∧ p1.1 < (List.length p1.2 : Int)) <|
 gd ((Int.toNat p1.1) < List.length p1.2) <|
 bnd (IntKind.wrap .i64 (p1.1 + (1 : Int))) fun x3 =>
 againp1 (x3, (List.set p1.2 (Int.toNat p1.1) y2)))
 (some p1.2)) ((0 : Int), (List.replicate (Int.toNat (List.length a0 : Int)) ([] : List UInt8) : List (List UInt8)))
def dc96 : DC :=
 (.seq (.reg [Nl 2 9])
 (.seq (.reg [Mt 6 0, Ln 7 9 6, ⟨none, (.mm 8 9 (.str []) (.t 7) (.t 7))⟩, Mt 3 8])
 (.seq (.seq (.reg [Mt 9 0, Ln 10 9 9, Mi 11 0])
 (.block 0 (.loop ⟨[(11, (.lf (.int .i64)))], [(8, (.lf (.arr 1000009 .str)))], [4, 5, 12, 13, 14, 15, 16, 17, 18, 19, 20, 21, 22].map .s ++ [19].map .f⟩ (.seq (.reg [Ar 12 .lss 11 10])
 (.seq (.cond (.t 12)
 .skip
 (.exit 0))
 (.seq (.block 1 (.seq (.reg [Mt 13 11, Ea 14 9 9 11, Ld 15 14, Mt 4 13, Mt 5 15])
 (.reg [Mt 16 3, Mt 17 4, Mt 18 5, ⟨none, (.bs 19 9 none [(.v (.str [48])), (.t 18)])⟩, Ca 20 90 19, Ea 21 9 16 17, Su 21 20])))
 (.reg [Ai 22 .add 11 1, Mt 11 22])))))))
 (.seq (.seq (.gh 8 [])
 (.reg [Mt 23 3, Mt 2 23]))
 .ret))))
noncomputable def ent96 : TEnt := ⟨96, [(.sl 9 .str)], (.sl 9 .str), fun x => F96 x, .plain⟩
theorem eq96 (x : dens ent96.as) : ent96.F x = evF [ent90] SHF dc96 [(.tmp 2)] ent96.as ent96.rs x := by kernel_rfl
noncomputable def F97 (a0 : List (List UInt8)) : Option (List (List UInt8)) :=
 gdN (List.length ([] : List (List UInt8))) (List.length ([] : List (List UInt8))) <|
 loopK (σ := List (List UInt8) × Int) (fun p1 againp1 =>
 cond (decide (p1.2 < (List.length a0 : Int)))
 (bnd (IntKind.wrap .i64 (p1.2 + (1 : Int))) fun x2 =>
 cond (decide (x2 = (List.length a0 : Int)))
 (gd (0 ≤ p1.2 ∧ p1.2 < (List.length a0 : Int)) <|
 gdN (List.length p1.1) (List.length p1.1) <|
 gd (List.length p1.1 + List.length [(List.getD a0 (Int.toNat p1.2) [])] ≤ big) <|
 bnd (p1.1 ++ [(List.getD a0 (Int.toNat p1.2) [])]) fun l3 =>
 bnd (IntKind.wrap .i64 (p1.2 + (2 : Int))) fun x4 =>
 gdN (List.length l3) (List.length l3) <|
 againp1 (l3, x4))
 (gd (0 ≤ p1.2 ∧ p1.2 < (List.length a0 : Int)) <|
 bnd (IntKind.wrap .i64 (p1.2 + (1 : Int))) fun x5 =>
 gd (0 ≤ x5 ∧ x5 < (List.length a0 : Int)) <|
 bindO (F118 (List.getD a0 (Int.toNat p1.2) []) (List.getD a0 (Int.toNat x5) [])) fun y6 =>
 gdN (List.length p1.1) (List.length p1.1) <|
 gd (List.length p1.1 + List.length [y6] ≤ big) <|
 bnd (p1.1 ++ [y6]) fun l7 =>
 bnd (IntKind.wrap .i64 (p1.2 + (2 : Int))) fun x8 =>
 gdN (List.length l7) (List.length l7) <|
 againp1 (l7, x8)))
 (some p1.1)) (([] : List (List UInt8)), (0 : Int))
def dc97 : DC :=
 (.seq (.reg [Nl 2 9])
 (.seq (.reg [Nl 3 9])
 (.seq (.seq (.reg [Mi 4 0])
 (.block 0 (.loop ⟨[(3, (.row 3 9 .str)), (4, (.lf (.int .i64)))], [], [5, 6, 7, 8, 9, 10, 11, 12, 13, 14, 15, 16, 17, 18, 19, 20, 21, 22, 23, 24, 25, 26, 27, 28, 29, 30, 31, 32, 33, 34, 35].map .s ++ [21, 34].map .f⟩ (.seq (.seq (.reg [Mt 5 4, Mt 6 0, Ln 7 9 6, Ar 8 .lss 5 7])
 (.cond (.t 8)
 .skip
 (.exit 0)))
 (.seq (.block 1 (.seq (.reg [Mt 11 4, Ai 12 .add 11 1, Mt 13 0, Ln 14 9 13, Ar 15 .eql 12 14])
 (.cond (.t 15)
 (.reg [Mt 16 3, Mt 17 0, Mt 18 4, Ea 19 9 17 18, Ld 20 19, ⟨none, (.bs 21 9 none [(.t 20)])⟩, Ap 22 9 16 21, Mt 3 22])
 (.reg [Mt 23 3, Mt 24 0, Mt 25 4, Ea 26 9 24 25, Ld 27 26, Mt 28 0, Mt 29 4, Ai 30 .add 29 1, Ea 31 9 28 30, Ld 32 31, Cb 33 118 27 32, ⟨none, (.bs 34 9 none [(.t 33)])⟩, Ap 35 9 23 34, Mt 3 35]))))
 (.reg [Mt 9 4, Ai 10 .add 9 2, Mt 4 10]))))))
 (.seq (.reg [Mt 36 3, Mt 2 36])
 .ret))))
noncomputable def ent97 : TEnt := ⟨97, [(.sl 9 .str)], (.sl 9 .str), fun x => F97 x, .plain⟩
theorem eq97 (x : dens ent97.as) : ent97.F x = evF [ent118] SHF dc97 [(.tmp 2)] ent97.as ent97.rs x := by kernel_rfl
noncomputable def F78 (a0 : List (List UInt8)) : Option (List UInt8) :=
 cond (decide ((List.length a0 : Int) = (0 : Int)))
 (bindO (F73 ([] : List UInt8)) fun y1 =>
 some y1)
 (bindO (F96 a0) fun y2 =>
 loopK (σ := List (List UInt8)) (fun p3 againp3 =>
 cond (decide ((1 : Int) < (List.length p3 : Int)))
 (bindO (F97 p3) fun y4 =>
 againp3 y4)
 (gd (0 ≤ (0 : Int) ∧ (0 : Int) < (List.length p3 : Int)) <|
 some (List.getD p3 (Int.toNat (0 : Int)) []))) y2)
def dc78 : DC :=
 (.seq (.reg [⟨none, (.mv (some 2) (.v (.str [])))⟩])
 (.seq (.seq (.reg [Mt 4 0, Ln 5 9 4, Ai 6 .eql 5 0])
 (.cond (.t 6)
 (.seq (.reg [⟨none, (.ca (some 7) 73 [(.v (.str []))])⟩, Mt 2 7])
 .ret)
 .skip))
 (.seq (.reg [Mt 8 0, Ca 9 96 8, Mt 3 9])
 (.seq (.block 0 (.loop ⟨[(3, (.lf (.sl 9 .str)))], [], [10, 11, 12, 13, 14].map .s⟩ (.seq (.seq (.reg [Mt 10 3, Ln 11 9 10, Ai 12 .gtr 11 1])
 (.cond (.t 12)
 .skip
 (.exit 0)))
 (.block 1 (.reg [Mt 13 3, Ca 14 97 13, Mt 3 14])))))
 (.seq (.reg [Mt 15 3, ⟨none, (.ea 16 9 (.t 15) (.v (.int .i64 0)))⟩, Ld 17 16, Mt 2 17])
 .ret)))))
noncomputable def ent78 : TEnt := ⟨78, [(.sl 9 .str)], .str, fun x => F78 x, .plain⟩
theorem eq78 (x : dens ent78.as) : ent78.F x = evF [ent73, ent96, ent97] SHF dc78 [(.tmp 2)] ent78.as ent78.rs x := by kernel_rfl
noncomputable def F76 (a0 : List UInt8) : Option (Bool) :=
 cond (decide ((List.length a0 : Int) < (1 : Int)))
 (some false)
 (cond (decide ((60 : Int) < (List.length a0 : Int)))
 (some false)
 (bindO (fTrim a0 ([97, 98, 99, 100, 101, 102, 103, 104, 105, 106, 107, 108, 109, 110, 111, 112, 113, 114, 115, 116, 117, 118, 119, 120, 121, 122, 48, 49, 50, 51, 52, 53, 54, 55, 56, 57, 46, 95, 45, 47] : List UInt8)) fun y1 =>
 cond (!decide (y1 = ([] : List UInt8)))
 (some false)
 (bindO (fSplit a0 ([47] : List UInt8)) fun y2 =>
 loopK (σ := Int) (fun p3 againp3 =>
 cond (decide (p3 < (List.length y2 : Int)))
 (gd (0 ≤ p3 ∧ p3 < (List.length y2 : Int)) <|
 cond (decide ((List.getD y2 (Int.toNat p3) []) = ([] : List UInt8)))
 (some false)
 (cond (decide ((List.getD y2 (Int.toNat p3) []) = ([46] : List UInt8)))
 (some false)
 (cond (decide ((List.getD y2 (Int.toNat p3) []) = ([46, 46] : List UInt8)))
 (some false)
 (bnd (IntKind.wrap .i64 (p3 + (1 : Int))) fun x4 =>
 againp3 x4))))
 (some true)) (0 : Int))))
def dc76 : DC :=
 (.seq (.reg [Mb 2 false])
 (.seq (.seq (.reg [Mt 5 0, Lm 6 5, Ai 7 .lss 6 1, Mt 8 7, Gd 8 (Mt 9 0), Gd 8 (Lm 10 9), Gd 8 (Ai 11 .gtr 10 60), Po 12 8 11, Mt 13 12, Gd 13 (Mt 14 0), ⟨(some (13, false)), (.ca (some 15) 94 [(.t 14), (.v (.str [97, 98, 99, 100, 101, 102, 103, 104, 105, 106, 107, 108, 109, 110, 111, 112, 113, 114, 115, 116, 117, 118, 119, 120, 121, 122, 48, 49, 50, 51, 52, 53, 54, 55, 56, 57, 46, 95, 45, 47]))])⟩, ⟨(some (13, false)), (.ar 16 .neq (.t 15) (.v (.str [])))⟩, Po 17 13 16])
 (.cond (.t 17)
 (.seq (.reg [Mb 2 false])
 .ret)
 .skip))
 (.seq (.seq (.reg [Mt 18 0, ⟨none, (.ca (some 19) 95 [(.t 18), (.v (.str [47]))])⟩, Ln 20 9 19, Mi 21 0])
 (.block 0 (.loop ⟨[(21, (.lf (.int .i64)))], [], [2, 4, 22, 23, 24, 25, 26, 27, 28, 29, 30, 31, 32, 33, 34, 35].map .s⟩ (.seq (.reg [Ar 22 .lss 21 20])
 (.seq (.cond (.t 22)
 .skip
 (.exit 0))
 (.seq (.block 1 (.seq (.reg [Ea 23 9 19 21, Ld 24 23, Mt 4 24])
 (.seq (.reg [Mt 25 4, ⟨none, (.ar 26 .eql (.t 25) (.v (.str [])))⟩, Mt 27 26, Gd 27 (Mt 28 4), ⟨(some (27, false)), (.ar 29 .eql (.t 28) (.v (.str [46])))⟩, Po 30 27 29, Mt 31 30, Gd 31 (Mt 32 4), ⟨(some (31, false)), (.ar 33 .eql (.t 32) (.v (.str [46, 46])))⟩, Po 34 31 33])
 (.cond (.t 34)
 (.seq (.reg [Mb 2 false])
 .ret)
 .skip))))
 (.reg [Ai 35 .add 21 1, Mt 21 35])))))))
 (.seq (.reg [Mb 2 true])
 .ret))))
noncomputable def ent76 : TEnt := ⟨76, [.str], .bool, fun x => F76 x, .plain⟩
theorem eq76 (x : dens ent76.as) : ent76.F x = evF [entTrim, entSplit] SHF dc76 [(.tmp 2)] ent76.as ent76.rs x := by kernel_rfl
noncomputable def F38 (a0 : List (File)) : Option (Int) :=
 cond (decide ((List.length a0 : Int) = (0 : Int)))
 (some (8 : Int))
 (cond (decide ((16 : Int) < (List.length a0 : Int)))
 (some (13 : Int))
 (loopK (σ := Int) (fun p1 againp1 =>
 cond (decide (p1 < (List.length a0 : Int)))
 (gd (0 ≤ p1 ∧ p1 < (List.length a0 : Int)) <|
 bindO (F76 ((List.getD a0 (Int.toNat p1) ([], [])).1)) fun y2 =>
 cond (!y2)
 (some (3 : Int))
 (jn (σ := Bool) (fun nextj3 =>
 cond (decide ((0 : Int) < p1))
 (bnd (IntKind.wrap .i64 (p1 - (1 : Int))) fun x4 =>
 gd (0 ≤ x4 ∧ x4 < (List.length a0 : Int)) <|
 nextj3 (Op.bytesLess ((List.getD a0 (Int.toNat p1) ([], [])).1) ((List.getD a0 (Int.toNat x4) ([], [])).1) || decide ((List.getD a0 (Int.toNat p1) ([], [])).1 = (List.getD a0 (Int.toNat x4) ([], [])).1)))
 (nextj3 false)) fun j3 =>
 cond (j3)
 (some (7 : Int))
 (cond (decide ((2000 : Int) < (List.length ((List.getD a0 (Int.toNat p1) ([], [])).2) : Int)))
 (some (4 : Int))
 (bnd (IntKind.wrap .i64 (p1 + (1 : Int))) fun x5 =>
 againp1 x5))))
 (some (0 : Int))) (0 : Int)))
def dc38 : DC :=
 (.seq (.reg [Mi 2 0])
 (.seq (.seq (.reg [Mt 5 0, Ln 6 70 5, Ai 7 .eql 6 0])
 (.cond (.t 7)
 (.seq (.reg [Mi 2 8])
 .ret)
 .skip))
 (.seq (.seq (.reg [Mt 8 0, Ln 9 70 8, Ai 10 .gtr 9 16])
 (.cond (.t 10)
 (.seq (.reg [Mi 2 13])
 .ret)
 .skip))
 (.seq (.seq (.reg [Mt 11 0, Ln 12 70 11, Mi 13 0])
 (.block 0 (.loop ⟨[(13, (.lf (.int .i64)))], [], [2, 3, 4, 14, 15, 16, 17, 18, 19, 20, 21, 22, 23, 24, 25, 26, 27, 28, 29, 30, 31, 32, 33, 34, 35, 36, 37, 38, 39, 40, 41, 42].map .s ++ [4].map .b⟩ (.seq (.reg [Ar 14 .lss 13 12])
 (.seq (.cond (.t 14)
 .skip
 (.exit 0))
 (.seq (.block 1 (.seq (.reg [Mt 15 13, Ea 16 70 11 13, Lt 17 70 16, ⟨none, (.al 4 (.agg 70 [(.str []), (.str [])]))⟩, Mt 3 15, Sr 70 4 17])
 (.block 2 (.seq (.reg [Fa 19 70 0 4, Ld 20 19, Ca 21 76 20, Un 22 21, Mt 18 22])
 (.cond (.t 18)
 (.seq (.reg [Mi 2 3])
 .ret)
 (.jn ⟨[(23, (.lf .bool))], [], [24, 25, 26, 27, 28, 29, 30, 31, 32, 33, 34, 35, 36].map .s⟩ (.reg [Mt 24 3, Ai 25 .gtr 24 0, Mt 26 25, Ge 26 (Fa 27 70 0 4), Ge 26 (Ld 28 27), Ge 26 (Mt 29 0), Ge 26 (Mt 30 3), Ge 26 (Ai 31 .sub 30 1), Ge 26 (Ea 32 70 29 31), Ge 26 (Fa 33 70 0 32), Ge 26 (Ld 34 33), Ge 26 (Ar 35 .leq 28 34), Pa 36 26 35, Mt 23 36])
 (.cond (.t 23)
 (.seq (.reg [Mi 2 7])
 .ret)
 (.seq (.reg [Fa 38 70 1 4, Ld 39 38, Lm 40 39, Ai 41 .gtr 40 2000, Mt 37 41])
 (.cond (.t 37)
 (.seq (.reg [Mi 2 4])
 .ret)
 .skip)))))))))
 (.reg [Ai 42 .add 13 1, Mt 13 42])))))))
 (.seq (.reg [Mi 2 0])
 .ret)))))
noncomputable def ent38 : TEnt := ⟨38, [(.sl 70 shFile)], (.int .i64), fun x => F38 x, .plain⟩
theorem eq38 (x : dens ent38.as) : ent38.F x = evF [ent76] SHF dc38 [(.tmp 2)] ent38.as ent38.rs x := by kernel_rfl
noncomputable def F40 (a0 : List (File)) : Option (List UInt8) :=
 gdN (List.length ([] : List (List UInt8))) (List.length ([] : List (List UInt8))) <|
 loopK (σ := List (List UInt8) × Int) (fun p1 againp1 =>
 cond (decide (p1.2 < (List.length a0 : Int)))
 (gd (0 ≤ p1.2 ∧ p1.2 < (List.length a0 : Int)) <|
 gd (List.length ((List.getD a0 (Int.toNat p1.2) ([], [])).1) + List.length ([0] : List UInt8) ≤ big) <|
 bnd (((List.getD a0 (Int.toNat p1.2) ([], [])).1) ++ ([0] : List UInt8)) fun x2 =>
 gd (List.length x2 + List.length ((List.getD a0 (Int.toNat p1.2) ([], [])).2) ≤ big) <|
 bnd (x2 ++ ((List.getD a0 (Int.toNat p1.2) ([], [])).2)) fun x3 =>
 bindO (F73 x3) fun y4 =>
 gdN (List.length p1.1) (List.length p1.1) <|
 gd (List.length p1.1 + List.length [y4] ≤ big) <|
 bnd (p1.1 ++ [y4]) fun l5 =>
 bnd (IntKind.wrap .i64 (p1.2 + (1 : Int))) fun x6 =>
 gdN (List.length l5) (List.length l5) <|
 againp1 (l5, x6))
 (bindO (F78 p1.1) fun y7 =>
 some y7)) (([] : List (List UInt8)), (0 : Int))
def dc40 : DC :=
 (.seq (.reg [⟨none, (.mv (some 2) (.v (.str [])))⟩])
 (.seq (.reg [Nl 3 9])
 (.seq (.seq (.reg [Mt 6 0, Ln 7 70 6, Mi 8 0])
 (.block 0 (.loop ⟨[(3, (.row 3 9 .str)), (8, (.lf (.int .i64)))], [], [5, 9, 10, 11, 12, 13, 14, 15, 16, 17, 18, 19, 20, 21, 22].map .s ++ [5].map .b ++ [20].map .f⟩ (.seq (.reg [Ar 9 .lss 8 7])
 (.seq (.cond (.t 9)
 .skip
 (.exit 0))
 (.seq (.block 1 (.seq (.reg [Ea 10 70 6 8, Lt 11 70 10, ⟨none, (.al 5 (.agg 70 [(.str []), (.str [])]))⟩, Sr 70 5 11])
 (.reg [Mt 12 3, Fa 13 70 0 5, Ld 14 13, ⟨none, (.ar 15 .add (.t 14) (.v (.str [0])))⟩, Fa 16 70 1 5, Ld 17 16, Ar 18 .add 15 17, Ca 19 73 18, ⟨none, (.bs 20 9 none [(.t 19)])⟩, Ap 21 9 12 20, Mt 3 21])))
 (.reg [Ai 22 .add 8 1, Mt 8 22])))))))
 (.seq (.reg [Mt 23 3, Ca 24 78 23, Mt 2 24])
 .ret))))
noncomputable def ent40 : TEnt := ⟨40, [(.sl 70 shFile)], .str, fun x => F40 x, .plain⟩
theorem eq40 (x : dens ent40.as) : ent40.F x = evF [ent73, ent78] SHF dc40 [(.tmp 2)] ent40.as ent40.rs x := by kernel_rfl
noncomputable def F36 (a0 : Int) : Option (Bool) :=
 cond (decide ((1 : Int) ≤ a0))
 (some (decide (a0 ≤ (9999 : Int))))
 (some false)
def dc36 : DC :=
 (.seq (.reg [Mb 2 false])
 (.seq (.reg [Mt 3 0, Ai 4 .geq 3 1, Mt 5 4, Ge 5 (Mt 6 0), Ge 5 (Ai 7 .leq 6 9999), Pa 8 5 7, Mt 2 8])
 .ret))
noncomputable def ent36 : TEnt := ⟨36, [(.int .i64)], .bool, fun x => F36 x, .plain⟩
theorem eq36 (x : dens ent36.as) : ent36.F x = evF [] SHF dc36 [(.tmp 2)] ent36.as ent36.rs x := by kernel_rfl
noncomputable def F37 (a0 : Int) : Option (Bool) :=
 cond (decide ((0 : Int) ≤ a0))
 (some (decide (a0 ≤ (109572 : Int))))
 (some false)
def dc37 : DC :=
 (.seq (.reg [Mb 2 false])
 (.seq (.reg [Mt 3 0, Ai 4 .geq 3 0, Mt 5 4, Ge 5 (Mt 6 0), Ge 5 (Ai 7 .leq 6 109572), Pa 8 5 7, Mt 2 8])
 .ret))
noncomputable def ent37 : TEnt := ⟨37, [(.int .i64)], .bool, fun x => F37 x, .plain⟩
theorem eq37 (x : dens ent37.as) : ent37.F x = evF [] SHF dc37 [(.tmp 2)] ent37.as ent37.rs x := by kernel_rfl
noncomputable def F77 (a0 : Int) (a1 : Int) (a2 : Int) : Option (Bool) :=
 cond (decide (a1 ≤ a0))
 (some (decide (a0 ≤ a2)))
 (some false)
def dc77 : DC :=
 (.seq (.reg [Mb 6 false])
 (.seq (.reg [Mt 7 0, Mt 8 1, Ar 9 .geq 7 8, Mt 10 9, Ge 10 (Mt 11 0), Ge 10 (Mt 12 2), Ge 10 (Ar 13 .leq 11 12), Pa 14 10 13, Mt 6 14])
 .ret))
noncomputable def ent77 : TEnt := ⟨77, [(.int .i64), (.int .i64), (.int .i64)], .bool, fun x => F77 x.1 x.2.1 x.2.2, .plain⟩
theorem eq77 (x : dens ent77.as) : ent77.F x = evF [] SHF dc77 [(.tmp 6)] ent77.as ent77.rs x := by kernel_rfl
noncomputable def F39 (a0 : Int × Int × Int × Int) : Option (Int) :=
 jn (σ := Unit) (fun nextj1 =>
 bindO (F77 a0.1 (1 : Int) (4 : Int)) fun y2 =>
 cond (!y2)
 (some (1 : Int))
 (cond (decide (a0.2.2.1 = (0 : Int)))
 (cond (!decide (a0.2.2.2 = (0 : Int)))
 (some (1 : Int))
 (cond (!decide (a0.2.2.1 = (0 : Int)))
 (bindO (F77 a0.2.2.2 (1 : Int) (4 : Int)) fun y3 =>
 cond (!y3)
 (some (1 : Int))
 (nextj1 ()))
 (nextj1 ())))
 (cond (!decide (a0.2.2.1 = (0 : Int)))
 (bindO (F77 a0.2.2.2 (1 : Int) (4 : Int)) fun y4 =>
 cond (!y4)
 (some (1 : Int))
 (nextj1 ()))
 (nextj1 ())))) fun j1 =>
 bindO (F77 a0.2.2.1 (0 : Int) (109572 : Int)) fun y5 =>
 cond (!y5)
 (some (2 : Int))
 (bindO (F77 a0.2.1 (0 : Int) (99 : Int)) fun y6 =>
 cond (!y6)
 (some (2 : Int))
 (cond (decide (a0.1 = (2 : Int)))
 (cond (!((decide ((0 : Int) < a0.2.1)) == true))
 (some (1 : Int))
 (some (0 : Int)))
 (cond (!((decide ((0 : Int) < a0.2.1)) == (decide (a0.2.2.2 = (2 : Int)))))
 (some (1 : Int))
 (some (0 : Int)))))
def dc39 : DC :=
 (.seq (.reg [Bx 1 24 0, Mi 2 0])
 (.jn ⟨[], [], [3, 4, 5, 6, 7, 8, 9, 10, 11, 12, 13, 14, 15, 16, 17, 18, 19, 20, 21, 22, 23, 24, 25, 26, 27].map .s⟩ (.seq (.reg [Fa 3 24 0 1, Ld 4 3, ⟨none, (.ca (some 5) 77 [(.t 4), (.v (.int .i64 1)), (.v (.int .i64 4))])⟩, Un 6 5, Mt 7 6, Gd 7 (Fa 8 24 2 1), Gd 7 (Ld 9 8), Gd 7 (Ai 10 .eql 9 0), Gd 7 (Mt 11 10), Ge 11 (Fa 12 24 3 1), Ge 11 (Ld 13 12), Ge 11 (Ai 14 .neq 13 0), Gd 7 (Pa 15 11 14), Po 16 7 15, Mt 17 16, Gd 17 (Fa 18 24 2 1), Gd 17 (Ld 19 18), Gd 17 (Ai 20 .neq 19 0), Gd 17 (Mt 21 20), Ge 21 (Fa 22 24 3 1), Ge 21 (Ld 23 22), ⟨(some (21, true)), (.ca (some 24) 77 [(.t 23), (.v (.int .i64 1)), (.v (.int .i64 4))])⟩, Ge 21 (Un 25 24), Gd 17 (Pa 26 21 25), Po 27 17 26])
 (.cond (.t 27)
 (.seq (.reg [Mi 2 1])
 .ret)
 .skip))
 (.seq (.seq (.reg [Fa 28 24 2 1, Ld 29 28, ⟨none, (.ca (some 30) 77 [(.t 29), (.v (.int .i64 0)), (.v (.int .i64 109572))])⟩, Un 31 30, Mt 32 31, Gd 32 (Fa 33 24 1 1), Gd 32 (Ld 34 33), ⟨(some (32, false)), (.ca (some 35) 77 [(.t 34), (.v (.int .i64 0)), (.v (.int .i64 99))])⟩, Gd 32 (Un 36 35), Po 37 32 36])
 (.cond (.t 37)
 (.seq (.reg [Mi 2 2])
 .ret)
 .skip))
 (.seq (.seq (.reg [Fa 38 24 1 1, Ld 39 38, Ai 40 .gtr 39 0, Fa 41 24 0 1, Ld 42 41, Ai 43 .eql 42 2, Mt 44 43, Gd 44 (Fa 45 24 3 1), Gd 44 (Ld 46 45), Gd 44 (Ai 47 .eql 46 2), Po 48 44 47, ⟨none, (.eb 49 true (.t 40) (.t 48))⟩])
 (.cond (.t 49)
 (.seq (.reg [Mi 2 1])
 .ret)
 .skip))
 (.seq (.reg [Mi 2 0])
 .ret)))))
noncomputable def ent39 : TEnt := ⟨39, [(.agg 24 (.pair (.int .i64) (.pair (.int .i64) (.pair (.int .i64) (.int .i64)))))], (.int .i64), fun x => F39 x, .plain⟩
theorem eq39 (x : dens ent39.as) : ent39.F x = evF [ent77] SHF dc39 [(.tmp 2)] ent39.as ent39.rs x := by kernel_rfl
noncomputable def F93 (a0 : Int) : Option (List UInt8) :=
 cond (decide (a0 = (0 : Int)))
 (some ([48] : List UInt8))
 (jn (σ := List UInt8) (fun nextj1 =>
 cond (decide (a0 < (0 : Int)))
 (nextj1 ([45] : List UInt8))
 (nextj1 ([] : List UInt8))) fun j1 =>
 loopK (σ := Int × List UInt8) (fun p2 againp2 =>
 cond (!decide (p2.1 = (0 : Int)))
 (gd ((10 : Int) ≠ 0) <|
 bnd (Int.tmod p2.1 (10 : Int)) fun x3 =>
 jn (σ := Int) (fun nextj4 =>
 cond (decide (x3 < (0 : Int)))
 (bnd (IntKind.wrap .i64 (0 - x3)) fun x5 =>
 nextj4 x5)
 (nextj4 x3)) fun j4 =>
 bnd (IntKind.wrap .i64 ((48 : Int) + j4)) fun x6 =>
 gd ((0 : Int) ≤ (IntKind.wrap .u8 x6) ∧ (IntKind.wrap .u8 x6) < (256 : Int)) <|
 gd (List.length [(UInt8.ofNat (Int.toNat (IntKind.wrap .u8 x6)))] + List.length p2.2 ≤ big) <|
 bnd ([(UInt8.ofNat (Int.toNat (IntKind.wrap .u8 x6)))] ++ p2.2) fun x7 =>
 gd ((10 : Int) ≠ 0) <|
 bnd (IntKind.wrap .i64 (Int.tdiv p2.1 (10 : Int))) fun x8 =>
 againp2 (x8, x7))
 (gd (List.length j1 + List.length p2.2 ≤ big) <|
 bnd (j1 ++ p2.2) fun x9 =>
 some x9)) (a0, ([] : List UInt8)))
def dc93 : DC :=
 (.seq (.reg [⟨none, (.mv (some 2) (.v (.str [])))⟩])
 (.seq (.seq (.reg [Mt 6 0, Ai 7 .eql 6 0])
 (.cond (.t 7)
 (.seq (.reg [⟨none, (.mv (some 2) (.v (.str [48])))⟩])
 .ret)
 .skip))
 (.seq (.reg [⟨none, (.mv (some 3) (.v (.str [])))⟩])
 (.seq (.reg [⟨none, (.mv (some 4) (.v (.str [])))⟩])
 (.jn ⟨[(4, (.lf .str))], [], [8, 9].map .s⟩ (.seq (.reg [Mt 8 0, Ai 9 .lss 8 0])
 (.cond (.t 9)
 (.reg [⟨none, (.mv (some 4) (.v (.str [45])))⟩])
 .skip))
 (.seq (.block 0 (.loop ⟨[(0, (.lf (.int .i64))), (3, (.lf .str))], [], [5, 10, 11, 12, 13, 14, 15, 16, 17, 18, 19, 20, 21, 22, 23, 24, 25, 26].map .s ++ [21].map .f⟩ (.seq (.seq (.reg [Mt 10 0, Ai 11 .neq 10 0])
 (.cond (.t 11)
 .skip
 (.exit 0)))
 (.block 1 (.seq (.reg [Mt 12 0, Ai 13 .rem 12 10, Mt 5 13])
 (.jn ⟨[(5, (.lf (.int .i64)))], [], [14, 15, 16, 17].map .s⟩ (.seq (.reg [Mt 14 5, Ai 15 .lss 14 0])
 (.cond (.t 15)
 (.reg [Mt 16 5, ⟨none, (.un 17 .neg (.t 16))⟩, Mt 5 17])
 .skip))
 (.seq (.reg [Mt 18 5, ⟨none, (.ar 19 .add (.v (.int .i64 48)) (.t 18))⟩, ⟨none, (.cvi 20 .u8 (.t 19))⟩, ⟨none, (.bs 21 5 none [(.t 20)])⟩, ⟨none, (.cvb 22 (.t 21))⟩, Mt 23 3, Ar 24 .add 22 23, Mt 3 24])
 (.reg [Mt 25 0, Ai 26 .quo 25 10, Mt 0 26]))))))))
 (.seq (.reg [Mt 27 4, Mt 28 3, Ar 29 .add 27 28, Mt 2 29])
 .ret)))))))
noncomputable def ent93 : TEnt := ⟨93, [(.int .i64)], .str, fun x => F93 x, .plain⟩
theorem eq93 (x : dens ent93.as) : ent93.F x = evF [] SHF dc93 [(.tmp 2)] ent93.as ent93.rs x := by kernel_rfl
noncomputable def F75 (a0 : Fix) : Option (List UInt8) :=
 jn (σ := List UInt8) (fun nextj1 =>
 cond (a0.2.2.2.2.2)
 (nextj1 ([49] : List UInt8))
 (nextj1 ([48] : List UInt8))) fun j1 =>
 bindO (F93 a0.1) fun y2 =>
 gd (List.length y2 + List.length ([32] : List UInt8) ≤ big) <|
 bnd (y2 ++ ([32] : List UInt8)) fun x3 =>
 bindO (F93 a0.2.1) fun y4 =>
 gd (List.length x3 + List.length y4 ≤ big) <|
 bnd (x3 ++ y4) fun x5 =>
 gd (List.length x5 + List.length ([32] : List UInt8) ≤ big) <|
 bnd (x5 ++ ([32] : List UInt8)) fun x6 =>
 bindO (F93 a0.2.2.1) fun y7 =>
 gd (List.length x6 + List.length y7 ≤ big) <|
 bnd (x6 ++ y7) fun x8 =>
 gd (List.length x8 + List.length ([32] : List UInt8) ≤ big) <|
 bnd (x8 ++ ([32] : List UInt8)) fun x9 =>
 gd (List.length x9 + List.length j1 ≤ big) <|
 bnd (x9 ++ j1) fun x10 =>
 gd (List.length x10 + List.length ([32] : List UInt8) ≤ big) <|
 bnd (x10 ++ ([32] : List UInt8)) fun x11 =>
 gd (List.length x11 + List.length a0.2.2.2.1 ≤ big) <|
 bnd (x11 ++ a0.2.2.2.1) fun x12 =>
 some x12
def dc75 : DC :=
 (.seq (.reg [Bx 1 65 0, ⟨none, (.mv (some 2) (.v (.str [])))⟩])
 (.seq (.reg [⟨none, (.mv (some 3) (.v (.str [48])))⟩])
 (.jn ⟨[(3, (.lf .str))], [], [4, 5].map .s⟩ (.seq (.reg [Fa 4 65 5 1, Ld 5 4])
 (.cond (.t 5)
 (.reg [⟨none, (.mv (some 3) (.v (.str [49])))⟩])
 .skip))
 (.seq (.reg [Fa 6 65 0 1, Ld 7 6, Ca 8 93 7, ⟨none, (.ar 9 .add (.t 8) (.v (.str [32])))⟩, Fa 10 65 1 1, Ld 11 10, Ca 12 93 11, Ar 13 .add 9 12, ⟨none, (.ar 14 .add (.t 13) (.v (.str [32])))⟩, Fa 15 65 2 1, Ld 16 15, Ca 17 93 16, Ar 18 .add 14 17, ⟨none, (.ar 19 .add (.t 18) (.v (.str [32])))⟩, Mt 20 3, Ar 21 .add 19 20, ⟨none, (.ar 22 .add (.t 21) (.v (.str [32])))⟩, Fa 23 65 3 1, Ld 24 23, Ar 25 .add 22 24, Mt 2 25])
 .ret))))
noncomputable def ent75 : TEnt := ⟨75, [shFix], .str, fun x => F75 x, .plain⟩
theorem eq75 (x : dens ent75.as) : ent75.F x = evF [ent93] SHF dc75 [(.tmp 2)] ent75.as ent75.rs x := by kernel_rfl
noncomputable def F35 (a0 : List (Fix)) (a1 : Fix) : Option (List UInt8) :=
 jn (σ := List UInt8) (fun nextj1 =>
 cond (decide ((0 : Int) < (List.length a0 : Int)))
 (bnd (IntKind.wrap .i64 ((List.length a0 : Int) - (1 : Int))) fun x2 =>
 gd (0 ≤ x2 ∧ x2 < (List.length a0 : Int)) <|
 nextj1 ((List.getD a0 (Int.toNat x2) (0, (0, (0, ([], ([], false)))))).2.2.2.2.1))
 (nextj1 ([] : List UInt8))) fun j1 =>
 bindO (F75 a1) fun y3 =>
 gd (List.length j1 + List.length y3 ≤ big) <|
 bnd (j1 ++ y3) fun x4 =>
 bindO (F71 x4) fun y5 =>
 some y5
def dc35 : DC :=
 (.seq (.reg [Bx 3 65 1, ⟨none, (.mv (some 4) (.v (.str [])))⟩])
 (.seq (.reg [⟨none, (.mv (some 5) (.v (.str [])))⟩])
 (.jn ⟨[(5, (.lf .str))], [], [6, 7, 8, 9, 10, 11, 12, 13, 14, 15].map .s⟩ (.seq (.reg [Mt 6 0, Ln 7 65 6, Ai 8 .gtr 7 0])
 (.cond (.t 8)
 (.reg [Mt 9 0, Mt 10 0, Ln 11 65 10, Ai 12 .sub 11 1, Ea 13 65 9 12, Fa 14 65 4 13, Ld 15 14, Mt 5 15])
 .skip))
 (.seq (.reg [Mt 16 5, Lt 17 65 3, Ca 18 75 17, Ar 19 .add 16 18, Ca 20 71 19, Mt 4 20])
 .ret))))
noncomputable def ent35 : TEnt := ⟨35, [(.sl 65 shFix), shFix], .str, fun x => F35 x.1 x.2, .plain⟩
theorem eq35 (x : dens ent35.as) : ent35.F x = evF [ent71, ent75] SHF dc35 [(.tmp 4)] ent35.as ent35.rs x := by kernel_rfl
noncomputable def F34 (a0 : Obj) : Option (Bool) :=
 loopK (σ := Int) (fun p1 againp1 =>
 cond (decide (p1 < (List.length a0.2.2.2.1 : Int)))
 (gd (0 ≤ p1 ∧ p1 < (List.length a0.2.2.2.1 : Int)) <|
 gd (0 ≤ p1 ∧ p1 ≤ (List.length a0.2.2.2.1 : Int)) <|
 bnd (List.take (Int.toNat p1) a0.2.2.2.1) fun x2 =>
 gd (0 ≤ p1 ∧ p1 < (List.length a0.2.2.2.1 : Int)) <|
 bindO (F35 x2 (List.getD a0.2.2.2.1 (Int.toNat p1) (0, (0, (0, ([], ([], false))))))) fun y3 =>
 cond (!decide ((List.getD a0.2.2.2.1 (Int.toNat p1) (0, (0, (0, ([], ([], false)))))).2.2.2.2.1 = y3))
 (some false)
 (bnd (IntKind.wrap .i64 (p1 + (1 : Int))) fun x4 =>
 againp1 x4))
 (some true)) (0 : Int)
def dc34 : DC :=
 (.seq (.reg [Bx 1 32 0, Mb 2 false])
 (.seq (.seq (.reg [Mi 3 0])
 (.block 0 (.loop ⟨[(3, (.lf (.int .i64)))], [], [2, 4, 5, 6, 7, 8, 9, 10, 11, 12, 13, 14, 15, 16, 17, 18, 19, 20, 21, 22, 23, 24, 25, 26, 27].map .s⟩ (.seq (.seq (.reg [Mt 4 3, Fa 5 32 3 1, Ld 6 5, Ln 7 65 6, Ar 8 .lss 4 7])
 (.cond (.t 8)
 .skip
 (.exit 0)))
 (.seq (.block 1 (.seq (.reg [Fa 11 32 3 1, Ld 12 11, Mt 13 3, Ea 14 65 12 13, Fa 15 65 4 14, Ld 16 15, Fa 17 32 3 1, Ld 18 17, Mt 19 3, ⟨none, (.sc 20 (some 65) (.t 18) none (some (.t 19)))⟩, Fa 21 32 3 1, Ld 22 21, Mt 23 3, Ea 24 65 22 23, Lt 25 65 24, Cb 26 35 20 25, Ar 27 .neq 16 26])
 (.cond (.t 27)
 (.seq (.reg [Mb 2 false])
 .ret)
 .skip)))
 (.reg [Mt 9 3, Ai 10 .add 9 1, Mt 3 10]))))))
 (.seq (.reg [Mb 2 true])
 .ret)))
noncomputable def ent34 : TEnt := ⟨34, [shObj], .bool, fun x => F34 x, .plain⟩
theorem eq34 (x : dens ent34.as) : ent34.F x = evF [ent35] SHF dc34 [(.tmp 2)] ent34.as ent34.rs x := by kernel_rfl
noncomputable def F11 (a0 : List (File)) : Option (Bool) :=
 cond (decide ((20 : Int) < (List.length a0 : Int)))
 (some false)
 (loopK (σ := Int × Int) (fun p1 againp1 =>
 cond (decide (p1.2 < (List.length a0 : Int)))
 (gd (0 ≤ p1.2 ∧ p1.2 < (List.length a0 : Int)) <|
 cond (decide ((200 : Int) < (List.length ((List.getD a0 (Int.toNat p1.2) ([], [])).1) : Int)))
 (some false)
 (gd (0 ≤ p1.2 ∧ p1.2 < (List.length a0 : Int)) <|
 cond (decide ((2100 : Int) < (List.length ((List.getD a0 (Int.toNat p1.2) ([], [])).2) : Int)))
 (some false)
 (gd (0 ≤ p1.2 ∧ p1.2 < (List.length a0 : Int)) <|
 bnd (IntKind.wrap .i64 (p1.1 + (List.length ((List.getD a0 (Int.toNat p1.2) ([], [])).2) : Int))) fun x2 =>
 bnd (IntKind.wrap .i64 (p1.2 + (1 : Int))) fun x3 =>
 againp1 (x2, x3))))
 (some (decide (p1.1 ≤ (10000 : Int))))) ((0 : Int), (0 : Int)))
def dc11 : DC :=
 (.seq (.reg [Mb 2 false])
 (.seq (.seq (.reg [Mt 5 0, Ln 6 70 5, Ai 7 .gtr 6 20])
 (.cond (.t 7)
 (.seq (.reg [Mb 2 false])
 .ret)
 .skip))
 (.seq (.reg [Mi 3 0])
 (.seq (.seq (.reg [Mi 4 0])
 (.block 0 (.loop ⟨[(3, (.lf (.int .i64))), (4, (.lf (.int .i64)))], [], [2, 8, 9, 10, 11, 12, 13, 14, 15, 16, 17, 18, 19, 20, 21, 22, 23, 24, 25, 26, 27, 28, 29, 30, 31, 32, 33, 34, 35, 36, 37].map .s⟩ (.seq (.seq (.reg [Mt 8 4, Mt 9 0, Ln 10 70 9, Ar 11 .lss 8 10])
 (.cond (.t 11)
 .skip
 (.exit 0)))
 (.seq (.block 1 (.seq (.seq (.reg [Mt 14 0, Mt 15 4, Ea 16 70 14 15, Fa 17 70 0 16, Ld 18 17, Lm 19 18, Ai 20 .gtr 19 200, Mt 21 20, Gd 21 (Mt 22 0), Gd 21 (Mt 23 4), Gd 21 (Ea 24 70 22 23), Gd 21 (Fa 25 70 1 24), Gd 21 (Ld 26 25), Gd 21 (Lm 27 26), Gd 21 (Ai 28 .gtr 27 2100), Po 29 21 28])
 (.cond (.t 29)
 (.seq (.reg [Mb 2 false])
 .ret)
 .skip))
 (.reg [Mt 30 3, Mt 31 0, Mt 32 4, Ea 33 70 31 32, Fa 34 70 1 33, Ld 35 34, Lm 36 35, Ar 37 .add 30 36, Mt 3 37])))
 (.reg [Mt 12 4, Ai 13 .add 12 1, Mt 4 13]))))))
 (.seq (.reg [Mt 38 3, Ai 39 .leq 38 10000, Mt 2 39])
 .ret)))))
noncomputable def ent11 : TEnt := ⟨11, [(.sl 70 shFile)], .bool, fun x => F11 x, .plain⟩
theorem eq11 (x : dens ent11.as) : ent11.F x = evF [] SHF dc11 [(.tmp 2)] ent11.as ent11.rs x := by kernel_rfl
noncomputable def F16 (a0 : Obj) : Option (Bool) :=
 cond (decide ((12 : Int) < (List.length a0.2.2.1 : Int)))
 (some false)
 (cond (decide ((80 : Int) < (List.length a0.2.2.2.1 : Int)))
 (some false)
 (loopK (σ := Int) (fun p1 againp1 =>
 cond (decide (p1 < (List.length a0.2.2.1 : Int)))
 (gd (0 ≤ p1 ∧ p1 < (List.length a0.2.2.1 : Int)) <|
 bindO (F11 ((List.getD a0.2.2.1 (Int.toNat p1) (0, (0, (0, ([], []))))).2.2.2.2)) fun y2 =>
 cond (!y2)
 (some false)
 (gd (0 ≤ p1 ∧ p1 < (List.length a0.2.2.1 : Int)) <|
 cond (decide ((100 : Int) < (List.length ((List.getD a0.2.2.1 (Int.toNat p1) (0, (0, (0, ([], []))))).2.2.2.1) : Int)))
 (some false)
 (bnd (IntKind.wrap .i64 (p1 + (1 : Int))) fun x3 =>
 againp1 x3)))
 (loopK (σ := Int) (fun p4 againp4 =>
 cond (decide (p4 < (List.length a0.2.2.2.1 : Int)))
 (gd (0 ≤ p4 ∧ p4 < (List.length a0.2.2.2.1 : Int)) <|
 cond (decide ((100 : Int) < (List.length ((List.getD a0.2.2.2.1 (Int.toNat p4) (0, (0, (0, ([], ([], false)))))).2.2.2.1) : Int)))
 (some false)
 (gd (0 ≤ p4 ∧ p4 < (List.length a0.2.2.2.1 : Int)) <|
 cond (decide ((100 : Int) < (List.length ((List.getD a0.2.2.2.1 (Int.toNat p4) (0, (0, (0, ([], ([], false)))))).2.2.2.2.1) : Int)))
 (some false)
 (bnd (IntKind.wrap .i64 (p4 + (1 : Int))) fun x5 =>
 againp4 x5)))
 (some true)) (0 : Int))) (0 : Int)))
def dc16 : DC :=
 (.seq (.reg [Bx 1 32 0, Mb 2 false])
 (.seq (.seq (.reg [Fa 5 32 2 1, Ld 6 5, Ln 7 63 6, Ai 8 .gtr 7 12, Mt 9 8, Gd 9 (Fa 10 32 3 1), Gd 9 (Ld 11 10), Gd 9 (Ln 12 65 11), Gd 9 (Ai 13 .gtr 12 80), Po 14 9 13])
 (.cond (.t 14)
 (.seq (.reg [Mb 2 false])
 .ret)
 .skip))
 (.seq (.seq (.reg [Mi 3 0])
 (.block 0 (.loop ⟨[(3, (.lf (.int .i64)))], [], [2, 15, 16, 17, 18, 19, 20, 21, 22, 23, 24, 25, 26, 27, 28, 29, 30, 31, 32, 33, 34, 35, 36, 37, 38, 39].map .s⟩ (.seq (.seq (.reg [Mt 15 3, Fa 16 32 2 1, Ld 17 16, Ln 18 63 17, Ar 19 .lss 15 18])
 (.cond (.t 19)
 .skip
 (.exit 0)))
 (.seq (.block 1 (.seq (.reg [Fa 22 32 2 1, Ld 23 22, Mt 24 3, Ea 25 63 23 24, Fa 26 63 4 25, Ld 27 26, Ca 28 11 27, Un 29 28, Mt 30 29, Gd 30 (Fa 31 32 2 1), Gd 30 (Ld 32 31), Gd 30 (Mt 33 3), Gd 30 (Ea 34 63 32 33), Gd 30 (Fa 35 63 3 34), Gd 30 (Ld 36 35), Gd 30 (Lm 37 36), Gd 30 (Ai 38 .gtr 37 100), Po 39 30 38])
 (.cond (.t 39)
 (.seq (.reg [Mb 2 false])
 .ret)
 .skip)))
 (.reg [Mt 20 3, Ai 21 .add 20 1, Mt 3 21]))))))
 (.seq (.seq (.reg [Mi 4 0])
 (.block 2 (.loop ⟨[(4, (.lf (.int .i64)))], [], [2, 40, 41, 42, 43, 44, 45, 46, 47, 48, 49, 50, 51, 52, 53, 54, 55, 56, 57, 58, 59, 60, 61, 62, 63, 64].map .s⟩ (.seq (.seq (.reg [Mt 40 4, Fa 41 32 3 1, Ld 42 41, Ln 43 65 42, Ar 44 .lss 40 43])
 (.cond (.t 44)
 .skip
 (.exit 2)))
 (.seq (.block 3 (.seq (.reg [Fa 47 32 3 1, Ld 48 47, Mt 49 4, Ea 50 65 48 49, Fa 51 65 3 50, Ld 52 51, Lm 53 52, Ai 54 .gtr 53 100, Mt 55 54, Gd 55 (Fa 56 32 3 1), Gd 55 (Ld 57 56), Gd 55 (Mt 58 4), Gd 55 (Ea 59 65 57 58), Gd 55 (Fa 60 65 4 59), Gd 55 (Ld 61 60), Gd 55 (Lm 62 61), Gd 55 (Ai 63 .gtr 62 100), Po 64 55 63])
 (.cond (.t 64)
 (.seq (.reg [Mb 2 false])
 .ret)
 .skip)))
 (.reg [Mt 45 4, Ai 46 .add 45 1, Mt 4 46]))))))
 (.seq (.reg [Mb 2 true])
 .ret)))))
noncomputable def ent16 : TEnt := ⟨16, [shObj], .bool, fun x => F16 x, .plain⟩
theorem eq16 (x : dens ent16.as) : ent16.F x = evF [ent11] SHF dc16 [(.tmp 2)] ent16.as ent16.rs x := by kernel_rfl
noncomputable def F74 (a0 : Fix) : Option (List UInt8) :=
 jn (σ := List UInt8) (fun nextj1 =>
 cond (a0.2.2.2.2.2)
 (nextj1 ([49] : List UInt8))
 (nextj1 ([48] : List UInt8))) fun j1 =>
 bindO (fItoa a0.1) fun y2 =>
 bindO (fItoa a0.2.1) fun y3 =>
 bindO (fItoa a0.2.2.1) fun y4 =>
 bindO (fJoin [y2, y3, y4, j1, a0.2.2.2.1] ([32] : List UInt8)) fun y5 =>
 some y5
def dc74 : DC :=
 (.seq (.reg [Bx 1 65 0, ⟨none, (.mv (some 2) (.v (.str [])))⟩])
 (.seq (.reg [⟨none, (.mv (some 3) (.v (.str [48])))⟩])
 (.jn ⟨[(3, (.lf .str))], [], [4, 5].map .s⟩ (.seq (.reg [Fa 4 65 5 1, Ld 5 4])
 (.cond (.t 5)
 (.reg [⟨none, (.mv (some 3) (.v (.str [49])))⟩])
 .skip))
 (.seq (.reg [Fa 6 65 0 1, Ld 7 6, Ca 8 92 7, Fa 9 65 1 1, Ld 10 9, Ca 11 92 10, Fa 12 65 2 1, Ld 13 12, Ca 14 92 13, Mt 15 3, Fa 16 65 3 1, Ld 17 16, ⟨none, (.bs 18 9 none [(.t 8), (.t 11), (.t 14), (.t 15), (.t 17)])⟩, ⟨none, (.ca (some 19) 91 [(.t 18), (.v (.str [32]))])⟩, Mt 2 19])
 .ret))))
noncomputable def ent74 : TEnt := ⟨74, [shFix], .str, fun x => F74 x, .plain⟩
theorem eq74 (x : dens ent74.as) : ent74.F x = evF [entJoin, entItoa] SHF dc74 [(.tmp 2)] ent74.as ent74.rs x := by kernel_rfl
noncomputable def F33 (a0 : Obj) : Option (Bool) :=
 loopK (σ := List UInt8 × Int) (fun p1 againp1 =>
 cond (decide (p1.2 < (List.length a0.2.2.2.1 : Int)))
 (gd (0 ≤ p1.2 ∧ p1.2 < (List.length a0.2.2.2.1 : Int)) <|
 bindO (F74 (List.getD a0.2.2.2.1 (Int.toNat p1.2) (0, (0, (0, ([], ([], false))))))) fun y2 =>
 gd (List.length p1.1 + List.length y2 ≤ big) <|
 bnd (p1.1 ++ y2) fun x3 =>
 bindO (F73 x3) fun y4 =>
 cond (!decide ((List.getD a0.2.2.2.1 (Int.toNat p1.2) (0, (0, (0, ([], ([], false)))))).2.2.2.2.1 = y4))
 (some false)
 (bnd (IntKind.wrap .i64 (p1.2 + (1 : Int))) fun x5 =>
 againp1 ((List.getD a0.2.2.2.1 (Int.toNat p1.2) (0, (0, (0, ([], ([], false)))))).2.2.2.2.1, x5)))
 (some true)) (([] : List UInt8), (0 : Int))
def dc33 : DC :=
 (.seq (.reg [Bx 1 32 0, Mb 2 false])
 (.seq (.reg [⟨none, (.mv (some 3) (.v (.str [])))⟩])
 (.seq (.seq (.reg [Fa 6 32 3 1, Ld 7 6, Ln 8 65 7, Mi 9 0])
 (.block 0 (.loop ⟨[(3, (.lf .str)), (9, (.lf (.int .i64)))], [], [2, 5, 10, 11, 12, 13, 14, 15, 16, 17, 18, 19, 20, 21, 22, 23].map .s ++ [5].map .b⟩ (.seq (.reg [Ar 10 .lss 9 8])
 (.seq (.cond (.t 10)
 .skip
 (.exit 0))
 (.seq (.block 1 (.seq (.reg [Ea 11 65 7 9, Lt 12 65 11, ⟨none, (.al 5 (.agg 65 [(.int .i64 0), (.int .i64 0), (.int .i64 0), (.str []), (.str []), (.bool false)]))⟩, Sr 65 5 12])
 (.seq (.seq (.reg [Fa 13 65 4 5, Ld 14 13, Mt 15 3, Lt 16 65 5, Ca 17 74 16, Ar 18 .add 15 17, Ca 19 73 18, Ar 20 .neq 14 19])
 (.cond (.t 20)
 (.seq (.reg [Mb 2 false])
 .ret)
 .skip))
 (.reg [Fa 21 65 4 5, Ld 22 21, Mt 3 22]))))
 (.reg [Ai 23 .add 9 1, Mt 9 23])))))))
 (.seq (.reg [Mb 2 true])
 .ret))))
noncomputable def ent33 : TEnt := ⟨33, [shObj], .bool, fun x => F33 x, .plain⟩
theorem eq33 (x : dens ent33.as) : ent33.F x = evF [ent73, ent74] SHF dc33 [(.tmp 2)] ent33.as ent33.rs x := by kernel_rfl
noncomputable def F48 (a0 : Edn) (a1 : Int) : Option (Int) :=
 jn (σ := Bool) (fun nextj1 =>
 bindO (F36 a0.1) fun y2 =>
 cond (!y2)
 (nextj1 true)
 (bindO (F37 a0.2.2.1) fun y3 =>
 nextj1 (!y3))) fun j1 =>
 cond (j1)
 (some (2 : Int))
 (jn (σ := Bool) (fun nextj4 =>
 cond (decide (a1 = (0 : Int)))
 (cond (!decide (a0.2.1 = (-1 : Int)))
 (nextj4 true)
 (cond (decide ((0 : Int) < a1))
 (cond (decide (a0.2.1 < (0 : Int)))
 (nextj4 true)
 (nextj4 (decide (a1 ≤ a0.2.1))))
 (nextj4 false)))
 (cond (decide ((0 : Int) < a1))
 (cond (decide (a0.2.1 < (0 : Int)))
 (nextj4 true)
 (nextj4 (decide (a1 ≤ a0.2.1))))
 (nextj4 false))) fun j4 =>
 cond (j4)
 (some (1 : Int))
 (bindO (F82 a0.2.2.2.1) fun y5 =>
 cond (!y5)
 (some (3 : Int))
 (bindO (F38 a0.2.2.2.2) fun y6 =>
 some y6)))
def dc48 : DC :=
 (.seq (.reg [Bx 2 63 0, Mi 4 0])
 (.seq (.block 0 (.jn ⟨[(5, (.lf .bool))], [], [6, 7, 8, 9, 10, 11, 12, 13, 14, 15].map .s⟩ (.reg [Fa 6 63 0 2, Ld 7 6, Ca 8 36 7, Un 9 8, Mt 10 9, Gd 10 (Fa 11 63 2 2), Gd 10 (Ld 12 11), Gd 10 (Ca 13 37 12), Gd 10 (Un 14 13), Po 15 10 14, Mt 5 15])
 (.cond (.t 5)
 (.seq (.reg [Mi 4 2])
 .ret)
 (.jn ⟨[(16, (.lf .bool))], [], [17, 18, 19, 20, 21, 22, 23, 24, 25, 26, 27, 28, 29, 30, 31, 32, 33, 34, 35, 36, 37, 38].map .s⟩ (.reg [Mt 17 1, Ai 18 .eql 17 0, Mt 19 18, Ge 19 (Fa 20 63 1 2), Ge 19 (Ld 21 20), Ge 19 (Ai 22 .neq 21 (-1)), Pa 23 19 22, Mt 24 23, Gd 24 (Mt 25 1), Gd 24 (Ai 26 .gtr 25 0), Gd 24 (Mt 27 26), Ge 27 (Fa 28 63 1 2), Ge 27 (Ld 29 28), Ge 27 (Ai 30 .lss 29 0), Ge 27 (Mt 31 30), Gd 31 (Fa 32 63 1 2), Gd 31 (Ld 33 32), Gd 31 (Mt 34 1), Gd 31 (Ar 35 .geq 33 34), Ge 27 (Po 36 31 35), Gd 24 (Pa 37 27 36), Po 38 24 37, Mt 16 38])
 (.cond (.t 16)
 (.seq (.reg [Mi 4 1])
 .ret)
 (.seq (.reg [Fa 40 63 3 2, Ld 41 40, Ca 42 82 41, Un 43 42, Mt 39 43])
 (.cond (.t 39)
 (.seq (.reg [Mi 4 3])
 .ret)
 .skip)))))))
 (.seq (.reg [Fa 44 63 4 2, Ld 45 44, Ca 46 38 45, Mt 4 46])
 .ret)))
noncomputable def ent48 : TEnt := ⟨48, [shEdn, (.int .i64)], (.int .i64), fun x => F48 x.1 x.2, .plain⟩
theorem eq48 (x : dens ent48.as) : ent48.F x = evF [ent36, ent37, ent38, ent82] SHF dc48 [(.tmp 4)] ent48.as ent48.rs x := by kernel_rfl
noncomputable def F49 (a0 : Obj) : Option (Bool) :=
 loopK (σ := Int × Int) (fun p1 againp1 =>
 cond (decide (p1.2 < (List.length a0.2.2.2.1 : Int)))
 (gd (0 ≤ p1.2 ∧ p1.2 < (List.length a0.2.2.2.1 : Int)) <|
 cond (decide ((List.getD a0.2.2.2.1 (Int.toNat p1.2) (0, (0, (0, ([], ([], false)))))).2.1 < (1 : Int)))
 (some false)
 (cond (decide ((4 : Int) < (List.getD a0.2.2.2.1 (Int.toNat p1.2) (0, (0, (0, ([], ([], false)))))).2.1))
 (some false)
 (cond (decide ((List.getD a0.2.2.2.1 (Int.toNat p1.2) (0, (0, (0, ([], ([], false)))))).2.2.1 < (0 : Int)))
 (some false)
 (cond (decide ((List.length a0.2.2.1 : Int) ≤ (List.getD a0.2.2.2.1 (Int.toNat p1.2) (0, (0, (0, ([], ([], false)))))).2.2.1))
 (some false)
 (bindO (F37 ((List.getD a0.2.2.2.1 (Int.toNat p1.2) (0, (0, (0, ([], ([], false)))))).1)) fun y2 =>
 cond (!y2)
 (some false)
 (cond (decide ((List.getD a0.2.2.2.1 (Int.toNat p1.2) (0, (0, (0, ([], ([], false)))))).1 < p1.1))
 (some false)
 (bindO (F82 ((List.getD a0.2.2.2.1 (Int.toNat p1.2) (0, (0, (0, ([], ([], false)))))).2.2.2.1)) fun y3 =>
 cond (!y3)
 (some false)
 (bnd (IntKind.wrap .i64 (p1.2 + (1 : Int))) fun x4 =>
 againp1 ((List.getD a0.2.2.2.1 (Int.toNat p1.2) (0, (0, (0, ([], ([], false)))))).1, x4)))))))))
 (some true)) ((0 : Int), (0 : Int))
def dc49 : DC :=
 (.seq (.reg [Bx 1 32 0, Mb 2 false])
 (.seq (.reg [Mi 3 0])
 (.seq (.seq (.reg [Fa 6 32 3 1, Ld 7 6, Ln 8 65 7, Mi 9 0])
 (.block 0 (.loop ⟨[(3, (.lf (.int .i64))), (9, (.lf (.int .i64)))], [], [2, 5, 10, 11, 12, 13, 14, 15, 16, 17, 18, 19, 20, 21, 22, 23, 24, 25, 26, 27, 28, 29, 30, 31, 32, 33, 34, 35, 36, 37, 38, 39, 40, 41, 42, 43, 44, 45, 46, 47, 48, 49, 50, 51, 52, 53, 54].map .s ++ [5].map .b⟩ (.seq (.reg [Ar 10 .lss 9 8])
 (.seq (.cond (.t 10)
 .skip
 (.exit 0))
 (.seq (.block 1 (.seq (.reg [Ea 11 65 7 9, Lt 12 65 11, ⟨none, (.al 5 (.agg 65 [(.int .i64 0), (.int .i64 0), (.int .i64 0), (.str []), (.str []), (.bool false)]))⟩, Sr 65 5 12])
 (.seq (.seq (.reg [Fa 13 65 1 5, Ld 14 13, Ai 15 .lss 14 1, Mt 16 15, Gd 16 (Fa 17 65 1 5), Gd 16 (Ld 18 17), Gd 16 (Ai 19 .gtr 18 4), Po 20 16 19, Mt 21 20, Gd 21 (Fa 22 65 2 5), Gd 21 (Ld 23 22), Gd 21 (Ai 24 .lss 23 0), Po 25 21 24, Mt 26 25, Gd 26 (Fa 27 65 2 5), Gd 26 (Ld 28 27), Gd 26 (Fa 29 32 2 1), Gd 26 (Ld 30 29), Gd 26 (Ln 31 63 30), Gd 26 (Ar 32 .geq 28 31), Po 33 26 32, Mt 34 33, Gd 34 (Fa 35 65 0 5), Gd 34 (Ld 36 35), Gd 34 (Ca 37 37 36), Gd 34 (Un 38 37), Po 39 34 38, Mt 40 39, Gd 40 (Fa 41 65 0 5), Gd 40 (Ld 42 41), Gd 40 (Mt 43 3), Gd 40 (Ar 44 .lss 42 43), Po 45 40 44, Mt 46 45, Gd 46 (Fa 47 65 3 5), Gd 46 (Ld 48 47), Gd 46 (Ca 49 82 48), Gd 46 (Un 50 49), Po 51 46 50])
 (.cond (.t 51)
 (.seq (.reg [Mb 2 false])
 .ret)
 .skip))
 (.reg [Fa 52 65 0 5, Ld 53 52, Mt 3 53]))))
 (.reg [Ai 54 .add 9 1, Mt 9 54])))))))
 (.seq (.reg [Mb 2 true])
 .ret))))
noncomputable def ent49 : TEnt := ⟨49, [shObj], .bool, fun x => F49 x, .plain⟩
theorem eq49 (x : dens ent49.as) : ent49.F x = evF [ent37, ent82] SHF dc49 [(.tmp 2)] ent49.as ent49.rs x := by kernel_rfl
noncomputable def F50 (a0 : Obj) : Option (Bool) :=
 loopK (σ := Int × Int) (fun p1 againp1 =>
 cond (decide (p1.2 < (List.length a0.2.2.2.1 : Int)))
 (gd (0 ≤ p1.2 ∧ p1.2 < (List.length a0.2.2.2.1 : Int)) <|
 jn (σ := Unit) (fun nextj2 =>
 cond (!decide ((List.getD a0.2.2.2.1 (Int.toNat p1.2) (0, (0, (0, ([], ([], false)))))).2.1 = (1 : Int)))
 (cond (!decide ((List.getD a0.2.2.2.1 (Int.toNat p1.2) (0, (0, (0, ([], ([], false)))))).2.1 = (3 : Int)))
 (bnd (IntKind.wrap .i64 (p1.2 + (1 : Int))) fun x3 =>
 againp1 (p1.1, x3))
 (nextj2 ()))
 (nextj2 ())) fun j2 =>
 cond (decide (p1.1 = (List.length a0.2.2.1 : Int)))
 (some false)
 (cond (!decide ((List.getD a0.2.2.2.1 (Int.toNat p1.2) (0, (0, (0, ([], ([], false)))))).2.2.1 = p1.1))
 (some false)
 (cond (!((decide ((List.getD a0.2.2.2.1 (Int.toNat p1.2) (0, (0, (0, ([], ([], false)))))).2.1 = (1 : Int))) == (decide (p1.1 = (0 : Int)))))
 (some false)
 (cond (!((List.getD a0.2.2.2.1 (Int.toNat p1.2) (0, (0, (0, ([], ([], false)))))).2.2.2.2.2))
 (some false)
 (gd (0 ≤ p1.1 ∧ p1.1 < (List.length a0.2.2.1 : Int)) <|
 cond (!decide ((List.getD a0.2.2.2.1 (Int.toNat p1.2) (0, (0, (0, ([], ([], false)))))).2.2.2.1 = (List.getD a0.2.2.1 (Int.toNat p1.1) (0, (0, (0, ([], []))))).2.2.2.1))
 (some false)
 (gd (0 ≤ p1.1 ∧ p1.1 < (List.length a0.2.2.1 : Int)) <|
 cond (!decide ((List.getD a0.2.2.2.1 (Int.toNat p1.2) (0, (0, (0, ([], ([], false)))))).1 = (List.getD a0.2.2.1 (Int.toNat p1.1) (0, (0, (0, ([], []))))).2.2.1))
 (some false)
 (bnd (IntKind.wrap .i64 (p1.1 + (1 : Int))) fun x4 =>
 bnd (IntKind.wrap .i64 (p1.2 + (1 : Int))) fun x5 =>
 againp1 (x4, x5))))))))
 (some (decide (p1.1 = (List.length a0.2.2.1 : Int))))) ((0 : Int), (0 : Int))
def dc50 : DC :=
 (.seq (.reg [Bx 1 32 0, Mb 2 false])
 (.seq (.reg [Mi 3 0])
 (.seq (.seq (.reg [Fa 6 32 3 1, Ld 7 6, Ln 8 65 7, Mi 9 0])
 (.block 0 (.loop ⟨[(3, (.lf (.int .i64))), (9, (.lf (.int .i64)))], [], [2, 5, 10, 11, 12, 13, 14, 15, 16, 17, 18, 19, 20, 21, 22, 23, 24, 25, 26, 27, 28, 29, 30, 31, 32, 33, 34, 35, 36, 37, 38, 39, 40, 41, 42, 43, 44, 45, 46, 47, 48, 49, 50, 51, 52, 53, 54, 55, 56, 57, 58, 59, 60, 61, 62, 63, 64, 65, 66, 67, 68, 69].map .s ++ [5].map .b⟩ (.seq (.reg [Ar 10 .lss 9 8])
 (.seq (.cond (.t 10)
 .skip
 (.exit 0))
 (.seq (.block 1 (.seq (.reg [Ea 11 65 7 9, Lt 12 65 11, ⟨none, (.al 5 (.agg 65 [(.int .i64 0), (.int .i64 0), (.int .i64 0), (.str []), (.str []), (.bool false)]))⟩, Sr 65 5 12])
 (.jn ⟨[], [], [13, 14, 15, 16, 17, 18, 19, 20].map .s⟩ (.seq (.reg [Fa 13 65 1 5, Ld 14 13, Ai 15 .neq 14 1, Mt 16 15, Ge 16 (Fa 17 65 1 5), Ge 16 (Ld 18 17), Ge 16 (Ai 19 .neq 18 3), Pa 20 16 19])
 (.cond (.t 20)
 (.exit 1)
 .skip))
 (.seq (.seq (.reg [Mt 21 3, Fa 22 32 2 1, Ld 23 22, Ln 24 63 23, Ar 25 .eql 21 24, Mt 26 25, Gd 26 (Fa 27 65 2 5), Gd 26 (Ld 28 27), Gd 26 (Mt 29 3), Gd 26 (Ar 30 .neq 28 29), Po 31 26 30, Mt 32 31, Gd 32 (Fa 33 65 1 5), Gd 32 (Ld 34 33), Gd 32 (Ai 35 .eql 34 1), Gd 32 (Mt 36 3), Gd 32 (Ai 37 .eql 36 0), ⟨(some (32, false)), (.eb 38 true (.t 35) (.t 37))⟩, Po 39 32 38, Mt 40 39, Gd 40 (Fa 41 65 5 5), Gd 40 (Ld 42 41), Gd 40 (Un 43 42), Po 44 40 43, Mt 45 44, Gd 45 (Fa 46 65 3 5), Gd 45 (Ld 47 46), Gd 45 (Fa 48 32 2 1), Gd 45 (Ld 49 48), Gd 45 (Mt 50 3), Gd 45 (Ea 51 63 49 50), Gd 45 (Fa 52 63 3 51), Gd 45 (Ld 53 52), Gd 45 (Ar 54 .neq 47 53), Po 55 45 54, Mt 56 55, Gd 56 (Fa 57 65 0 5), Gd 56 (Ld 58 57), Gd 56 (Fa 59 32 2 1), Gd 56 (Ld 60 59), Gd 56 (Mt 61 3), Gd 56 (Ea 62 63 60 61), Gd 56 (Fa 63 63 2 62), Gd 56 (Ld 64 63), Gd 56 (Ar 65 .neq 58 64), Po 66 56 65])
 (.cond (.t 66)
 (.seq (.reg [Mb 2 false])
 .ret)
 .skip))
 (.reg [Mt 67 3, Ai 68 .add 67 1, Mt 3 68])))))
 (.reg [Ai 69 .add 9 1, Mt 9 69])))))))
 (.seq (.reg [Mt 70 3, Fa 71 32 2 1, Ld 72 71, Ln 73 63 72, Ar 74 .eql 70 73, Mt 2 74])
 .ret))))
noncomputable def ent50 : TEnt := ⟨50, [shObj], .bool, fun x => F50 x, .plain⟩
theorem eq50 (x : dens ent50.as) : ent50.F x = evF [] SHF dc50 [(.tmp 2)] ent50.as ent50.rs x := by kernel_rfl
noncomputable def F15 (a0 : Obj) : Option (Int) :=
 jn (σ := Bool) (fun nextj1 =>
 bindO (F36 a0.1) fun y2 =>
 cond (!y2)
 (nextj1 true)
 (bindO (F36 a0.2.1) fun y3 =>
 nextj1 (!y3))) fun j1 =>
 cond (j1)
 (some (2 : Int))
 (cond (decide ((List.length a0.2.2.1 : Int) = (0 : Int)))
 (some (8 : Int))
 (cond (decide ((8 : Int) < (List.length a0.2.2.1 : Int)))
 (some (13 : Int))
 (cond (decide ((64 : Int) < (List.length a0.2.2.2.1 : Int)))
 (some (13 : Int))
 (loopK (σ := Int) (fun p4 againp4 =>
 cond (decide (p4 < (List.length a0.2.2.1 : Int)))
 (gd (0 ≤ p4 ∧ p4 < (List.length a0.2.2.1 : Int)) <|
 bindO (F48 (List.getD a0.2.2.1 (Int.toNat p4) (0, (0, (0, ([], []))))) p4) fun y5 =>
 cond (!decide (y5 = (0 : Int)))
 (some y5)
 (bnd (IntKind.wrap .i64 (p4 + (1 : Int))) fun x6 =>
 againp4 x6))
 (bindO (F39 a0.2.2.2.2) fun y7 =>
 cond (!decide (y7 = (0 : Int)))
 (some y7)
 (bindO (F49 a0) fun y8 =>
 cond (!y8)
 (some (1 : Int))
 (bindO (F33 a0) fun y9 =>
 cond (!y9)
 (some (19 : Int))
 (bindO (F50 a0) fun y10 =>
 cond (!y10)
 (some (19 : Int))
 (some (0 : Int))))))) (0 : Int)))))
def dc15 : DC :=
 (.seq (.reg [Bx 1 32 0, Mi 2 0])
 (.seq (.block 0 (.jn ⟨[(7, (.lf .bool))], [], [8, 9, 10, 11, 12, 13, 14, 15, 16, 17].map .s⟩ (.reg [Fa 8 32 0 1, Ld 9 8, Ca 10 36 9, Un 11 10, Mt 12 11, Gd 12 (Fa 13 32 1 1), Gd 12 (Ld 14 13), Gd 12 (Ca 15 36 14), Gd 12 (Un 16 15), Po 17 12 16, Mt 7 17])
 (.cond (.t 7)
 (.seq (.reg [Mi 2 2])
 .ret)
 (.seq (.reg [Fa 19 32 2 1, Ld 20 19, Ln 21 63 20, Ai 22 .eql 21 0, Mt 18 22])
 (.cond (.t 18)
 (.seq (.reg [Mi 2 8])
 .ret)
 (.seq (.reg [Fa 24 32 2 1, Ld 25 24, Ln 26 63 25, Ai 27 .gtr 26 8, Mt 28 27, Gd 28 (Fa 29 32 3 1), Gd 28 (Ld 30 29), Gd 28 (Ln 31 65 30), Gd 28 (Ai 32 .gtr 31 64), Po 33 28 32, Mt 23 33])
 (.cond (.t 23)
 (.seq (.reg [Mi 2 13])
 .ret)
 .skip)))))))
 (.seq (.seq (.reg [Fa 34 32 2 1, Ld 35 34, Ln 36 63 35, Mi 37 0])
 (.block 1 (.loop ⟨[(37, (.lf (.int .i64)))], [], [2, 3, 4, 5, 38, 39, 40, 41, 42, 43, 44, 45, 46, 47, 48].map .s ++ [4].map .b⟩ (.seq (.reg [Ar 38 .lss 37 36])
 (.seq (.cond (.t 38)
 .skip
 (.exit 1))
 (.seq (.block 2 (.seq (.reg [Mt 39 37, Ea 40 63 35 37, Lt 41 63 40, ⟨none, (.al 4 (.agg 63 [(.int .i64 0), (.int .i64 0), (.int .i64 0), (.str []), (.sl none 70 [])]))⟩, Mt 3 39, Sr 63 4 41])
 (.seq (.reg [Lt 42 63 4, Mt 43 3, Cb 44 48 42 43, Mt 5 44])
 (.seq (.reg [Mt 45 5, Ai 46 .neq 45 0])
 (.cond (.t 46)
 (.seq (.reg [Mt 47 5, Mt 2 47])
 .ret)
 .skip)))))
 (.reg [Ai 48 .add 37 1, Mt 37 48])))))))
 (.seq (.seq (.reg [Fa 49 32 4 1, Lt 50 24 49, Ca 51 39 50, Mt 6 51])
 (.seq (.reg [Mt 52 6, Ai 53 .neq 52 0])
 (.cond (.t 53)
 (.seq (.reg [Mt 54 6, Mt 2 54])
 .ret)
 .skip)))
 (.seq (.block 3 (.seq (.reg [Lt 56 32 1, Ca 57 49 56, Un 58 57, Mt 55 58])
 (.cond (.t 55)
 (.seq (.reg [Mi 2 1])
 .ret)
 (.seq (.reg [Lt 60 32 1, Ca 61 33 60, Un 62 61, Mt 63 62, Gd 63 (Lt 64 32 1), Gd 63 (Ca 65 50 64), Gd 63 (Un 66 65), Po 67 63 66, Mt 59 67])
 (.cond (.t 59)
 (.seq (.reg [Mi 2 19])
 .ret)
 .skip)))))
 (.seq (.reg [Mi 2 0])
 .ret))))))
noncomputable def ent15 : TEnt := ⟨15, [shObj], (.int .i64), fun x => F15 x, .plain⟩
theorem eq15 (x : dens ent15.as) : ent15.F x = evF [ent33, ent36, ent39, ent48, ent49, ent50] SHF dc15 [(.tmp 2)] ent15.as ent15.rs x := by kernel_rfl
noncomputable def F21 (a0 : Obj) : Option (Int) :=
 bnd (IntKind.wrap .i64 ((List.length a0.2.2.1 : Int) - (1 : Int))) fun x1 =>
 some x1
def dc21 : DC :=
 (.seq (.reg [Bx 1 32 0, Mi 2 0])
 (.seq (.reg [Fa 3 32 2 1, Ld 4 3, Ln 5 63 4, Ai 6 .sub 5 1, Mt 2 6])
 .ret))
noncomputable def ent21 : TEnt := ⟨21, [shObj], (.int .i64), fun x => F21 x, .plain⟩
theorem eq21 (x : dens ent21.as) : ent21.F x = evF [] SHF dc21 [(.tmp 2)] ent21.as ent21.rs x := by kernel_rfl
noncomputable def F51 (a0 : Obj) (a1 : Int) : Option (Int) :=
 bindO (F37 a1) fun y1 =>
 cond (!y1)
 (some (2 : Int))
 (cond (decide ((0 : Int) < (List.length a0.2.2.2.1 : Int)))
 (bnd (IntKind.wrap .i64 ((List.length a0.2.2.2.1 : Int) - (1 : Int))) fun x2 =>
 gd (0 ≤ x2 ∧ x2 < (List.length a0.2.2.2.1 : Int)) <|
 cond (decide (a1 < (List.getD a0.2.2.2.1 (Int.toNat x2) (0, (0, (0, ([], ([], false)))))).1))
 (some (12 : Int))
 (some (0 : Int)))
 (some (0 : Int)))
def dc51 : DC :=
 (.seq (.reg [Bx 2 32 0, Mi 4 0])
 (.seq (.block 0 (.seq (.reg [Mt 6 1, Ca 7 37 6, Un 8 7, Mt 5 8])
 (.cond (.t 5)
 (.seq (.reg [Mi 4 2])
 .ret)
 (.seq (.reg [Fa 10 32 3 2, Ld 11 10, Ln 12 65 11, Ai 13 .gtr 12 0, Mt 14 13, Ge 14 (Mt 15 1), Ge 14 (Fa 16 32 3 2), Ge 14 (Ld 17 16), Ge 14 (Fa 18 32 3 2), Ge 14 (Ld 19 18), Ge 14 (Ln 20 65 19), Ge 14 (Ai 21 .sub 20 1), Ge 14 (Ea 22 65 17 21), Ge 14 (Fa 23 65 0 22), Ge 14 (Ld 24 23), Ge 14 (Ar 25 .lss 15 24), Pa 26 14 25, Mt 9 26])
 (.cond (.t 9)
 (.seq (.reg [Mi 4 12])
 .ret)
 .skip)))))
 (.seq (.reg [Mi 4 0])
 .ret)))
noncomputable def ent51 : TEnt := ⟨51, [shObj, (.int .i64)], (.int .i64), fun x => F51 x.1 x.2, .plain⟩
theorem eq51 (x : dens ent51.as) : ent51.F x = evF [ent37] SHF dc51 [(.tmp 4)] ent51.as ent51.rs x := by kernel_rfl
noncomputable def F57 (a0 : Edn) : Option (Bool) :=
 bindO (F40 a0.2.2.2.2) fun y1 =>
 some (decide (y1 = a0.2.2.2.1))
def dc57 : DC :=
 (.seq (.reg [Bx 1 63 0, Mb 2 false])
 (.seq (.reg [Fa 3 63 4 1, Ld 4 3, Ca 5 40 4, Fa 6 63 3 1, Ld 7 6, Ar 8 .eql 5 7, Mt 2 8])
 .ret))
noncomputable def ent57 : TEnt := ⟨57, [shEdn], .bool, fun x => F57 x, .plain⟩
theorem eq57 (x : dens ent57.as) : ent57.F x = evF [ent40] SHF dc57 [(.tmp 2)] ent57.as ent57.rs x := by kernel_rfl
noncomputable def F56 (a0 : Edn) : Option (Bool) :=
 bindO (F57 a0) fun y1 =>
 some (!y1)
def dc56 : DC :=
 (.seq (.reg [Bx 1 63 0, Mb 2 false])
 (.seq (.reg [Lt 3 63 1, Ca 4 57 3, Un 5 4, Mt 2 5])
 .ret))
noncomputable def ent56 : TEnt := ⟨56, [shEdn], .bool, fun x => F56 x, .plain⟩
theorem eq56 (x : dens ent56.as) : ent56.F x = evF [ent57] SHF dc56 [(.tmp 2)] ent56.as ent56.rs x := by kernel_rfl
noncomputable def F83 (a0 : List (Edn)) (a1 : Unit) : Option (Int) :=
 loopK (σ := Int) (fun p1 againp1 =>
 cond (decide (p1 < (List.length a0 : Int)))
 (gd (0 ≤ p1 ∧ p1 < (List.length a0 : Int)) <|
 bindO (F56 (List.getD a0 (Int.toNat p1) (0, (0, (0, ([], [])))))) fun y2 =>
 cond (y2)
 (some p1)
 (bnd (IntKind.wrap .i64 (p1 + (1 : Int))) fun x3 =>
 againp1 x3))
 (some (-1 : Int))) (0 : Int)
def dc83 : DC :=
 (.seq (.reg [Mi 4 0])
 (.seq (.seq (.reg [Mt 6 0, Ln 7 63 6, Mi 8 0])
 (.block 0 (.loop ⟨[(8, (.lf (.int .i64)))], [], [4, 5, 9, 10, 11, 12, 13, 14, 15, 16, 17, 18].map .s⟩ (.seq (.reg [Ar 9 .lss 8 7])
 (.seq (.cond (.t 9)
 .skip
 (.exit 0))
 (.seq (.block 1 (.seq (.reg [Mt 10 8, Mt 5 10])
 (.seq (.reg [Mt 11 1, Mt 12 0, Mt 13 5, Ea 14 63 12 13, Lt 15 63 14, ⟨none, (.cd (some 16) (.t 11) [(.t 15)])⟩])
 (.cond (.t 16)
 (.seq (.reg [Mt 17 5, Mt 4 17])
 .ret)
 .skip))))
 (.reg [Ai 18 .add 8 1, Mt 8 18])))))))
 (.seq (.reg [Mi 4 (-1)])
 .ret)))
noncomputable def ent83 : TEnt := ⟨83, [(.sl 63 shEdn), (.fn 56 .unit)], (.int .i64), fun x => F83 x.1 x.2, .plain⟩
theorem eq83 (x : dens ent83.as) : ent83.F x = evF [ent56] SHF dc83 [(.tmp 4)] ent83.as ent83.rs x := by kernel_rfl
noncomputable def F55 (a0 : List (Edn)) (a1 : Unit) : Option (Bool) :=
 bindO (F83 a0 a1) fun y1 =>
 some (decide ((0 : Int) ≤ y1))
def dc55 : DC :=
 (.seq (.reg [Mb 4 false])
 (.seq (.reg [Mt 5 0, Mt 6 1, Cb 7 83 5 6, Ai 8 .geq 7 0, Mt 4 8])
 .ret))
noncomputable def ent55 : TEnt := ⟨55, [(.sl 63 shEdn), (.fn 56 .unit)], .bool, fun x => F55 x.1 x.2, .plain⟩
theorem eq55 (x : dens ent55.as) : ent55.F x = evF [ent83] SHF dc55 [(.tmp 4)] ent55.as ent55.rs x := by kernel_rfl
noncomputable def F20 (a0 : Obj) : Option (Bool) :=
 bindO (F55 a0.2.2.1 ()) fun y1 =>
 some (!y1)
def dc20 : DC :=
 (.seq (.reg [Bx 1 32 0, Mb 2 false])
 (.seq (.reg [Fa 3 32 2 1, Ld 4 3, ⟨none, (.ca (some 5) 55 [(.t 4), (.v (.fn 56 []))])⟩, Un 6 5, Mt 2 6])
 .ret))
noncomputable def ent20 : TEnt := ⟨20, [shObj], .bool, fun x => F20 x, .plain⟩
theorem eq20 (x : dens ent20.as) : ent20.F x = evF [ent55] SHF dc20 [(.tmp 2)] ent20.as ent20.rs x := by kernel_rfl
noncomputable def F101 (a0 : Fmt) (a1 : Int) : Option (Bool) :=
 some (decide (a0.1 = a1))
def dc101 : DC :=
 (.seq (.reg [Bx 2 72 0, Mb 3 false])
 (.seq (.reg [Fa 4 72 0 2, Ld 5 4, Ld 6 1, Ar 7 .eql 5 6, Mt 3 7])
 .ret))
noncomputable def ent101 : TEnt := ⟨101, [shFmt, (.rp (.int .i64))], .bool, fun x => F101 x.1 x.2, .plain⟩
theorem eq101 (x : dens ent101.as) : ent101.F x = evF [] SHF dc101 [(.tmp 3)] ent101.as ent101.rs x := by kernel_rfl
noncomputable def F100 (a0 : List (Fmt)) (a1 : Int × Unit) : Option (Int) :=
 loopK (σ := Int) (fun p1 againp1 =>
 cond (decide (p1 < (List.length a0 : Int)))
 (gd (0 ≤ p1 ∧ p1 < (List.length a0 : Int)) <|
 bindO (F101 (List.getD a0 (Int.toNat p1) (0, (0, (0, (0, ([], ([], []))))))) a1.1) fun y2 =>
 cond (y2)
 (some p1)
 (bnd (IntKind.wrap .i64 (p1 + (1 : Int))) fun x3 =>
 againp1 x3))
 (some (-1 : Int))) (0 : Int)
def dc100 : DC :=
 (.seq (.reg [Mi 4 0])
 (.seq (.seq (.reg [Mt 6 0, Ln 7 72 6, Mi 8 0])
 (.block 0 (.loop ⟨[(8, (.lf (.int .i64)))], [], [4, 5, 9, 10, 11, 12, 13, 14, 15, 16, 17, 18].map .s⟩ (.seq (.reg [Ar 9 .lss 8 7])
 (.seq (.cond (.t 9)
 .skip
 (.exit 0))
 (.seq (.block 1 (.seq (.reg [Mt 10 8, Mt 5 10])
 (.seq (.reg [Mt 11 1, Mt 12 0, Mt 13 5, Ea 14 72 12 13, Lt 15 72 14, ⟨none, (.cd (some 16) (.t 11) [(.t 15)])⟩])
 (.cond (.t 16)
 (.seq (.reg [Mt 17 5, Mt 4 17])
 .ret)
 .skip))))
 (.reg [Ai 18 .add 8 1, Mt 8 18])))))))
 (.seq (.reg [Mi 4 (-1)])
 .ret)))
noncomputable def ent100 : TEnt := ⟨100, [(.sl 72 shFmt), (.fn 101 (.pair (.rp (.int .i64)) .unit))], (.int .i64), fun x => F100 x.1 x.2, .plain⟩
theorem eq100 (x : dens ent100.as) : ent100.F x = evF [ent101] SHF dc100 [(.tmp 4)] ent100.as ent100.rs x := by kernel_rfl
noncomputable def F84 (a0 : List (Fmt)) (a1 : Int) : Option (Int) :=
 bindO (F100 a0 (a1, ())) fun y1 =>
 some y1
def dc84 : DC :=
 (.seq (.reg [⟨none, (.bx 3 none (.t 1))⟩, Mi 4 0])
 (.seq (.seq (.gh 3 [])
 (.reg [Mt 5 0, ⟨none, (.mf 6 101 [(.t 3)])⟩, Cb 7 100 5 6, Mt 4 7]))
 .ret))
noncomputable def ent84 : TEnt := ⟨84, [(.sl 72 shFmt), (.int .i64)], (.int .i64), fun x => F84 x.1 x.2, .plain⟩
theorem eq84 (x : dens ent84.as) : ent84.F x = evF [ent100] SHF dc84 [(.tmp 4)] ent84.as ent84.rs x := by kernel_rfl
noncomputable def F60 (a0 : List (Fmt)) (a1 : Int) : Option ((Fmt) × Bool) :=
 bindO (F84 a0 a1) fun y1 =>
 cond (decide ((0 : Int) ≤ y1))
 (gd (0 ≤ y1 ∧ y1 < (List.length a0 : Int)) <|
 some ((List.getD a0 (Int.toNat y1) (0, (0, (0, (0, ([], ([], []))))))), true))
 (some (((0 : Int), (0 : Int), (0 : Int), (0 : Int), ([] : List UInt8), ([] : List UInt8), ([] : List (Int))), false))
def dc60 : DC :=
 (.seq (.reg [⟨none, (.al 4 (.agg 72 [(.int .i64 0), (.int .i64 0), (.int .i64 0), (.int .i64 0), (.str []), (.str []), (.sl none 3 [])]))⟩, Mb 5 false])
 (.seq (.seq (.reg [Mt 7 0, Mt 8 1, Cb 9 84 7 8, Mt 6 9])
 (.seq (.reg [Mt 10 6, Ai 11 .geq 10 0])
 (.cond (.t 11)
 (.seq (.reg [Mt 12 0, Mt 13 6, Ea 14 72 12 13, Lt 15 72 14, Sr 72 4 15, Mb 5 true])
 .ret)
 .skip)))
 (.seq (.reg [⟨none, (.bd 16 72 [(.int .i64 0), (.int .i64 0), (.int .i64 0), (.int .i64 0), (.str []), (.str []), (.sl none 3 [])] [] [])⟩, Sr 72 4 16, Mb 5 false])
 .ret)))
noncomputable def ent60 : TEnt := ⟨60, [(.sl 72 shFmt), (.int .i64)], (.tup (.pair shFmt .bool)), fun x => F60 x.1 x.2, .plain⟩
theorem eq60 (x : dens ent60.as) : ent60.F x = evF [ent84] SHF dc60 [(.cell 4 (some 72)), (.tmp 5)] ent60.as ent60.rs x := by kernel_rfl
noncomputable def F85 (a0 : List (Int)) (a1 : Int) : Option (Int) :=
 loopK (σ := Int) (fun p1 againp1 =>
 cond (decide (p1 < (List.length a0 : Int)))
 (gd (0 ≤ p1 ∧ p1 < (List.length a0 : Int)) <|
 cond (decide (a1 = (List.getD a0 (Int.toNat p1) 0)))
 (some p1)
 (bnd (IntKind.wrap .i64 (p1 + (1 : Int))) fun x2 =>
 againp1 x2))
 (some (-1 : Int))) (0 : Int)
def dc85 : DC :=
 (.seq (.reg [Mi 4 0])
 (.seq (.seq (.reg [Mt 6 0, Ln 7 3 6, Mi 8 0])
 (.block 0 (.loop ⟨[(8, (.lf (.int .i64)))], [], [4, 5, 9, 10, 11, 12, 13, 14, 15, 16, 17, 18].map .s⟩ (.seq (.reg [Ar 9 .lss 8 7])
 (.seq (.cond (.t 9)
 .skip
 (.exit 0))
 (.seq (.block 1 (.seq (.reg [Mt 10 8, Mt 5 10])
 (.seq (.reg [Mt 11 1, Mt 12 0, Mt 13 5, Ea 14 3 12 13, Ld 15 14, Ar 16 .eql 11 15])
 (.cond (.t 16)
 (.seq (.reg [Mt 17 5, Mt 4 17])
 .ret)
 .skip))))
 (.reg [Ai 18 .add 8 1, Mt 8 18])))))))
 (.seq (.reg [Mi 4 (-1)])
 .ret)))
noncomputable def ent85 : TEnt := ⟨85, [(.sl 3 (.int .i64)), (.int .i64)], (.int .i64), fun x => F85 x.1 x.2, .plain⟩
theorem eq85 (x : dens ent85.as) : ent85.F x = evF [] SHF dc85 [(.tmp 4)] ent85.as ent85.rs x := by kernel_rfl
noncomputable def F61 (a0 : List (Int)) (a1 : Int) : Option (Bool) :=
 bindO (F85 a0 a1) fun y1 =>
 some (decide ((0 : Int) ≤ y1))
def dc61 : DC :=
 (.seq (.reg [Mb 4 false])
 (.seq (.reg [Mt 5 0, Mt 6 1, Cb 7 85 5 6, Ai 8 .geq 7 0, Mt 4 8])
 .ret))
noncomputable def ent61 : TEnt := ⟨61, [(.sl 3 (.int .i64)), (.int .i64)], .bool, fun x => F61 x.1 x.2, .plain⟩
theorem eq61 (x : dens ent61.as) : ent61.F x = evF [ent85] SHF dc61 [(.tmp 4)] ent61.as ent61.rs x := by kernel_rfl
noncomputable def F86 (a0 : Fmt) (a1 : Fmt) (a2 : List UInt8) : Option (List UInt8 × Int) :=
 bindO (fCutP a2 a0.2.2.2.2.2.1) fun y1 =>
 cond (!y1.2)
 (some (([] : List UInt8), (3 : Int)))
 (gd (List.length a1.2.2.2.2.2.1 + List.length y1.1 ≤ big) <|
 bnd (a1.2.2.2.2.2.1 ++ y1.1) fun x2 =>
 some (x2, (0 : Int)))
def dc86 : DC :=
 (.seq (.reg [Bx 3 72 0, Bx 4 72 1, ⟨none, (.mv (some 6) (.v (.str [])))⟩, Mi 7 0])
 (.seq (.reg [Mt 11 2, Fa 12 72 5 3, Ld 13 12, Cb 14 102 11 13, Mt 10 14, Ex 15 0 10, Ex 16 1 10, Mt 8 15, Mt 9 16])
 (.seq (.seq (.reg [Mt 17 9, Un 18 17])
 (.cond (.t 18)
 (.seq (.reg [⟨none, (.mv (some 6) (.v (.str [])))⟩, Mi 7 3])
 .ret)
 .skip))
 (.seq (.reg [Fa 19 72 5 4, Ld 20 19, Mt 21 8, Ar 22 .add 20 21, Mt 6 22, Mi 7 0])
 .ret))))
noncomputable def ent86 : TEnt := ⟨86, [shFmt, shFmt, .str], (.tup (.pair .str (.int .i64))), fun x => F86 x.1 x.2.1 x.2.2, .plain⟩
theorem eq86 (x : dens ent86.as) : ent86.F x = evF [entCutP] SHF dc86 [(.tmp 6), (.tmp 7)] ent86.as ent86.rs x := by kernel_rfl
noncomputable def F62 (a0 : List (File)) (a1 : Fmt) (a2 : Fmt) : Option ((List (File)) × Int) :=
 jn (σ := Unit × Unit × (Fmt) × Fmt) (fun nextj1 =>
 nextj1 ((), (), a1, a2)) fun j1 =>
 gdN (List.length ([] : List (File))) (List.length ([] : List (File))) <|
 loopK (σ := (List (File)) × Int) (fun p2 againp2 =>
 cond (decide (p2.2 < (List.length a0 : Int)))
 (gd (0 ≤ p2.2 ∧ p2.2 < (List.length a0 : Int)) <|
 bindO (F86 j1.2.2.1 j1.2.2.2 ((List.getD a0 (Int.toNat p2.2) ([], [])).2)) fun y3 =>
 cond (!decide (y3.2 = (0 : Int)))
 (some (([] : List (File)), y3.2))
 (gdN (List.length p2.1) (List.length p2.1) <|
 gd (List.length p2.1 + List.length [((List.getD a0 (Int.toNat p2.2) ([], [])).1, y3.1)] ≤ big) <|
 bnd (p2.1 ++ [((List.getD a0 (Int.toNat p2.2) ([], [])).1, y3.1)]) fun l4 =>
 bnd (IntKind.wrap .i64 (p2.2 + (1 : Int))) fun x5 =>
 gdN (List.length l4) (List.length l4) <|
 againp2 (l4, x5)))
 (bindO (F38 p2.1) fun y6 =>
 some (p2.1, y6))) (([] : List (File)), (0 : Int))
def dc62 : DC :=
 (.jn ⟨[(4, (.con (.rf 4 []))), (5, (.con (.rf 5 [])))], [(4, (.lf shFmt)), (5, (.lf shFmt))], [6, 7].map .s ++ [6].map .f⟩ (.reg [Bx 4 72 1, Bx 5 72 2, Nl 6 70, Mi 7 0])
 (.seq (.reg [Nl 8 70])
 (.seq (.seq (.reg [Mt 13 0, Ln 14 70 13, Mi 15 0])
 (.block 0 (.loop ⟨[(8, (.row 8 70 shFile)), (15, (.lf (.int .i64)))], [], [6, 7, 10, 11, 12, 16, 17, 18, 19, 20, 21, 22, 23, 24, 25, 26, 27, 28, 29, 30, 31, 32, 33, 34, 35, 36, 37].map .s ++ [10].map .b ++ [6, 35].map .f⟩ (.seq (.reg [Ar 16 .lss 15 14])
 (.seq (.cond (.t 16)
 .skip
 (.exit 0))
 (.seq (.block 1 (.seq (.reg [Ea 17 70 13 15, Lt 18 70 17, ⟨none, (.al 10 (.agg 70 [(.str []), (.str [])]))⟩, Sr 70 10 18])
 (.seq (.reg [Lt 20 72 4, Lt 21 72 5, Fa 22 70 1 10, Ld 23 22, ⟨none, (.ca (some 24) 86 [(.t 20), (.t 21), (.t 23)])⟩, Mt 19 24, Ex 25 0 19, Ex 26 1 19, Mt 11 25, Mt 12 26])
 (.seq (.seq (.reg [Mt 27 12, Ai 28 .neq 27 0])
 (.cond (.t 28)
 (.seq (.reg [Mt 29 12, Nl 6 70, Mt 7 29])
 .ret)
 .skip))
 (.reg [Mt 30 8, Fa 31 70 0 10, Ld 32 31, Mt 33 11, ⟨none, (.bd 34 70 [(.str []), (.str [])] [0, 1] [(.t 32), (.t 33)])⟩, ⟨none, (.bs 35 70 (some 70) [(.t 34)])⟩, Ap 36 70 30 35, Mt 8 36])))))
 (.reg [Ai 37 .add 15 1, Mt 15 37])))))))
 (.seq (.reg [Mt 38 8, Mt 39 8, Ca 40 38 39, Mt 6 38, Mt 7 40])
 .ret))))
noncomputable def ent62 : TEnt := ⟨62, [(.sl 70 shFile), shFmt, shFmt], (.tup (.pair (.sl 70 shFile) (.int .i64))), fun x => F62 x.1 x.2.1 x.2.2, .plain⟩
theorem eq62 (x : dens ent62.as) : ent62.F x = evF [ent38, ent86] SHF dc62 [(.tmp 6), (.tmp 7)] ent62.as ent62.rs x := by kernel_rfl
noncomputable def F10 : Option (Bool) :=
 bindO (fIngest (1 : Int) (1 : Int) (1 : Int) (5 : Int) [(([97] : List UInt8), ([84, 58, 120] : List UInt8))] ((1 : Int), (0 : Int), (0 : Int), (0 : Int))) fun y1 =>
 bindO (fCheck y1.1 (5 : Int)) fun y2 =>
 cond (!decide (y1.2 = (0 : Int)))
 (some false)
 (cond (!decide (y2.2.2 = (0 : Int)))
 (some false)
 (cond (!decide ((List.length y1.1.2.2.2.1 : Int) = (1 : Int)))
 (some false)
 (bindO (F20 y1.1) fun y3 =>
 cond (!y3)
 (some false)
 (cond (!decide ((List.length y2.1.2.2.2.1 : Int) = (2 : Int)))
 (some false)
 (cond (!decide ((List.length y2.2.1 : Int) = (0 : Int)))
 (some false)
 (bindO (F21 y1.1) fun y4 =>
 cond (!decide (y4 = (0 : Int)))
 (some false)
 (bindO (fDamage y1.1 (0 : Int) (0 : Int) (2 : Int)) fun y5 =>
 bindO (fCheck y5.1 (5 : Int)) fun y6 =>
 bindO (fRepair y5.1 (0 : Int) [(([97] : List UInt8), ([84, 58, 120] : List UInt8))] (6 : Int)) fun y7 =>
 bindO (fRepair y5.1 (0 : Int) [(([97] : List UInt8), ([84, 58, 121] : List UInt8))] (6 : Int)) fun y8 =>
 bindO (fMigrate y1.1 [((1 : Int), (1990 : Int), (0 : Int), (0 : Int), ([116, 120, 116] : List UInt8), ([84, 58] : List UInt8), ([] : List (Int))), ((2 : Int), (1990 : Int), (0 : Int), (0 : Int), ([112, 100, 102] : List UInt8), ([37, 80] : List UInt8), ([] : List (Int)))] (2 : Int) (6 : Int)) fun y9 =>
 bindO (fMigrate y1.1 [((1 : Int), (1990 : Int), (0 : Int), (0 : Int), ([116, 120, 116] : List UInt8), ([84, 58] : List UInt8), ([] : List (Int))), ((2 : Int), (1990 : Int), (0 : Int), (0 : Int), ([112, 100, 102] : List UInt8), ([37, 80] : List UInt8), ([] : List (Int)))] (3 : Int) (6 : Int)) fun y10 =>
 bindO (fCheck y1.1 (4 : Int)) fun y11 =>
 cond (decide (y5.2 = (0 : Int)))
 (bindO (F20 y5.1) fun y12 =>
 cond (!y12)
 (cond (decide (y6.2.2 = (0 : Int)))
 (cond (decide ((List.length y6.2.1 : Int) = (1 : Int)))
 (gd (0 ≤ (0 : Int) ∧ (0 : Int) < (List.length y6.2.1 : Int)) <|
 cond (decide ((List.getD y6.2.1 (Int.toNat (0 : Int)) 0) = (0 : Int)))
 (cond (decide (y7.2 = (0 : Int)))
 (bindO (F20 y7.1) fun y13 =>
 cond (y13)
 (bindO (F33 y7.1) fun y14 =>
 cond (y14)
 (cond (decide (y8.2 = (19 : Int)))
 (cond (decide (y9.2 = (1 : Int)))
 (cond (decide (y10.2 = (9 : Int)))
 (some (decide (y11.2.2 = (12 : Int))))
 (some false))
 (some false))
 (some false))
 (some false))
 (some false))
 (some false))
 (some false))
 (some false))
 (some false))
 (some false))
 (some false))))))))
def dc10 : DC :=
 (.seq (.reg [Mb 0 false])
 (.seq (.reg [⟨none, (.bd 25 24 [(.int .i64 0), (.int .i64 0), (.int .i64 0), (.int .i64 0)] [0] [(.v (.int .i64 1))])⟩, ⟨none, (.al 1 (.agg 24 [(.int .i64 0), (.int .i64 0), (.int .i64 0), (.int .i64 0)]))⟩, Sr 24 1 25])
 (.seq (.reg [⟨none, (.bd 26 70 [(.str []), (.str [])] [0, 1] [(.v (.str [97])), (.v (.str [84, 58, 120]))])⟩, ⟨none, (.bs 27 70 (some 70) [(.t 26)])⟩, Mt 2 27])
 (.seq (.reg [⟨none, (.bd 28 72 [(.int .i64 0), (.int .i64 0), (.int .i64 0), (.int .i64 0), (.str []), (.str []), (.sl none 3 [])] [0, 1, 4, 5] [(.v (.int .i64 1)), (.v (.int .i64 1990)), (.v (.str [116, 120, 116])), (.v (.str [84, 58]))])⟩, ⟨none, (.bd 29 72 [(.int .i64 0), (.int .i64 0), (.int .i64 0), (.int .i64 0), (.str []), (.str []), (.sl none 3 [])] [0, 1, 4, 5] [(.v (.int .i64 2)), (.v (.int .i64 1990)), (.v (.str [112, 100, 102])), (.v (.str [37, 80]))])⟩, ⟨none, (.bs 30 72 (some 72) [(.t 28), (.t 29)])⟩, Mt 3 30])
 (.seq (.reg [Mt 32 2, Lt 33 24 1, ⟨none, (.ca (some 34) 12 [(.v (.int .i64 1)), (.v (.int .i64 1)), (.v (.int .i64 1)), (.v (.int .i64 5)), (.t 32), (.t 33)])⟩, Mt 31 34, Ex 35 0 31, Ex 36 1 31, ⟨none, (.al 4 (.agg 32 zO))⟩, Sr 32 4 35, Mt 5 36])
 (.seq (.reg [Lt 38 32 4, ⟨none, (.ca (some 39) 17 [(.t 38), (.v (.int .i64 5))])⟩, Mt 37 39, Ex 40 0 37, Ex 41 1 37, Ex 42 2 37, ⟨none, (.al 6 (.agg 32 zO))⟩, Sr 32 6 40, Mt 7 41, Mt 8 42])
 (.seq (.seq (.reg [Mt 43 5, Ai 44 .neq 43 0, Mt 45 44, Gd 45 (Mt 46 8), Gd 45 (Ai 47 .neq 46 0), Po 48 45 47, Mt 49 48, Gd 49 (Fa 50 32 3 4), Gd 49 (Ld 51 50), Gd 49 (Ln 52 65 51), Gd 49 (Ai 53 .neq 52 1), Po 54 49 53, Mt 55 54, Gd 55 (Lt 56 32 4), Gd 55 (Ca 57 20 56), Gd 55 (Un 58 57), Po 59 55 58, Mt 60 59, Gd 60 (Fa 61 32 3 6), Gd 60 (Ld 62 61), Gd 60 (Ln 63 65 62), Gd 60 (Ai 64 .neq 63 2), Po 65 60 64, Mt 66 65, Gd 66 (Mt 67 7), Gd 66 (Ln 68 3 67), Gd 66 (Ai 69 .neq 68 0), Po 70 66 69, Mt 71 70, Gd 71 (Lt 72 32 4), Gd 71 (Ca 73 21 72), Gd 71 (Ai 74 .neq 73 0), Po 75 71 74])
 (.cond (.t 75)
 (.seq (.reg [Mb 0 false])
 .ret)
 .skip))
 (.seq (.reg [Lt 77 32 4, ⟨none, (.ca (some 78) 25 [(.t 77), (.v (.int .i64 0)), (.v (.int .i64 0)), (.v (.int .i64 2))])⟩, Mt 76 78, Ex 79 0 76, Ex 80 1 76, ⟨none, (.al 9 (.agg 32 zO))⟩, Sr 32 9 79, Mt 10 80])
 (.seq (.reg [Lt 82 32 9, ⟨none, (.ca (some 83) 17 [(.t 82), (.v (.int .i64 5))])⟩, Mt 81 83, Ex 84 0 81, Ex 85 1 81, Ex 86 2 81, ⟨none, (.al 11 (.agg 32 zO))⟩, Sr 32 11 84, Mt 12 85, Mt 13 86])
 (.seq (.reg [Lt 88 32 9, Mt 89 2, ⟨none, (.ca (some 90) 27 [(.t 88), (.v (.int .i64 0)), (.t 89), (.v (.int .i64 6))])⟩, Mt 87 90, Ex 91 0 87, Ex 92 1 87, ⟨none, (.al 14 (.agg 32 zO))⟩, Sr 32 14 91, Mt 15 92])
 (.seq (.reg [Lt 94 32 9, ⟨none, (.bd 95 70 [(.str []), (.str [])] [0, 1] [(.v (.str [97])), (.v (.str [84, 58, 121]))])⟩, ⟨none, (.bs 96 70 (some 70) [(.t 95)])⟩, ⟨none, (.ca (some 97) 27 [(.t 94), (.v (.int .i64 0)), (.t 96), (.v (.int .i64 6))])⟩, Mt 93 97, Ex 98 0 93, Ex 99 1 93, ⟨none, (.al 16 (.agg 32 zO))⟩, Sr 32 16 98, Mt 17 99])
 (.seq (.reg [Lt 101 32 4, Mt 102 3, ⟨none, (.ca (some 103) 23 [(.t 101), (.t 102), (.v (.int .i64 2)), (.v (.int .i64 6))])⟩, Mt 100 103, Ex 104 0 100, Ex 105 1 100, ⟨none, (.al 18 (.agg 32 zO))⟩, Sr 32 18 104, Mt 19 105])
 (.seq (.reg [Lt 107 32 4, Mt 108 3, ⟨none, (.ca (some 109) 23 [(.t 107), (.t 108), (.v (.int .i64 3)), (.v (.int .i64 6))])⟩, Mt 106 109, Ex 110 0 106, Ex 111 1 106, ⟨none, (.al 20 (.agg 32 zO))⟩, Sr 32 20 110, Mt 21 111])
 (.seq (.reg [Lt 113 32 4, ⟨none, (.ca (some 114) 17 [(.t 113), (.v (.int .i64 4))])⟩, Mt 112 114, Ex 115 0 112, Ex 116 1 112, Ex 117 2 112, ⟨none, (.al 22 (.agg 32 zO))⟩, Sr 32 22 115, Mt 23 116, Mt 24 117])
 (.seq (.reg [Mt 118 10, Ai 119 .eql 118 0, Mt 120 119, Ge 120 (Lt 121 32 9), Ge 120 (Ca 122 20 121), Ge 120 (Un 123 122), Pa 124 120 123, Mt 125 124, Ge 125 (Mt 126 13), Ge 125 (Ai 127 .eql 126 0), Pa 128 125 127, Mt 129 128, Ge 129 (Mt 130 12), Ge 129 (Ln 131 3 130), Ge 129 (Ai 132 .eql 131 1), Pa 133 129 132, Mt 134 133, Ge 134 (Mt 135 12), ⟨(some (134, true)), (.ea 136 3 (.t 135) (.v (.int .i64 0)))⟩, Ge 134 (Ld 137 136), Ge 134 (Ai 138 .eql 137 0), Pa 139 134 138, Mt 140 139, Ge 140 (Mt 141 15), Ge 140 (Ai 142 .eql 141 0), Pa 143 140 142, Mt 144 143, Ge 144 (Lt 145 32 14), Ge 144 (Ca 146 20 145), Pa 147 144 146, Mt 148 147, Ge 148 (Lt 149 32 14), Ge 148 (Ca 150 33 149), Pa 151 148 150, Mt 152 151, Ge 152 (Mt 153 17), Ge 152 (Ai 154 .eql 153 19), Pa 155 152 154, Mt 156 155, Ge 156 (Mt 157 19), Ge 156 (Ai 158 .eql 157 1), Pa 159 156 158, Mt 160 159, Ge 160 (Mt 161 21), Ge 160 (Ai 162 .eql 161 9), Pa 163 160 162, Mt 164 163, Ge 164 (Mt 165 24), Ge 164 (Ai 166 .eql 165 12), Pa 167 164 166, Mt 0 167])
 .ret)))))))))))))))
noncomputable def ent10 : TEnt := ⟨10, [], .bool, fun _ => F10, .plain⟩
theorem eq10 (x : dens ent10.as) : ent10.F x = evF [entIngest, entCheck, ent20, ent21, entMigrate, entDamage, entRepair, ent33] SHF dc10 [(.tmp 0)] ent10.as ent10.rs x := by kernel_rfl
noncomputable def F9 (a0 : Obj) (a1 : Int) (a2 : Fix) : Option (Bool) :=
 bindO (F10) fun y1 =>
 cond (!y1)
 (some false)
 (bindO (F16 a0) fun y2 =>
 cond (!y2)
 (some true)
 (cond (decide ((100 : Int) < (List.length a2.2.2.2.1 : Int)))
 (some true)
 (cond (decide (a1 < (0 : Int)))
 (some true)
 (cond (decide ((List.length a0.2.2.2.1 : Int) ≤ a1))
 (some true)
 (bindO (F34 a0) fun y3 =>
 cond (!y3)
 (some true)
 (gd (0 < List.length a0.2.2.2.1) <|
 gd (List.length a0.2.2.2.1 ≤ big) <|
 gd (0 ≤ a1 ∧ a1 < (List.length a0.2.2.2.1 : Int)) <|
 gd ((Int.toNat a1) < List.length a0.2.2.2.1) <|
 gd ((Int.toNat a1) < List.length a0.2.2.2.1) <|
 gd (0 ≤ a1 ∧ a1 < (List.length a0.2.2.2.1 : Int)) <|
 gd ((Int.toNat a1) < List.length a0.2.2.2.1) <|
 bindO (F33 (a0.1, a0.2.1, a0.2.2.1, (List.set a0.2.2.2.1 (Int.toNat a1) (a2.1, a2.2.1, a2.2.2.1, a2.2.2.2.1, (List.getD a0.2.2.2.1 (Int.toNat a1) (0, (0, (0, ([], ([], false)))))).2.2.2.2.1, a2.2.2.2.2.2)), a0.2.2.2.2)) fun y4 =>
 gd (0 ≤ a1 ∧ a1 ≤ (List.length (List.set a0.2.2.2.1 (Int.toNat a1) (a2.1, a2.2.1, a2.2.2.1, a2.2.2.2.1, (List.getD a0.2.2.2.1 (Int.toNat a1) (0, (0, (0, ([], ([], false)))))).2.2.2.2.1, a2.2.2.2.2.2)) : Int)) <|
 bnd (List.take (Int.toNat a1) (List.set a0.2.2.2.1 (Int.toNat a1) (a2.1, a2.2.1, a2.2.2.1, a2.2.2.2.1, (List.getD a0.2.2.2.1 (Int.toNat a1) (0, (0, (0, ([], ([], false)))))).2.2.2.2.1, a2.2.2.2.2.2))) fun x5 =>
 bindO (F35 x5 (a2.1, a2.2.1, a2.2.2.1, a2.2.2.2.1, (List.getD a0.2.2.2.1 (Int.toNat a1) (0, (0, (0, ([], ([], false)))))).2.2.2.2.1, a2.2.2.2.2.2)) fun y6 =>
 some (y4 == (decide (y6 = (List.getD a0.2.2.2.1 (Int.toNat a1) (0, (0, (0, ([], ([], false)))))).2.2.2.2.1)))))))))
def dc9 : DC :=
 (.seq (.reg [Bx 3 32 0, Bx 5 65 2, Mb 6 false])
 (.seq (.seq (.reg [⟨none, (.ca (some 8) 10 [])⟩, Un 9 8])
 (.cond (.t 9)
 (.seq (.reg [Mb 6 false])
 .ret)
 .skip))
 (.seq (.seq (.reg [Lt 10 32 3, Ca 11 16 10, Un 12 11, Mt 13 12, Gd 13 (Fa 14 65 3 5), Gd 13 (Ld 15 14), Gd 13 (Lm 16 15), Gd 13 (Ai 17 .gtr 16 100), Po 18 13 17, Mt 19 18, Gd 19 (Mt 20 1), Gd 19 (Ai 21 .lss 20 0), Po 22 19 21, Mt 23 22, Gd 23 (Mt 24 1), Gd 23 (Fa 25 32 3 3), Gd 23 (Ld 26 25), Gd 23 (Ln 27 65 26), Gd 23 (Ar 28 .geq 24 27), Po 29 23 28, Mt 30 29, Gd 30 (Lt 31 32 3), Gd 30 (Ca 32 34 31), Gd 30 (Un 33 32), Po 34 30 33])
 (.cond (.t 34)
 (.seq (.reg [Mb 6 true])
 .ret)
 .skip))
 (.seq (.reg [⟨none, (.zs 35 65)⟩, Fa 36 32 3 3, Ld 37 36, ⟨none, (.cx 38 65 (.t 35) (.t 37))⟩, Mt 7 38])
 (.seq (.reg [Mt 39 7, Mt 40 1, Ea 41 65 39 40, Fa 42 65 4 41, Ld 43 42, Fa 44 65 4 5, Su 44 43])
 (.seq (.reg [Mt 45 7, Mt 46 1, Lt 47 65 5, Ea 48 65 45 46, Sr 65 48 47])
 (.seq (.seq (.gh 38 [])
 (.reg [Mt 49 7, Fa 50 32 3 3, Su 50 49]))
 (.seq (.reg [Lt 51 32 3, Ca 52 33 51, Mt 53 7, Mt 54 1, ⟨none, (.sc 55 (some 65) (.t 53) none (some (.t 54)))⟩, Lt 56 65 5, Cb 57 35 55 56, Fa 58 65 4 5, Ld 59 58, Ar 60 .eql 57 59, ⟨none, (.eb 61 false (.t 52) (.t 60))⟩, Mt 6 61])
 .ret))))))))
noncomputable def ent9 : TEnt := ⟨9, [shObj, (.int .i64), shFix], .bool, fun x => F9 x.1 x.2.1 x.2.2, .plain⟩
theorem eq9 (x : dens ent9.as) : ent9.F x = evF [ent10, ent16, ent33, ent34, ent35] SHF dc9 [(.tmp 6)] ent9.as ent9.rs x := by kernel_rfl
theorem mixedF : Tryz.prog.follows .mixedOrders = true := by kernel_rfl
section
variable {G : World → Prop} (hG : Keeps G)
include hG in
theorem ok153 : TEnt.Ok Tryz.prog G ent153 :=
 ent_ok hG mixedF (fn := Tryz.f153) (d := dc153) (crs := [(.tmp 2)]) (hint := []) (TT := []) (SH := SHF) rfl rfl (by kernel_rfl) (splitsNil (by kernel_rfl)) (by decide) rfl trivial eq153
include hG in
theorem ok139 (h153 : TEnt.Ok Tryz.prog G ent153) (h154 : TEnt.Ok Tryz.prog G entTZ) : TEnt.Ok Tryz.prog G ent139 :=
 ent_ok hG mixedF (fn := Tryz.f139) (d := dc139) (crs := [(.tmp 10), (.tmp 11)]) (hint := [(30, 12)]) (TT := [ent153, entTZ]) (SH := SHF) rfl rfl (by kernel_rfl) (splitsNil (by kernel_rfl)) (by decide) rfl ⟨h153, h154, trivial⟩ eq139
include hG in
theorem ok121 (h139 : TEnt.Ok Tryz.prog G ent139) : TEnt.Ok Tryz.prog G ent121 :=
 ent_ok hG mixedF (fn := Tryz.f121) (d := dc121) (crs := [(.tmp 4)]) (hint := []) (TT := [ent139]) (SH := SHF) rfl rfl (by kernel_rfl) (splitsNil (by kernel_rfl)) (by decide) rfl ⟨h139, trivial⟩ eq121
include hG in
theorem ok104 (h121 : TEnt.Ok Tryz.prog G ent121) : TEnt.Ok Tryz.prog G ent104 :=
 ent_ok hG mixedF (fn := Tryz.f104) (d := dc104) (crs := [(.tmp 4)]) (hint := []) (TT := [ent121]) (SH := SHF) rfl rfl (by kernel_rfl) (splitsNil (by kernel_rfl)) (by decide) rfl ⟨h121, trivial⟩ eq104
include hG in
theorem ok90 (h104 : TEnt.Ok Tryz.prog G ent104) (h105 : TEnt.Ok Tryz.prog G entRepeat) : TEnt.Ok Tryz.prog G ent90 :=
 ent_ok hG mixedF (fn := Tryz.f90) (d := dc90) (crs := [(.tmp 2)]) (hint := []) (TT := [ent104, entRepeat]) (SH := SHF) rfl rfl (by kernel_rfl) (splitsNil (by kernel_rfl)) (by decide) rfl ⟨h104, h105, trivial⟩ eq90
include hG in
theorem ok73 (h90 : TEnt.Ok Tryz.prog G ent90) : TEnt.Ok Tryz.prog G ent73 :=
 ent_ok hG mixedF (fn := Tryz.f73) (d := dc73) (crs := [(.tmp 2)]) (hint := []) (TT := [ent90]) (SH := SHF) rfl rfl (by kernel_rfl) (splitsNil (by kernel_rfl)) (by decide) rfl ⟨h90, trivial⟩ eq73
include hG in
theorem ok71 : TEnt.Ok Tryz.prog G ent71 :=
 ent_ok hG mixedF (fn := Tryz.f71) (d := dc71) (crs := [(.tmp 2)]) (hint := []) (TT := []) (SH := SHF) rfl rfl (by kernel_rfl) (splitsNil (by kernel_rfl)) (by decide) rfl trivial eq71
include hG in
theorem ok118 (h90 : TEnt.Ok Tryz.prog G ent90) : TEnt.Ok Tryz.prog G ent118 :=
 ent_ok hG mixedF (fn := Tryz.f118) (d := dc118) (crs := [(.tmp 4)]) (hint := []) (TT := [ent90]) (SH := SHF) rfl rfl (by kernel_rfl) (splitsNil (by kernel_rfl)) (by decide) rfl ⟨h90, trivial⟩ eq118
include hG in
theorem ok82 (h94 : TEnt.Ok Tryz.prog G entTrim) : TEnt.Ok Tryz.prog G ent82 :=
 ent_ok hG mixedF (fn := Tryz.f82) (d := dc82) (crs := [(.tmp 2)]) (hint := []) (TT := [entTrim]) (SH := SHF) rfl rfl (by kernel_rfl) (splitsNil (by kernel_rfl)) (by decide) rfl ⟨h94, trivial⟩ eq82
include hG in
theorem ok96 (h90 : TEnt.Ok Tryz.prog G ent90) : TEnt.Ok Tryz.prog G ent96 :=
 ent_ok hG mixedF (fn := Tryz.f96) (d := dc96) (crs := [(.tmp 2)]) (hint := [(7, 8)]) (TT := [ent90]) (SH := SHF) rfl rfl (by kernel_rfl) (splitsNil (by kernel_rfl)) (by decide) rfl ⟨h90, trivial⟩ eq96
include hG in
theorem ok97 (h118 : TEnt.Ok Tryz.prog G ent118) : TEnt.Ok Tryz.prog G ent97 :=
 ent_ok hG mixedF (fn := Tryz.f97) (d := dc97) (crs := [(.tmp 2)]) (hint := []) (TT := [ent118]) (SH := SHF) rfl rfl (by kernel_rfl) (splitsNil (by kernel_rfl)) (by decide) rfl ⟨h118, trivial⟩ eq97
include hG in
theorem ok78 (h73 : TEnt.Ok Tryz.prog G ent73) (h96 : TEnt.Ok Tryz.prog G ent96) (h97 : TEnt.Ok Tryz.prog G ent97) : TEnt.Ok Tryz.prog G ent78 :=
 ent_ok hG mixedF (fn := Tryz.f78) (d := dc78) (crs := [(.tmp 2)]) (hint := []) (TT := [ent73, ent96, ent97]) (SH := SHF) rfl rfl (by kernel_rfl) (splitsNil (by kernel_rfl)) (by decide) rfl ⟨h73, h96, h97, trivial⟩ eq78
include hG in
theorem ok76 (h94 : TEnt.Ok Tryz.prog G entTrim) (h95 : TEnt.Ok Tryz.prog G entSplit) : TEnt.Ok Tryz.prog G ent76 :=
 ent_ok hG mixedF (fn := Tryz.f76) (d := dc76) (crs := [(.tmp 2)]) (hint := []) (TT := [entTrim, entSplit]) (SH := SHF) rfl rfl (by kernel_rfl) (splitsNil (by kernel_rfl)) (by decide) rfl ⟨h94, h95, trivial⟩ eq76
include hG in
theorem ok38 (h76 : TEnt.Ok Tryz.prog G ent76) : TEnt.Ok Tryz.prog G ent38 :=
 ent_ok hG mixedF (fn := Tryz.f38) (d := dc38) (crs := [(.tmp 2)]) (hint := []) (TT := [ent76]) (SH := SHF) rfl rfl (by kernel_rfl) (splitsNil (by kernel_rfl)) (by decide) rfl ⟨h76, trivial⟩ eq38
include hG in
theorem ok40 (h73 : TEnt.Ok Tryz.prog G ent73) (h78 : TEnt.Ok Tryz.prog G ent78) : TEnt.Ok Tryz.prog G ent40 :=
 ent_ok hG mixedF (fn := Tryz.f40) (d := dc40) (crs := [(.tmp 2)]) (hint := []) (TT := [ent73, ent78]) (SH := SHF) rfl rfl (by kernel_rfl) (splitsNil (by kernel_rfl)) (by decide) rfl ⟨h73, h78, trivial⟩ eq40
include hG in
theorem ok36 : TEnt.Ok Tryz.prog G ent36 :=
 ent_ok hG mixedF (fn := Tryz.f36) (d := dc36) (crs := [(.tmp 2)]) (hint := []) (TT := []) (SH := SHF) rfl rfl (by kernel_rfl) (splitsNil (by kernel_rfl)) (by decide) rfl trivial eq36
include hG in
theorem ok37 : TEnt.Ok Tryz.prog G ent37 :=
 ent_ok hG mixedF (fn := Tryz.f37) (d := dc37) (crs := [(.tmp 2)]) (hint := []) (TT := []) (SH := SHF) rfl rfl (by kernel_rfl) (splitsNil (by kernel_rfl)) (by decide) rfl trivial eq37
include hG in
theorem ok77 : TEnt.Ok Tryz.prog G ent77 :=
 ent_ok hG mixedF (fn := Tryz.f77) (d := dc77) (crs := [(.tmp 6)]) (hint := []) (TT := []) (SH := SHF) rfl rfl (by kernel_rfl) (splitsNil (by kernel_rfl)) (by decide) rfl trivial eq77
include hG in
theorem ok39 (h77 : TEnt.Ok Tryz.prog G ent77) : TEnt.Ok Tryz.prog G ent39 :=
 ent_ok hG mixedF (fn := Tryz.f39) (d := dc39) (crs := [(.tmp 2)]) (hint := []) (TT := [ent77]) (SH := SHF) rfl rfl (by kernel_rfl) (splitsNil (by kernel_rfl)) (by decide) rfl ⟨h77, trivial⟩ eq39
include hG in
theorem ok93 : TEnt.Ok Tryz.prog G ent93 :=
 ent_ok hG mixedF (fn := Tryz.f93) (d := dc93) (crs := [(.tmp 2)]) (hint := []) (TT := []) (SH := SHF) rfl rfl (by kernel_rfl) (splitsNil (by kernel_rfl)) (by decide) rfl trivial eq93
include hG in
theorem ok75 (h93 : TEnt.Ok Tryz.prog G ent93) : TEnt.Ok Tryz.prog G ent75 :=
 ent_ok hG mixedF (fn := Tryz.f75) (d := dc75) (crs := [(.tmp 2)]) (hint := []) (TT := [ent93]) (SH := SHF) rfl rfl (by kernel_rfl) (splitsNil (by kernel_rfl)) (by decide) rfl ⟨h93, trivial⟩ eq75
include hG in
theorem ok35 (h71 : TEnt.Ok Tryz.prog G ent71) (h75 : TEnt.Ok Tryz.prog G ent75) : TEnt.Ok Tryz.prog G ent35 :=
 ent_ok hG mixedF (fn := Tryz.f35) (d := dc35) (crs := [(.tmp 4)]) (hint := []) (TT := [ent71, ent75]) (SH := SHF) rfl rfl (by kernel_rfl) (splitsNil (by kernel_rfl)) (by decide) rfl ⟨h71, h75, trivial⟩ eq35
include hG in
theorem ok34 (h35 : TEnt.Ok Tryz.prog G ent35) : TEnt.Ok Tryz.prog G ent34 :=
 ent_ok hG mixedF (fn := Tryz.f34) (d := dc34) (crs := [(.tmp 2)]) (hint := []) (TT := [ent35]) (SH := SHF) rfl rfl (by kernel_rfl) (splitsNil (by kernel_rfl)) (by decide) rfl ⟨h35, trivial⟩ eq34
include hG in
theorem ok11 : TEnt.Ok Tryz.prog G ent11 :=
 ent_ok hG mixedF (fn := Tryz.f11) (d := dc11) (crs := [(.tmp 2)]) (hint := []) (TT := []) (SH := SHF) rfl rfl (by kernel_rfl) (splitsNil (by kernel_rfl)) (by decide) rfl trivial eq11
include hG in
theorem ok16 (h11 : TEnt.Ok Tryz.prog G ent11) : TEnt.Ok Tryz.prog G ent16 :=
 ent_ok hG mixedF (fn := Tryz.f16) (d := dc16) (crs := [(.tmp 2)]) (hint := []) (TT := [ent11]) (SH := SHF) rfl rfl (by kernel_rfl) (splitsNil (by kernel_rfl)) (by decide) rfl ⟨h11, trivial⟩ eq16
include hG in
theorem ok74 (h91 : TEnt.Ok Tryz.prog G entJoin) (h92 : TEnt.Ok Tryz.prog G entItoa) : TEnt.Ok Tryz.prog G ent74 :=
 ent_ok hG mixedF (fn := Tryz.f74) (d := dc74) (crs := [(.tmp 2)]) (hint := []) (TT := [entJoin, entItoa]) (SH := SHF) rfl rfl (by kernel_rfl) (splitsNil (by kernel_rfl)) (by decide) rfl ⟨h91, h92, trivial⟩ eq74
include hG in
theorem ok33 (h73 : TEnt.Ok Tryz.prog G ent73) (h74 : TEnt.Ok Tryz.prog G ent74) : TEnt.Ok Tryz.prog G ent33 :=
 ent_ok hG mixedF (fn := Tryz.f33) (d := dc33) (crs := [(.tmp 2)]) (hint := []) (TT := [ent73, ent74]) (SH := SHF) rfl rfl (by kernel_rfl) (splitsNil (by kernel_rfl)) (by decide) rfl ⟨h73, h74, trivial⟩ eq33
include hG in
theorem ok48 (h36 : TEnt.Ok Tryz.prog G ent36) (h37 : TEnt.Ok Tryz.prog G ent37) (h38 : TEnt.Ok Tryz.prog G ent38) (h82 : TEnt.Ok Tryz.prog G ent82) : TEnt.Ok Tryz.prog G ent48 :=
 ent_ok hG mixedF (fn := Tryz.f48) (d := dc48) (crs := [(.tmp 4)]) (hint := []) (TT := [ent36, ent37, ent38, ent82]) (SH := SHF) rfl rfl (by kernel_rfl) (splitsNil (by kernel_rfl)) (by decide) rfl ⟨h36, h37, h38, h82, trivial⟩ eq48
include hG in
theorem ok49 (h37 : TEnt.Ok Tryz.prog G ent37) (h82 : TEnt.Ok Tryz.prog G ent82) : TEnt.Ok Tryz.prog G ent49 :=
 ent_ok hG mixedF (fn := Tryz.f49) (d := dc49) (crs := [(.tmp 2)]) (hint := []) (TT := [ent37, ent82]) (SH := SHF) rfl rfl (by kernel_rfl) (splitsNil (by kernel_rfl)) (by decide) rfl ⟨h37, h82, trivial⟩ eq49
include hG in
theorem ok50 : TEnt.Ok Tryz.prog G ent50 :=
 ent_ok hG mixedF (fn := Tryz.f50) (d := dc50) (crs := [(.tmp 2)]) (hint := []) (TT := []) (SH := SHF) rfl rfl (by kernel_rfl) (splitsNil (by kernel_rfl)) (by decide) rfl trivial eq50
include hG in
theorem ok15 (h33 : TEnt.Ok Tryz.prog G ent33) (h36 : TEnt.Ok Tryz.prog G ent36) (h39 : TEnt.Ok Tryz.prog G ent39) (h48 : TEnt.Ok Tryz.prog G ent48) (h49 : TEnt.Ok Tryz.prog G ent49) (h50 : TEnt.Ok Tryz.prog G ent50) : TEnt.Ok Tryz.prog G ent15 :=
 ent_ok hG mixedF (fn := Tryz.f15) (d := dc15) (crs := [(.tmp 2)]) (hint := []) (TT := [ent33, ent36, ent39, ent48, ent49, ent50]) (SH := SHF) rfl rfl (by kernel_rfl) (splitsNil (by kernel_rfl)) (by decide) rfl ⟨h33, h36, h39, h48, h49, h50, trivial⟩ eq15
include hG in
theorem ok21 : TEnt.Ok Tryz.prog G ent21 :=
 ent_ok hG mixedF (fn := Tryz.f21) (d := dc21) (crs := [(.tmp 2)]) (hint := []) (TT := []) (SH := SHF) rfl rfl (by kernel_rfl) (splitsNil (by kernel_rfl)) (by decide) rfl trivial eq21
include hG in
theorem ok51 (h37 : TEnt.Ok Tryz.prog G ent37) : TEnt.Ok Tryz.prog G ent51 :=
 ent_ok hG mixedF (fn := Tryz.f51) (d := dc51) (crs := [(.tmp 4)]) (hint := []) (TT := [ent37]) (SH := SHF) rfl rfl (by kernel_rfl) (splitsNil (by kernel_rfl)) (by decide) rfl ⟨h37, trivial⟩ eq51
include hG in
theorem ok57 (h40 : TEnt.Ok Tryz.prog G ent40) : TEnt.Ok Tryz.prog G ent57 :=
 ent_ok hG mixedF (fn := Tryz.f57) (d := dc57) (crs := [(.tmp 2)]) (hint := []) (TT := [ent40]) (SH := SHF) rfl rfl (by kernel_rfl) (splitsNil (by kernel_rfl)) (by decide) rfl ⟨h40, trivial⟩ eq57
include hG in
theorem ok56 (h57 : TEnt.Ok Tryz.prog G ent57) : TEnt.Ok Tryz.prog G ent56 :=
 ent_ok hG mixedF (fn := Tryz.f56) (d := dc56) (crs := [(.tmp 2)]) (hint := []) (TT := [ent57]) (SH := SHF) rfl rfl (by kernel_rfl) (splitsNil (by kernel_rfl)) (by decide) rfl ⟨h57, trivial⟩ eq56
include hG in
theorem ok83 (h56 : TEnt.Ok Tryz.prog G ent56) : TEnt.Ok Tryz.prog G ent83 :=
 ent_ok hG mixedF (fn := Tryz.f83) (d := dc83) (crs := [(.tmp 4)]) (hint := []) (TT := [ent56]) (SH := SHF) rfl rfl (by kernel_rfl) (splitsNil (by kernel_rfl)) (by decide) rfl ⟨h56, trivial⟩ eq83
include hG in
theorem ok55 (h83 : TEnt.Ok Tryz.prog G ent83) : TEnt.Ok Tryz.prog G ent55 :=
 ent_ok hG mixedF (fn := Tryz.f55) (d := dc55) (crs := [(.tmp 4)]) (hint := []) (TT := [ent83]) (SH := SHF) rfl rfl (by kernel_rfl) (splitsNil (by kernel_rfl)) (by decide) rfl ⟨h83, trivial⟩ eq55
include hG in
theorem ok20 (h55 : TEnt.Ok Tryz.prog G ent55) : TEnt.Ok Tryz.prog G ent20 :=
 ent_ok hG mixedF (fn := Tryz.f20) (d := dc20) (crs := [(.tmp 2)]) (hint := []) (TT := [ent55]) (SH := SHF) rfl rfl (by kernel_rfl) (splitsNil (by kernel_rfl)) (by decide) rfl ⟨h55, trivial⟩ eq20
include hG in
theorem ok101 : TEnt.Ok Tryz.prog G ent101 :=
 ent_ok hG mixedF (fn := Tryz.f101) (d := dc101) (crs := [(.tmp 3)]) (hint := []) (TT := []) (SH := SHF) rfl rfl (by kernel_rfl) (splitsNil (by kernel_rfl)) (by decide) rfl trivial eq101
include hG in
theorem ok100 (h101 : TEnt.Ok Tryz.prog G ent101) : TEnt.Ok Tryz.prog G ent100 :=
 ent_ok hG mixedF (fn := Tryz.f100) (d := dc100) (crs := [(.tmp 4)]) (hint := []) (TT := [ent101]) (SH := SHF) rfl rfl (by kernel_rfl) (splitsNil (by kernel_rfl)) (by decide) rfl ⟨h101, trivial⟩ eq100
include hG in
theorem ok84 (h100 : TEnt.Ok Tryz.prog G ent100) : TEnt.Ok Tryz.prog G ent84 :=
 ent_ok hG mixedF (fn := Tryz.f84) (d := dc84) (crs := [(.tmp 4)]) (hint := [(1, 3)]) (TT := [ent100]) (SH := SHF) rfl rfl (by kernel_rfl) (splitsNil (by kernel_rfl)) (by decide) rfl ⟨h100, trivial⟩ eq84
include hG in
theorem ok60 (h84 : TEnt.Ok Tryz.prog G ent84) : TEnt.Ok Tryz.prog G ent60 :=
 ent_ok hG mixedF (fn := Tryz.f60) (d := dc60) (crs := [(.cell 4 (some 72)), (.tmp 5)]) (hint := []) (TT := [ent84]) (SH := SHF) rfl rfl (by kernel_rfl) (splitsNil (by kernel_rfl)) (by decide) rfl ⟨h84, trivial⟩ eq60
include hG in
theorem ok85 : TEnt.Ok Tryz.prog G ent85 :=
 ent_ok hG mixedF (fn := Tryz.f85) (d := dc85) (crs := [(.tmp 4)]) (hint := []) (TT := []) (SH := SHF) rfl rfl (by kernel_rfl) (splitsNil (by kernel_rfl)) (by decide) rfl trivial eq85
include hG in
theorem ok61 (h85 : TEnt.Ok Tryz.prog G ent85) : TEnt.Ok Tryz.prog G ent61 :=
 ent_ok hG mixedF (fn := Tryz.f61) (d := dc61) (crs := [(.tmp 4)]) (hint := []) (TT := [ent85]) (SH := SHF) rfl rfl (by kernel_rfl) (splitsNil (by kernel_rfl)) (by decide) rfl ⟨h85, trivial⟩ eq61
include hG in
theorem ok86 (h102 : TEnt.Ok Tryz.prog G entCutP) : TEnt.Ok Tryz.prog G ent86 :=
 ent_ok hG mixedF (fn := Tryz.f86) (d := dc86) (crs := [(.tmp 6), (.tmp 7)]) (hint := []) (TT := [entCutP]) (SH := SHF) rfl rfl (by kernel_rfl) (splitsNil (by kernel_rfl)) (by decide) rfl ⟨h102, trivial⟩ eq86
include hG in
theorem ok62 (h38 : TEnt.Ok Tryz.prog G ent38) (h86 : TEnt.Ok Tryz.prog G ent86) : TEnt.Ok Tryz.prog G ent62 :=
 ent_ok hG mixedF (fn := Tryz.f62) (d := dc62) (crs := [(.tmp 6), (.tmp 7)]) (hint := []) (TT := [ent38, ent86]) (SH := SHF) rfl rfl (by kernel_rfl) (splitsNil (by kernel_rfl)) (by decide) rfl ⟨h38, h86, trivial⟩ eq62
include hG in
theorem ok10 (h12 : TEnt.Ok Tryz.prog G entIngest) (h17 : TEnt.Ok Tryz.prog G entCheck) (h20 : TEnt.Ok Tryz.prog G ent20) (h21 : TEnt.Ok Tryz.prog G ent21) (h23 : TEnt.Ok Tryz.prog G entMigrate) (h25 : TEnt.Ok Tryz.prog G entDamage) (h27 : TEnt.Ok Tryz.prog G entRepair) (h33 : TEnt.Ok Tryz.prog G ent33) : TEnt.Ok Tryz.prog G ent10 :=
 ent_ok hG mixedF (fn := Tryz.f10) (d := dc10) (crs := [(.tmp 0)]) (hint := []) (TT := [entIngest, entCheck, ent20, ent21, entMigrate, entDamage, entRepair, ent33]) (SH := SHF) rfl rfl (by kernel_rfl) (splitsNil (by kernel_rfl)) (by decide) rfl ⟨h12, h17, h20, h21, h23, h25, h27, h33, trivial⟩ eq10
include hG in
theorem ok9 (h10 : TEnt.Ok Tryz.prog G ent10) (h16 : TEnt.Ok Tryz.prog G ent16) (h33 : TEnt.Ok Tryz.prog G ent33) (h34 : TEnt.Ok Tryz.prog G ent34) (h35 : TEnt.Ok Tryz.prog G ent35) : TEnt.Ok Tryz.prog G ent9 :=
 ent_ok hG mixedF (fn := Tryz.f9) (d := dc9) (crs := [(.tmp 6)]) (hint := [(30000000, 40000035), (30000000, 40000038), (8, 38)]) (TT := [ent10, ent16, ent33, ent34, ent35]) (SH := SHF) rfl rfl (by kernel_rfl) (splitsNil (by kernel_rfl)) (by decide) rfl ⟨h10, h16, h33, h34, h35, trivial⟩ eq9
end
end Go.Proofs.YtecjedagdpnemaaGreatDoor
