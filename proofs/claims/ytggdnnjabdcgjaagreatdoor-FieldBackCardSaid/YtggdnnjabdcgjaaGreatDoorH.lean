/-
  field.Set: its closure, the search, the deleting. No condition beyond what each line says.
-/
import Derived.Test.YtggdnnjabdcgjaaGreatDoorF0
import Derived.WalkKit
import Derived.Deep.LoopGhost
import Derived.Shelf.SlicesQ.Reverse
import Derived.Lib.SlKept
namespace Go.Proofs.YtggdnnjabdcgjaaGreatDoor.S
open Go Go.Nu Go.RowKit Go.Sort Go.Lib
set_option linter.unusedVariables false

abbrev Sub := UInt8 × List UInt8
def encS (s : Sub) : List Value := [.int .u8 (s.1.toNat : Int), .string ⟨s.2.toArray⟩]
theorem encS_len (s : Sub) : (encS s).length = 2 := rfl
theorem encS_one (s : Sub) : ∀ v ∈ encS s, v.oneCell' = true := by
  intro v hv
  simp only [encS, List.mem_cons, List.not_mem_nil, or_false] at hv
  rcases hv with rfl | rfl <;> rfl
theorem sz46 : sizes Tryz.prog 46 = some [1, 1] := by kernel_rfl
theorem cells46 : Tryz.prog.cellsOf 46 = 2 := by kernel_rfl
theorem rep_sub {S : Nat → Nat → Prop} {w : World} {ow : Ow} (s : Sub) : RepC Tryz.prog S w ow (toV shSub s) (encS s) := by
  show RepC Tryz.prog S w ow (.agg 46 [byteV s.1, .str s.2]) ([.int .u8 (s.1.toNat : Int)] ++ ([.string ⟨s.2.toArray⟩] ++ []))
  exact .agg ow sz46 (by rw [cells46]; rfl) (.cons ow (.int ow .u8 _) (.cons ow (.str ow _) (.nil ow))) (by decide)

/-- The closure. -/
theorem callPred (c : UInt8) (cb : Nat) (w : World) (hg : GT w) (hcb : w.cell? ⟨cb, 0, none⟩ = some (.int .u8 (c.toNat : Int))) (s : Sub) :
    Calls Tryz.prog 35 (#[.agg (encS s).toArray] ++ #[.pointer (some ⟨cb, 0, none⟩)]) w fun e w' => e = .returned (.bool (s.1 == c)) ∧ Below w.heap.size w w' := by
  have hlt : cb < w.heap.size := by
    rcases Nat.lt_or_ge cb w.heap.size with h | h
    · exact h
    · unfold World.cell? at hcb
      rw [Array.getElem?_eq_none h] at hcb
      cases hcb
  have h := (ok35 keepsGT).sim rfl (s, c) (s.1 == c) (by
    show some (decide ((UInt8.toNat s.1 : Int) = (UInt8.toNat c : Int))) = _
    congr 1
    rw [Bool.eq_iff_iff, decide_eq_true_eq, beq_iff_eq, ← UInt8.toNat_inj]
    omega)
  refine (h w (fun b o => b = cb ∧ o = 0) [.agg (encS s).toArray, .pointer (some ⟨cb, 0, none⟩)] hg (fun b o hb => by rw [hb.1]; exact hlt) ⟨⟨encS s, rfl, rep_sub s⟩, ?_, trivial⟩).mono ?_
  · show RepC Tryz.prog _ w noOw (.rp (byteV c)) [.pointer (some ⟨cb, 0, none⟩)]
    refine .rp _ (.int _ .u8 _) ?_
    intro j u hu
    match j, hu with
    | 0, hu => cases hu; exact ⟨⟨rfl, rfl⟩, hcb⟩
  · rintro e w' ⟨r, rfl, hb, S', _, _, hr⟩
    refine ⟨?_, hb⟩
    have hr : RepC Tryz.prog S' w' noOw (.bool (s.1 == c)) [r] := hr
    cases hr
    rfl

/-- The search. -/
def idxS (c : UInt8) : List Sub → Int → Int
  | [], _ => -1
  | s :: l, i => if s.1 = c then i else idxS c l (i + 1)
theorem f29 (l : List Sub) (c : UInt8) (hl : l.length ≤ 1000000) : F29 l (c, ()) = some (idxS c l 0) := by
  unfold F29

  refine loopK_rule (fun p : Int => ∃ i : Nat, p = (i : Int) ∧ i ≤ l.length ∧ idxS c (l.drop i) i = idxS c l 0) (fun p => l.length - p.toNat) ⟨0, rfl, Nat.zero_le _, rfl⟩ rfl ?_
  rintro _ again ⟨i, rfl, hi, he⟩ hag
  by_cases hlt : i < l.length
  · rw [show (decide ((i : Int) < (l.length : Int))) = true from decide_eq_true (by omega), cond_true, gd_pos (by omega), Int.toNat_natCast]
    have hd : l.drop i = l.getD i (0, []) :: l.drop (i + 1) := by
      rw [List.drop_eq_getElem_cons hlt, List.getD_eq_getElem?_getD, List.getElem?_eq_getElem hlt]; rfl
    rw [hd] at he
    generalize l.getD i (0, []) = s at *
    unfold F35
    rw [bindO_some]
    by_cases hs : s.1 = c
    · rw [show (decide ((UInt8.toNat s.1 : Int) = (UInt8.toNat c : Int))) = true from decide_eq_true (by rw [hs]), cond_true]
      simp only [idxS, hs, if_true] at he
      rw [he]
    · rw [show (decide ((UInt8.toNat s.1 : Int) = (UInt8.toNat c : Int))) = false from decide_eq_false (fun h => hs (UInt8.toNat_inj.1 (by omega))), cond_false]
      show again (IntKind.wrap .i64 ((i : Int) + 1)) = _
      rw [i64_wrap (by omega)]
      simp only [idxS, hs, if_false] at he
      exact hag _ ⟨i + 1, by omega, by omega, by rw [← he]; norm_cast⟩ (by omega)
  · rw [show (decide ((i : Int) < (l.length : Int))) = false from decide_eq_false (by omega), cond_false]
    rw [List.drop_eq_nil_of_le (by omega)] at he
    simp only [idxS] at he
    rw [← he]

/-! ### deleting -/
theorem holds_of_below {w w' : World} {g k : Nat} {d : Array Sub} (h : HoldsK encS k w g 0 d) (hlt : g < w.heap.size) (hb : Below w.heap.size w w') : HoldsK encS k w' g 0 d := by
  intro j hj
  have := h j hj
  have e : w'.heap[g]? = w.heap[g]? := hb.block g hlt
  refine ⟨?_, ?_⟩
  · rw [← this.1]; simp [World.cell?, e]
  · rw [← this.2]; simp [World.frozen?, e]
end Go.Proofs.YtggdnnjabdcgjaaGreatDoor.S
