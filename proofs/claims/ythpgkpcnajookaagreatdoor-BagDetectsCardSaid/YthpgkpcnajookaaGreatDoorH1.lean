/-
  bag.entries, walked: what it returns, in whatever world. No condition beyond what each line says.
-/
import Derived.Test.YthpgkpcnajookaaGreatDoorU
import Derived.WalkKit
import Derived.Deep.LoopGhost
import Derived.Maps.OwnSet
namespace Go.Proofs.YthpgkpcnajookaaGreatDoor
open Go Go.Nu Go.RowKit Go.Sort Go.Maps
set_option linter.unusedVariables false

theorem below_tr {n : Nat} {w w1 w2 : World} (h : Below n w w1) (hn : n ≤ w1.heap.size) (hb : Below w1.heap.size w1 w2) : Below n w w2 :=
  ⟨hb.os.trans h.os, hb.tape.trans h.tape, hb.output.trans h.output, Nat.le_trans h.size hb.size, fun j hj => (hb.block j (Nat.lt_of_lt_of_le hj hn)).trans (h.block j hj)⟩
theorem grown_of_below {w w' : World} (h : Below w.heap.size w w') (row : Option Nat) : w.grownBy w' row := ⟨h.os, h.tape, h.output, h.size, fun k hk _ => h.block k hk⟩
theorem byte_data (l : List UInt8) : (⟨l.toArray⟩ : ByteArray).data.toList = l := rfl
theorem byte_toList (b : ByteArray) : b.toList = b.data.toList := by rw [Lib.toList_data]
theorem byte_eta (b : ByteArray) : (⟨b.data.toList.toArray⟩ : ByteArray) = b := congrArg ByteArray.mk (Array.toArray_toList)
theorem byte_size (b : ByteArray) : b.size = b.data.toList.length := by show b.data.size = _; rw [Array.length_toList]
theorem empty_true {b : ByteArray} (h : b.data.toList = []) : b.toList.isEmpty = true := by rw [byte_toList, h]; rfl
theorem empty_false {b : ByteArray} (h : b.data.toList ≠ []) : b.toList.isEmpty = false := by
  rw [byte_toList]
  cases hb : b.data.toList with
  | nil => exact absurd hb h
  | cons _ _ => rfl

/-! ### the callees -/
theorem run_leq (a b : ByteArray) (W : World) : (binOp .leq 9 (.string a) (.string b)).run Tryz.prog W = .ok (.bool (Op.bytesLess a.toList b.toList || a.toList == b.toList)) W := by simp [binOp, Op.stringOp]
theorem callCut (s c : ByteArray) (w : World) (hg : GT w) (hs : s.data.toList.length ≤ 1000000) :
    Calls Tryz.prog 43 #[.string s, .string c] w fun e w' => e = .returned (.tuple #[.string ⟨(Lib.cut s.data.toList c.data.toList).1.toArray⟩, .string ⟨(Lib.cut s.data.toList c.data.toList).2.1.toArray⟩, .bool (Lib.cut s.data.toList c.data.toList).2.2]) ∧ Below w.heap.size w w' := by
  obtain ⟨_, h1, m, rfl⟩ := hg.2.1
  refine (Tryz.strings_Cut s c m w (by rw [byte_size]; omega) h1).mono ?_
  rintro e w' ⟨rfl, n, rfl⟩
  exact ⟨rfl, Go.Nu.below_drewN (Below.refl _ _) n⟩
theorem call_str1 {f : FuncId} {s : List UInt8} {r : V} {c : Value} (h : SimCalls Tryz.prog GT f [.str s] r) (hr : ∀ S w, ∀ c', RepS Tryz.prog S w noOw (fun _ => none) (fun _ => none) r c' → c' = c) (w : World) (hg : GT w) :
    Calls Tryz.prog f #[.string ⟨s.toArray⟩] w fun e w' => e = .returned c ∧ Below w.heap.size w w' := by
  refine (h w (fun _ _ => False) [.string ⟨s.toArray⟩] hg (fun _ _ h => h.elim) ⟨RepC.str noOw s, trivial⟩).mono ?_
  rintro e w' ⟨c', rfl, hb, S', _, _, hc⟩
  rw [hr _ _ _ hc]
  exact ⟨rfl, hb⟩
theorem rep_bool (b : Bool) : ∀ (S : Nat → Nat → Prop) (w : World), ∀ c', RepS Tryz.prog S w noOw (fun _ => none) (fun _ => none) (.bool b) c' → c' = .bool b := by
  intro S w c' h
  have h : RepC Tryz.prog S w noOw (.bool b) [c'] := h
  cases h; rfl
theorem rep_str (s : List UInt8) : ∀ (S : Nat → Nat → Prop) (w : World), ∀ c', RepS Tryz.prog S w noOw (fun _ => none) (fun _ => none) (.str s) c' → c' = .string ⟨s.toArray⟩ := by
  intro S w c' h
  have h : RepC Tryz.prog S w noOw (.str s) [c'] := h
  cases h; rfl
theorem callDig (s : ByteArray) (w : World) (hg : GT w) : Calls Tryz.prog 57 #[.string s] w fun e w' => e = .returned (.bool (isDig s.data.toList)) ∧ Below w.heap.size w w' := by
  have h := call_str1 ((ok57 keepsGT okTrim).sim rfl s.data.toList _ (f15 s.data.toList)) (rep_bool _) w hg
  rwa [byte_eta] at h
theorem callPath (s : ByteArray) (w : World) (hg : GT w) (hs : s.data.toList.length ≤ 1000000) : Calls Tryz.prog 29 #[.string s] w fun e w' => e = .returned (.bool (pathB s.data.toList)) ∧ Below w.heap.size w w' := by
  have h := call_str1 ((ok29 keepsGT okTrim okSplit).sim rfl s.data.toList _ (g29 s.data.toList hs)) (rep_bool _) w hg
  rwa [byte_eta] at h
theorem callSum (s : ByteArray) (w : World) (hg : GT w) (hs : s.data.toList.length ≤ 1000000) : Calls Tryz.prog 27 #[.string s] w fun e w' => e = .returned (.string ⟨(dig s.data.toList).toArray⟩) ∧ Below w.heap.size w w' := by
  have h := call_str1 ((ok27 keepsGT (ok48 keepsGT (ok63 keepsGT (ok81 keepsGT (ok96 keepsGT (ok117 keepsGT) okTZ))) okRepeat)).sim rfl s.data.toList _ (f11 s.data.toList (by omega))) (rep_str _) w hg
  rwa [byte_eta] at h

/-! ### the map of a manifest -/
def MD (m : List File) : DataW Unit := m.foldl (fun D x => D.put (.string x.2) (.lit (.string x.1))) (.map [])
theorem MD_app (m : List File) (x : File) : MD (m ++ [x]) = (MD m).put (.string x.2) (.lit (.string x.1)) := by
  unfold MD
  rw [List.foldl_append]; rfl
theorem keyed9 : Keyed Tryz.prog 9 := string_keyed Tryz.underlying9
/-- The world where a manifest is read: what lay there before, and the map in block b. -/
structure EntAt (w W : World) (b : Nat) (m : List File) : Prop where
  b0 : Below w.heap.size w W
  own : W.ownsMap Tryz.prog 9 (plainElem Tryz.prog 9) b m.length (MD m)
theorem EntAt.step {w W W1 : World} {b : Nat} {m : List File} (h : EntAt w W b m) (hb : Below W.heap.size W W1) : EntAt w W1 b m :=
  ⟨below_tr h.b0 h.b0.size hb, h.own.kept (grown_of_below hb none) (by simp)⟩
theorem EntAt.put {w W W1 : World} {m : List File} {x : File} (h : EntAt w W w.heap.size m) (ho : W1.ownsMap Tryz.prog 9 (plainElem Tryz.prog 9) w.heap.size (m.length + 1) ((MD m).put (.string x.2) (.lit (.string x.1)))) (hg : W.grownBy W1 (some w.heap.size)) : EntAt w W1 w.heap.size (m ++ [x]) :=
  ⟨h.b0.grown hg h.b0.size (fun k hk => by cases hk; exact Nat.le_refl _), by rw [MD_app, List.length_append]; exact ho⟩
theorem EntAt.start (w : World) : EntAt w (w.alloc (.map #[] 0)) w.heap.size [] := ⟨(Below.refl _ w).alloc (Nat.le_refl _) _, World.ownsMap_made _ _ _ _⟩

/-- What entries returns. -/
def EntPost (o : Option (List File)) (w : World) (e : Ending) (w' : World) : Prop :=
  match o with
  | some m => e = .returned (.tuple #[.map (some w.heap.size), .bool true]) ∧ EntAt w w' w.heap.size m
  | none => e = .returned (.tuple #[.map none, .bool false]) ∧ Below w.heap.size w w'
theorem entsG_step (k : Nat) (s last : List UInt8) : entsG (k + 1) s last = if s = [] then some [] else
    if (Lib.cut s [10]).2.2 = false ∨ (Lib.cut (Lib.cut s [10]).1 [32]).2.2 = false ∨ isDig (Lib.cut (Lib.cut s [10]).1 [32]).1 = false ∨ pathB (Lib.cut (Lib.cut s [10]).1 [32]).2.1 = false ∨
        (Op.bytesLess (Lib.cut (Lib.cut s [10]).1 [32]).2.1 last || decide ((Lib.cut (Lib.cut s [10]).1 [32]).2.1 = last)) = true then none
    else (entsG k (Lib.cut s [10]).2.1 (Lib.cut (Lib.cut s [10]).1 [32]).2.1).map fun l => ((Lib.cut (Lib.cut s [10]).1 [32]).1, (Lib.cut (Lib.cut s [10]).1 [32]).2.1) :: l := rfl

set_option maxHeartbeats 1000000 in
set_option maxRecDepth 1000000 in
theorem walkEnts (s : ByteArray) (w : World) (hg : GT w) (hs : s.data.toList.length ≤ 1000000) : Calls Tryz.prog 36 #[.string s] w (EntPost (entsP s.data.toList) w) := by
  have HG : Aside (GT w ∧ s.data.toList.length ≤ 1000000) := ⟨hg, hs⟩
  clear hg hs
  have hmm := @run_makeMap Tryz.prog
  go_enter Tryz.func36, Tryz.ntmps36
  go_wp2
  go_loopg [0, 5] s.data.toList.length (fun gg s0 s5 wr => ∃ (bs lb : ByteArray) (m : List File) (k : Nat), s0 = .string bs ∧ s5 = .string lb ∧ bs.data.toList.length ≤ gg ∧ Aside (bs.data.toList.length ≤ s.data.toList.length ∧ m.length + bs.data.toList.length ≤ s.data.toList.length ∧ bs.data.toList.length < k ∧
    entsP s.data.toList = (entsG k bs.data.toList lb.data.toList).map (fun x => m ++ x) ∧ EntAt w wr w.heap.size m))
  case atStart => exact ⟨s, ⟨#[]⟩, [], s.data.toList.length + 1, rfl, rfl, Nat.le_refl _, Nat.le_refl _, by simp, by omega, by unfold entsP; simp, EntAt.start w⟩
  case round =>
    obtain ⟨bs, lb, m, k, rfl, rfl, hgg, I⟩ := hrel
    by_cases h0 : bs.data.toList = []
    · have hbe := empty_true h0
      go_wp2
      go_ret2
      obtain ⟨i1, i2, i3, i4, i5⟩ := I.out
      obtain ⟨k, rfl⟩ : ∃ k', k = k' + 1 := ⟨k - 1, by omega⟩
      rw [i4, entsG_step, if_pos h0]
      exact ⟨rfl, by simpa using i5⟩
    · have hbe := empty_false h0
      -- the round's values
      obtain ⟨c1, hc1⟩ : ∃ c : ByteArray, (⟨(Lib.cut bs.data.toList (⟨#[10]⟩ : ByteArray).data.toList).1.toArray⟩ : ByteArray) = c := ⟨_, rfl⟩
      obtain ⟨c2, hc2⟩ : ∃ c : ByteArray, (⟨(Lib.cut bs.data.toList (⟨#[10]⟩ : ByteArray).data.toList).2.1.toArray⟩ : ByteArray) = c := ⟨_, rfl⟩
      obtain ⟨e1, he1⟩ : ∃ c : ByteArray, (⟨(Lib.cut c1.data.toList (⟨#[32]⟩ : ByteArray).data.toList).1.toArray⟩ : ByteArray) = c := ⟨_, rfl⟩
      obtain ⟨e2, he2⟩ : ∃ c : ByteArray, (⟨(Lib.cut c1.data.toList (⟨#[32]⟩ : ByteArray).data.toList).2.1.toArray⟩ : ByteArray) = c := ⟨_, rfl⟩
      have d1 : c1.data.toList = (Lib.cut bs.data.toList [10]).1 := by rw [← hc1]
      have d2 : c2.data.toList = (Lib.cut bs.data.toList [10]).2.1 := by rw [← hc2]
      have d3 : e1.data.toList = (Lib.cut c1.data.toList [32]).1 := by rw [← he1]
      have d4 : e2.data.toList = (Lib.cut c1.data.toList [32]).2.1 := by rw [← he2]
      have l1 := (cut_len bs.data.toList 10).1
      have l2 := (cut_len c1.data.toList 32).2
      have C1 : Aside (∀ W, EntAt w W w.heap.size m → Calls Tryz.prog 43 #[.string bs, .string ⟨#[10]⟩] W fun e w' => e = .returned (.tuple #[.string c1, .string c2, .bool (Lib.cut bs.data.toList [10]).2.2]) ∧ Below W.heap.size W w') := by
        intro W hW
        have := callCut bs ⟨#[10]⟩ W (keepsGT w W HG.out.1 hW.b0) (by have := I.out.1; have := HG.out.2; omega)
        rw [hc1, hc2] at this
        exact this
      have C2 : Aside (∀ W, EntAt w W w.heap.size m → Calls Tryz.prog 43 #[.string c1, .string ⟨#[32]⟩] W fun e w' => e = .returned (.tuple #[.string e1, .string e2, .bool (Lib.cut c1.data.toList [32]).2.2]) ∧ Below W.heap.size W w') := by
        intro W hW
        have := callCut c1 ⟨#[32]⟩ W (keepsGT w W HG.out.1 hW.b0) (by rw [d1]; have := I.out.1; have := HG.out.2; omega)
        rw [he1, he2] at this
        exact this
      have C3 : Aside (∀ W, EntAt w W w.heap.size m → Calls Tryz.prog 57 #[.string e1] W fun e w' => e = .returned (.bool (isDig e1.data.toList)) ∧ Below W.heap.size W w') :=
        fun W hW => callDig e1 W (keepsGT w W HG.out.1 hW.b0)
      have C4 : Aside (∀ W, EntAt w W w.heap.size m → Calls Tryz.prog 29 #[.string e2] W fun e w' => e = .returned (.bool (pathB e2.data.toList)) ∧ Below W.heap.size W w') :=
        fun W hW => callPath e2 W (keepsGT w W HG.out.1 hW.b0) (by rw [d4]; rw [d1] at l2 ⊢; have := I.out.1; have := HG.out.2; omega)
      have IE : Aside (EntAt w wr w.heap.size m) := I.out.2.2.2.2
      have I2 : Aside (c1.data.toList = (Lib.cut bs.data.toList [10]).1 ∧ c2.data.toList = (Lib.cut bs.data.toList [10]).2.1 ∧ e1.data.toList = (Lib.cut c1.data.toList [32]).1 ∧ e2.data.toList = (Lib.cut c1.data.toList [32]).2.1 ∧ bs.data.toList ≠ []) := ⟨d1, d2, d3, d4, h0⟩
      have HN : Aside (((Lib.cut bs.data.toList [10]).2.2 = false ∨ (Lib.cut c1.data.toList [32]).2.2 = false ∨ isDig e1.data.toList = false ∨ pathB e2.data.toList = false ∨ (Op.bytesLess e2.toList lb.toList || e2.toList == lb.toList) = true) → entsP s.data.toList = none) := by
        intro h
        obtain ⟨i1, i2, i3, i4, i5⟩ := I.out
        obtain ⟨k, rfl⟩ : ∃ k', k = k' + 1 := ⟨k - 1, by omega⟩
        rw [i4, entsG_step, if_neg h0, if_pos]
        · rfl
        · rw [← d1, ← d3, ← d4]
          rw [byte_toList, byte_toList] at h
          rcases h with h | h | h | h | h
          · exact .inl h
          · exact .inr (.inl h)
          · exact .inr (.inr (.inl h))
          · exact .inr (.inr (.inr (.inl h)))
          · exact .inr (.inr (.inr (.inr (by simpa using h))))
      clear hc1 hc2 he1 he2 d1 d2 d3 d4 l1 l2 h0
      cases b1 : (Lib.cut bs.data.toList [10]).2.2 with
      | false =>
        have HX : Aside (entsP s.data.toList = none) := HN.out (.inl b1)
        rw [b1] at C1
        generalize (Lib.cut c1.data.toList [32]).2.2 = x2 at C2
        clear HN b1
        have t1 := True.intro
        go_wp2_with (first
          | (go_at_call 43; clear t1; refine (C1.out _ IE.out).mono ?_; rintro e w1 ⟨rfl, hb⟩; have IE1 : Aside (EntAt w w1 w.heap.size m) := IE.out.step hb; clear hb)
          | (go_at_call 43; refine (C2.out _ IE1.out).mono ?_; rintro e w2 ⟨rfl, hb⟩; have IE2 : Aside (EntAt w w2 w.heap.size m) := IE1.out.step hb; clear hb))
        go_ret2
        rw [HX.out]
        exact ⟨rfl, IE2.out.b0⟩
      | true =>
      have B1 : Aside ((Lib.cut bs.data.toList [10]).2.2 = true) := b1
      rw [b1] at C1
      clear b1
      cases b2 : (Lib.cut c1.data.toList [32]).2.2 with
      | false =>
        have HX : Aside (entsP s.data.toList = none) := HN.out (.inr (.inl b2))
        rw [b2] at C2
        clear HN b2
        have t1 := True.intro
        go_wp2_with (first
          | (go_at_call 43; clear t1; refine (C1.out _ IE.out).mono ?_; rintro e w1 ⟨rfl, hb⟩; have IE1 : Aside (EntAt w w1 w.heap.size m) := IE.out.step hb; clear hb)
          | (go_at_call 43; refine (C2.out _ IE1.out).mono ?_; rintro e w2 ⟨rfl, hb⟩; have IE2 : Aside (EntAt w w2 w.heap.size m) := IE1.out.step hb; clear hb))
        go_ret2
        rw [HX.out]
        exact ⟨rfl, IE2.out.b0⟩
      | true =>
      have B2 : Aside ((Lib.cut c1.data.toList [32]).2.2 = true) := b2
      rw [b2] at C2
      clear b2
      cases b3 : isDig e1.data.toList with
      | false =>
        have HX : Aside (entsP s.data.toList = none) := HN.out (.inr (.inr (.inl b3)))
        rw [b3] at C3
        clear HN b3
        have t1 := True.intro
        go_wp2_with (first
          | (go_at_call 43; clear t1; refine (C1.out _ IE.out).mono ?_; rintro e w1 ⟨rfl, hb⟩; have IE1 : Aside (EntAt w w1 w.heap.size m) := IE.out.step hb; clear hb)
          | (go_at_call 43; refine (C2.out _ IE1.out).mono ?_; rintro e w2 ⟨rfl, hb⟩; have IE2 : Aside (EntAt w w2 w.heap.size m) := IE1.out.step hb; clear hb)
          | (go_at_call 57; refine (C3.out _ IE2.out).mono ?_; rintro e w3 ⟨rfl, hb⟩; have IE3 : Aside (EntAt w w3 w.heap.size m) := IE2.out.step hb; clear hb))
        go_ret2
        rw [HX.out]
        exact ⟨rfl, IE3.out.b0⟩
      | true =>
      have B3 : Aside (isDig e1.data.toList = true) := b3
      rw [b3] at C3
      clear b3
      cases b4 : pathB e2.data.toList with
      | false =>
        have HX : Aside (entsP s.data.toList = none) := HN.out (.inr (.inr (.inr (.inl b4))))
        rw [b4] at C4
        clear HN b4
        have t1 := True.intro
        go_wp2_with (first
          | (go_at_call 43; clear t1; refine (C1.out _ IE.out).mono ?_; rintro e w1 ⟨rfl, hb⟩; have IE1 : Aside (EntAt w w1 w.heap.size m) := IE.out.step hb; clear hb)
          | (go_at_call 43; refine (C2.out _ IE1.out).mono ?_; rintro e w2 ⟨rfl, hb⟩; have IE2 : Aside (EntAt w w2 w.heap.size m) := IE1.out.step hb; clear hb)
          | (go_at_call 57; refine (C3.out _ IE2.out).mono ?_; rintro e w3 ⟨rfl, hb⟩; have IE3 : Aside (EntAt w w3 w.heap.size m) := IE2.out.step hb; clear hb)
          | (go_at_call 29; refine (C4.out _ IE3.out).mono ?_; rintro e w4 ⟨rfl, hb⟩; have IE4 : Aside (EntAt w w4 w.heap.size m) := IE3.out.step hb; clear hb))
        go_ret2
        rw [HX.out]
        exact ⟨rfl, IE4.out.b0⟩
      | true =>
      have B4 : Aside (pathB e2.data.toList = true) := b4
      rw [b4] at C4
      clear b4
      have hle := fun W => run_leq e2 lb W
      cases b5 : (Op.bytesLess e2.toList lb.toList || e2.toList == lb.toList) with
      | true =>
        have HX : Aside (entsP s.data.toList = none) := HN.out (.inr (.inr (.inr (.inr b5))))
        simp only [b5] at hle
        clear HN b5
        have t1 := True.intro
        go_wp2_with (first
          | (go_at_call 43; clear t1; refine (C1.out _ IE.out).mono ?_; rintro e w1 ⟨rfl, hb⟩; have IE1 : Aside (EntAt w w1 w.heap.size m) := IE.out.step hb; clear hb)
          | (go_at_call 43; refine (C2.out _ IE1.out).mono ?_; rintro e w2 ⟨rfl, hb⟩; have IE2 : Aside (EntAt w w2 w.heap.size m) := IE1.out.step hb; clear hb)
          | (go_at_call 57; refine (C3.out _ IE2.out).mono ?_; rintro e w3 ⟨rfl, hb⟩; have IE3 : Aside (EntAt w w3 w.heap.size m) := IE2.out.step hb; clear hb)
          | (go_at_call 29; refine (C4.out _ IE3.out).mono ?_; rintro e w4 ⟨rfl, hb⟩; have IE4 : Aside (EntAt w w4 w.heap.size m) := IE3.out.step hb; clear hb))
        go_ret2
        rw [HX.out]
        exact ⟨rfl, IE4.out.b0⟩
      | false =>
        have R : Aside (c2.data.toList.length < bs.data.toList.length ∧ e2.data.toList.length ≤ 1000000 ∧ e1.data.toList.length ≤ 1000000 ∧ ∃ k', k = k' + 1 ∧ entsP s.data.toList = (entsG k' c2.data.toList e2.data.toList).map fun x => (m ++ [(e1.data.toList, e2.data.toList)]) ++ x) := by
          obtain ⟨i1, i2, i3, i4, i5⟩ := I.out
          obtain ⟨d1, d2, d3, d4, h0⟩ := I2.out
          have hs := HG.out.2
          have hct := congrArg List.length (cut_true B1.out).1
          rw [← d1, ← d2, List.length_append, List.length_cons] at hct
          have l2 := cut_len c1.data.toList 32
          rw [← d3, ← d4] at l2
          refine ⟨by omega, by omega, by omega, ?_⟩
          obtain ⟨k, rfl⟩ : ∃ k', k = k' + 1 := ⟨k - 1, by omega⟩
          refine ⟨k, rfl, ?_⟩
          rw [i4, entsG_step, if_neg h0, if_neg]
          · rw [← d1, ← d2, ← d3, ← d4, Option.map_map]
            congr 1
            funext x
            simp
          · rw [← d1, ← d3, ← d4, B1.out, B2.out, B3.out, B4.out]
            rw [byte_toList, byte_toList] at b5
            simp only [Bool.true_eq_false, false_or]
            intro h
            rw [show (Op.bytesLess e2.data.toList lb.data.toList || decide (e2.data.toList = lb.data.toList)) = false by simpa using b5] at h
            cases h
        have HK : Aside (keyOf Tryz.prog 9 (.string e2) = some (.string e2.data.toList)) := Go.WideMaps.keyOf_string_mk Tryz.underlying9 (by rw [byte_size]; unfold maxLen; have := R.out.2.1; omega)
        have HV : Aside (plainElem (H := Unit) Tryz.prog 9 (.string e1) = some (.lit (.string e1.data.toList), [])) := plainElem_string Tryz.underlying9 (by rw [byte_size]; unfold maxLen; have := R.out.2.2.1; omega)
        simp only [b5] at hle
        clear HN b5
        have t1 := True.intro
        go_wp2_with (first
          | (go_at_call 43; clear t1; refine (C1.out _ IE.out).mono ?_; rintro e w1 ⟨rfl, hb⟩; have IE1 : Aside (EntAt w w1 w.heap.size m) := IE.out.step hb; clear hb)
          | (go_at_call 43; refine (C2.out _ IE1.out).mono ?_; rintro e w2 ⟨rfl, hb⟩; have IE2 : Aside (EntAt w w2 w.heap.size m) := IE1.out.step hb; clear hb)
          | (go_at_call 57; refine (C3.out _ IE2.out).mono ?_; rintro e w3 ⟨rfl, hb⟩; have IE3 : Aside (EntAt w w3 w.heap.size m) := IE2.out.step hb; clear hb)
          | (go_at_call 29; refine (C4.out _ IE3.out).mono ?_; rintro e w4 ⟨rfl, hb⟩; have IE4 : Aside (EntAt w w4 w.heap.size m) := IE3.out.step hb; clear hb)
          | (at_mapUpdate; refine wpList_mapUpdate_own _ rfl _ _ _ 56 rfl 9 9 keyed9 Tryz.underlying56 _ w.heap.size m.length _ rfl IE4.out.own ?q1 _ _ _ rfl rfl HK.out _ [] HV.out ?_))
        case q1 => unfold maxLen; have := I.out.2.1; have := HG.out.2; omega
        intro w5 hown hgrow
        have IE5 : Aside (EntAt w w5 w.heap.size (m ++ [(e1.data.toList, e2.data.toList)])) := IE4.out.put hown hgrow
        clear hown hgrow
        go_wp2
        go_roundg c2.data.toList.length
        case measure => have := R.out.1; omega
        case rel =>
          obtain ⟨i1, i2, i3, i4, i5⟩ := I.out
          obtain ⟨r1, r2, r3, k', hk', r4⟩ := R.out
          exact ⟨c2, e2, m ++ [(e1.data.toList, e2.data.toList)], k', rfl, rfl, Nat.le_refl _, (show Aside _ from ⟨by omega, by rw [List.length_append, List.length_singleton]; omega, by omega, r4, IE5.out⟩)⟩
end Go.Proofs.YthpgkpcnajookaaGreatDoor
