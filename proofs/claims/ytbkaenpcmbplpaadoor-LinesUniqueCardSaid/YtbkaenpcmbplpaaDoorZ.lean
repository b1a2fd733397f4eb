/-
  Chapter 11: the laws, as plain functions.
-/
import Derived.Test.YtbkaenpcmbplpaaDoorY
namespace Go.Proofs.YtbkaenpcmbplpaaDoor
open Go Go.Nu

/-! ### records one after the other -/
def allL : List Rec → List UInt8
  | [] => []
  | r :: l => printR r ++ allL l
def errRs : List Rec → Int
  | [] => 0
  | r :: l => if errR r ≠ 0 then errR r else errRs l
def sizeRs (l : List Rec) : Prop := ∀ r ∈ l, sizeF r.2.2.2.2
def printAllP (l : List Rec) : List UInt8 × Int := if 64 < l.length then ([], 13) else if errRs l ≠ 0 then ([], errRs l) else if 65536 < (allL l).length then ([], 4) else (allL l, 0)
theorem errRs_zero : ∀ {l : List Rec}, errRs l = 0 ↔ ∀ r ∈ l, errR r = 0
  | [] => by simp [errRs]
  | r :: l => by
    unfold errRs
    by_cases h : errR r ≠ 0
    · rw [if_pos h]
      constructor
      · intro e; exact (h e).elim
      · intro e; exact (h (e r (by simp))).elim
    · rw [if_neg h, errRs_zero]
      have h' : errR r = 0 := Decidable.not_not.1 h
      constructor
      · intro e x hx
        rcases List.mem_cons.1 hx with rfl | hx
        · exact h'
        · exact e x hx
      · intro e x hx; exact e x (List.mem_cons_of_mem _ hx)
theorem errRs_drop {l : List Rec} {i : Nat} (h : i < l.length) : errRs (l.drop i) = if errR (l.getD i (0, 0, 0, [], [])) ≠ 0 then errR (l.getD i (0, 0, 0, [], [])) else errRs (l.drop (i + 1)) := by
  rw [drop_getD (0, 0, 0, [], []) h]; rfl
theorem allL_take {l : List Rec} {i : Nat} (h : i < l.length) : allL (l.take (i + 1)) = allL (l.take i) ++ printR (l.getD i (0, 0, 0, [], [])) := by
  have e : l.take (i + 1) = l.take i ++ [l.getD i (0, 0, 0, [], [])] := by
    rw [List.take_succ_eq_append_getElem h, List.getD_eq_getElem?_getD, List.getElem?_eq_getElem h]; rfl
  rw [e]
  generalize l.take i = k
  induction k with
  | nil => simp [allL]
  | cons r k ih => simp only [List.cons_append, allL, ih, List.append_assoc]
theorem allL_app (a b : List Rec) : allL (a ++ b) = allL a ++ allL b := by
  induction a with
  | nil => rfl
  | cons r a ih => simp only [List.cons_append, allL, ih, List.append_assoc]
theorem f20 (l : List Rec) (hs : sizeRs l) : F8 l = some (printAllP l) := by
  unfold F8 printAllP
  by_cases h64 : 64 < l.length
  · rw [dT (by omega), cond_true, if_pos h64]
  rw [dF (by omega), cond_false, if_neg h64]
  rw [show gdN 0 (List.length ([] : List UInt8)) = id from funext fun x => if_pos rfl]
  simp only [id]
  refine loopK_rule (fun p : Int × List UInt8 => ∃ i : Nat, p = ((i : Int), allL (l.take i)) ∧ i ≤ l.length ∧ errRs (l.drop i) = errRs l ∧ (allL (l.take i)).length ≤ 1400000 * i) (fun p => l.length - p.1.toNat) ⟨0, rfl, Nat.zero_le _, rfl, by simp [allL]⟩ (by split <;> (try split) <;> rfl) ?_
  rintro _ again ⟨i, rfl, hi, he, hb⟩ hag
  simp only []
  unfold big
  by_cases hlt : i < l.length
  · rw [dT (by omega), cond_true, gd_pos (by omega), toNat_nat]
    rw [errRs_drop hlt] at he
    have htk := allL_take hlt
    have hmem := getD_mem (0, 0, 0, [], []) hlt
    generalize l.getD i (0, 0, 0, [], []) = r at *
    rw [f11 r (hs r hmem), bindO_some]
    unfold printRP
    by_cases hz : errR r = 0
    · rw [if_pos hz]
      dsimp only
      rw [if_neg (not_not_intro hz)] at he
      have hl := printR_len (okR_of hz)
      rw [dT rfl, Bool.not_true, cond_false, gdN_self, gd_pos (by omega)]
      simp only [bnd_eq, gdN_self]
      rw [i64_wrap (by omega)]
      exact hag _ ⟨i + 1, by rw [htk]; rfl, by omega, he, by rw [htk, List.length_append]; omega⟩ (by simp only []; omega)
    · rw [if_neg hz]
      dsimp only
      rw [if_pos hz] at he
      rw [dF hz, Bool.not_false, cond_true, if_pos (by rw [← he]; exact hz), he]
  · rw [dF (by omega), cond_false, gdN_self]
    rw [List.drop_eq_nil_of_le (by omega)] at he
    rw [List.take_of_length_le (by omega)]
    rw [if_neg (by rw [← he]; simp [errRs])]
    by_cases h6 : 65536 < (allL l).length
    · rw [dT (by omega), cond_true, if_pos h6]
    · rw [dF (by omega), cond_false, gdN_self, if_neg h6]
theorem printR_ne (r : Rec) (t : List UInt8) : printR r ++ t ≠ [] := by unfold printR headR headH; simp
theorem all_print : ∀ (l gs : List Rec) (d : Int), (∀ r ∈ l, errR r = 0) → gs.length + l.length ≤ 64 → allP (allL l) gs d = (gs ++ l, 0, 0)
  | [], gs, d, _, _ => by rw [allP_step, if_pos (show allL [] = [] from rfl), List.append_nil]
  | r :: l, gs, d, h, hl => by
    simp only [List.length_cons] at hl
    rw [show allL (r :: l) = printR r ++ allL l from rfl, allP_step, if_neg (printR_ne _ _), if_neg (by omega), nextP_print (okR_of (h r (by simp)))]
    dsimp only
    rw [if_pos rfl, all_print l (gs ++ [r]) _ (fun x hx => h x (List.mem_cons_of_mem _ hx)) (by simp only [List.length_append, List.length_singleton]; omega)]
    simp
theorem all_ok : ∀ (k : Nat) (s : List UInt8) (gs : List Rec) (d : Int), gs.length ≤ 64 → (allG k s gs d).2.2 = 0 → ∃ l, (allG k s gs d).1 = gs ++ l ∧ (allG k s gs d).2.1 = 0 ∧ (∀ r ∈ l, errR r = 0) ∧ s = allL l ∧ gs.length + l.length ≤ 64
  | 0, s, gs, d, _, h => by unfold allG at h; cases h
  | k + 1, s, gs, d, hg, h => by
    unfold allG at h ⊢
    by_cases h1 : s = []
    · rw [if_pos h1]
      exact ⟨[], by simp, rfl, by simp, h1, by simpa using hg⟩
    · rw [if_neg h1] at h ⊢
      by_cases h2 : 64 ≤ gs.length
      · rw [if_pos h2] at h; cases h
      · rw [if_neg h2] at h ⊢
        by_cases h3 : (nextP s).2.2.2 = 0
        · rw [if_pos h3] at h ⊢
          obtain ⟨l, i1, i2, i3, i4, i5⟩ := all_ok k _ _ _ (by simp only [List.length_append, List.length_singleton]; omega) h
          obtain ⟨n1, n2⟩ := nextP_ok h3
          refine ⟨(nextP s).1 :: l, by rw [i1]; simp, i2, ?_, by simp only [allL]; rw [← i4]; exact n2, by simp only [List.length_append, List.length_singleton, List.length_cons] at i5 ⊢; omega⟩
          intro r hr
          rcases List.mem_cons.1 hr with rfl | hr
          · exact errR_of n1
          · exact i3 r hr
        · rw [if_neg h3] at h
          exact (h3 h).elim
theorem all_bad : ∀ (k : Nat) (s : List UInt8) (gs : List Rec) (d : Int), (allG k s gs d).2.2 ≠ 0 → (allG k s gs d).1 = []
  | 0, s, gs, d, _ => rfl
  | k + 1, s, gs, d, h => by
    unfold allG at h ⊢
    split
    · rename_i h1
      rw [if_pos h1] at h; exact (h rfl).elim
    · rename_i h1
      rw [if_neg h1] at h
      split
      · rfl
      · rename_i h2
        rw [if_neg h2] at h
        split
        · rename_i h3
          rw [if_pos h3] at h
          exact all_bad k _ _ _ h
        · rfl

/-! ### comparing with itself -/
/-! ### sizes -/
theorem all_drop {α : Type} {l : List α} {p : α → Bool} (d : α) {i : Nat} (h : i < l.length) : (l.drop i).all p = (p (l.getD i d) && (l.drop (i + 1)).all p) := by
  rw [drop_getD d h]; rfl
/-! ### the examples -/
def f0 : Field := ([50, 52, 53], [49, 48], [(97, [68, 111, 103, 115])], 0)
def r0 : Rec := (1, 3, 1, [101, 110, 103], [f0])
def t0 : List UInt8 := [61, 49, 32, 51, 32, 98, 111, 111, 107, 32, 101, 110, 103]
def u0 : List UInt8 := [50, 52, 53, 32, 49, 48, 32, 36, 97, 68, 111, 103, 115]
theorem errF0 : errF f0 = 0 := by decide
theorem errR0 : errR r0 = 0 := by decide
theorem ok0 : OkR r0 := okR_of errR0
theorem itoa1 : Lib.itoa 1 = [49] := by rw [show (1 : Int) = ((1 : Nat) : Int) from rfl, itoa_nat, dec_lt (by omega)]; rfl
theorem itoa3 : Lib.itoa 3 = [51] := by rw [show (3 : Int) = ((3 : Nat) : Int) from rfl, itoa_nat, dec_lt (by omega)]; rfl
theorem head0 : headR r0 = t0 := by
  unfold headR headH
  rw [show r0.1 = 1 from rfl, show r0.2.1 = 3 from rfl, itoa1, itoa3]; rfl
theorem print0 : printF f0 = u0 := by
  unfold printF
  rw [if_pos (show f0.2.2.2 = 0 from rfl)]; rfl
theorem printR0 : printR r0 = t0 ++ 10 :: (u0 ++ [10, 10]) := by
  unfold printR
  rw [head0]
  show _ ++ 10 :: (linesF [f0] ++ [10]) = _
  simp only [linesF, print0]
  rfl
theorem hdr0 : hdrP t0 = some (1, 3, 1, [101, 110, 103], []) := by
  rw [← head0]
  exact hdrP_print (r := (1, 3, 1, [101, 110, 103], [])) (okH_nil ok0.toOkH) rfl
theorem t0_no : (10 : UInt8) ∉ t0 := by decide
theorem u0_no : (10 : UInt8) ∉ u0 := by decide
theorem next_head (u : List UInt8) : nextP (t0 ++ 10 :: u) = if (linesP u [] 1).2.2.2 = 0 then (withF (1, 3, 1, [101, 110, 103], []) (linesP u [] 1).1, (linesP u [] 1).2.1, (linesP u [] 1).2.2.1, 0) else (zeroR, [], (linesP u [] 1).2.2.1, (linesP u [] 1).2.2.2) := by
  unfold nextP
  rw [cut_at t0_no]
  dsimp only
  rw [hdr0]
  simp only [if_true]
theorem parse0 : parseP u0 = (f0, 0) := by rw [← print0]; exact parseP_print errF0
theorem ex1 : parseR (t0 ++ 10 :: (u0 ++ [10])) = (zeroR, 3, 3) := by
  have h : linesP (u0 ++ [10]) [] 1 = ([], [], 3, 3) := by
    rw [linesP_step, show u0 ++ [10] = u0 ++ 10 :: [] from rfl, cut_at u0_no]
    dsimp only
    rw [if_neg (by decide), if_neg (by decide), parse0, if_pos ⟨rfl, rfl⟩, linesP_step]
    rw [cut_no (by simp)]
    rfl
  unfold parseR
  rw [next_head, h]
  rfl
theorem ex2 : parseR (t0 ++ 10 :: u0) = (zeroR, 2, 3) := by
  have h : linesP u0 [] 1 = ([], u0, 2, 3) := by
    rw [linesP_step, cut_no u0_no]
    dsimp only
    rw [if_neg (by decide), if_neg (by decide), if_neg (by simp)]
    rfl
  unfold parseR
  rw [next_head, h]
  rfl
theorem ex3 : parseR (t0 ++ 10 :: [10, 120]) = (zeroR, 3, 3) := by
  have h : linesP [10, 120] [] 1 = ([], [120], 2, 0) := by
    rw [linesP_step, show ([10, 120] : List UInt8) = [] ++ 10 :: [120] from rfl, cut_at (by simp)]
    rfl
  unfold parseR
  rw [next_head, h]
  rfl
def bad0 : List UInt8 := [61, 48, 49, 32, 51, 32, 98, 111, 111, 107, 32, 101, 110, 103]
theorem ex4 : parseR (bad0 ++ 10 :: [10]) = (zeroR, 1, 3) := by
  have h : hdrP bad0 = none := by
    refine hdrP_none ?_
    rintro ⟨r, hr, e⟩
    unfold headR headH at e
    injection e with _ e
    have hd := itoa_pos hr.id0
    rw [hd] at e
    obtain ⟨_, _, d3, d4⟩ := dec_digits r.1.toNat
    by_cases hz : r.1.toNat = 0
    · rw [hz, dec_lt (by omega)] at e
      injection e with _ e
      injection e with e _
      exact absurd e (by decide)
    · have := d4 hz
      cases hx : Lib.decDigits r.1.toNat with
      | nil => exact d3 hx
      | cons c t =>
        rw [hx] at e this
        injection e with e _
        rw [e] at this
        exact this rfl
  unfold parseR nextP
  rw [cut_at (by decide)]
  dsimp only
  rw [h]
  rfl
theorem ex5 : parseAllP (printR r0 ++ printR r0) = ([r0, r0], 0, 0) := by
  unfold parseAllP
  rw [if_neg (by rw [printR0]; decide)]
  have := all_print [r0, r0] [] 0 (fun r hr => by
    rcases List.mem_cons.1 hr with rfl | hr
    · exact errR0
    · rw [List.mem_singleton.1 hr]; exact errR0) (by decide)
  simp only [allL, List.append_nil, List.nil_append] at this
  exact this
theorem ex6 : parseAllP (printR r0 ++ [61, 49]) = ([], 4, 3) := by
  unfold parseAllP
  rw [if_neg (by rw [printR0]; decide), allP_step, if_neg (printR_ne _ _), if_neg (by decide), nextP_print ok0]
  dsimp only
  rw [if_pos rfl, allP_step, if_neg (by decide), if_neg (by decide)]
  have h : nextP [61, 49] = (zeroR, [], 1, 3) := by
    unfold nextP
    rw [cut_no (by decide)]
    dsimp only
    cases hdrP [61, 49] <;> rfl
  rw [h]
  rfl
theorem f10 : F4 = some true := by
  unfold F4
  rw [gd_pos (by decide)]
  have hs : sizeF r0.2.2.2.2 := by
    intro f hf s hs
    rw [List.mem_singleton.1 hf] at hs
    rw [List.mem_singleton.1 hs]; decide
  have h11 := f11 r0 hs
  unfold printRP at h11
  rw [if_pos errR0] at h11
  have e1 : ((1 : Int), (3 : Int), (1 : Int), ([101, 110, 103] : List UInt8), [(([50, 52, 53] : List UInt8), ([49, 48] : List UInt8), [((UInt8.ofNat (Int.toNat (97 : Int))), ([68, 111, 103, 115] : List UInt8))], (0 : Int))]) = r0 := rfl
  rw [e1, h11, bindO_some]
  dsimp only
  rw [dT (show printR r0 = ([61, 49, 32, 51, 32, 98, 111, 111, 107, 32, 101, 110, 103, 10, 50, 52, 53, 32, 49, 48, 32, 36, 97, 68, 111, 103, 115, 10, 10] : List UInt8) from printR0), Bool.not_true, cond_false, dT rfl, Bool.not_true, cond_false]
  rw [show ([61, 49, 32, 51, 32, 98, 111, 111, 107, 32, 101, 110, 103, 10, 50, 52, 53, 32, 49, 48, 32, 36, 97, 68, 111, 103, 115, 10] : List UInt8) = t0 ++ 10 :: (u0 ++ [10]) from rfl,
    show ([61, 49, 32, 51, 32, 98, 111, 111, 107, 32, 101, 110, 103, 10, 50, 52, 53, 32, 49, 48, 32, 36, 97, 68, 111, 103, 115] : List UInt8) = t0 ++ 10 :: u0 from rfl,
    show ([61, 49, 32, 51, 32, 98, 111, 111, 107, 32, 101, 110, 103, 10, 10, 120] : List UInt8) = t0 ++ 10 :: [10, 120] from rfl,
    show ([61, 48, 49, 32, 51, 32, 98, 111, 111, 107, 32, 101, 110, 103, 10, 10] : List UInt8) = bad0 ++ 10 :: [10] from rfl]
  rw [f13 _ (by decide), bindO_some, f13 _ (by decide), bindO_some, f13 _ (by decide), bindO_some, f13 _ (by decide), bindO_some, ex1, ex2, ex3, ex4]
  dsimp only
  have hl : (printR r0).length = 29 := by rw [printR0]; rfl
  unfold big
  rw [dT rfl, Bool.not_true, cond_false, dT rfl, Bool.not_true, cond_false, dT rfl, Bool.not_true, cond_false]
  simp only [cond_false]
  rw [gd_pos (by omega), bnd_eq, f16 _ (by rw [List.length_append]; omega), bindO_some, gd_pos (by rw [hl]; decide), bnd_eq, f16 _ (by rw [List.length_append, hl]; decide), bindO_some, ex5, ex6]
  rfl

/-! ### the laws of chapter 11 -/
theorem alive_end : (bindO F4 fun y => some y) = some true := by rw [f10]; rfl
theorem authS_len4 {n : Int} (h0 : 0 ≤ n) (h1 : n ≤ 9999) : (authS n).length ≤ 5 := by
  unfold authS
  split
  · simp
  · rw [itoa_pos h0, List.length_cons]
    have := dec_len4 (u := n.toNat) (by omega)
    omega
theorem printF_len2 {f : Field} (h : OkF f) : (printF f).length ≤ 6450 := by
  rw [printF_parts]
  have h1 := (tag_len h.tag).1
  have h2 := (mid_no h).2.2.1
  have h3 := authS_len4 h.lo h.hi
  have h4 := printS_len (l := f.2.2.1) fun s hs => (errS_zero (h.subs s hs)).2.2.2
  have h5 := h.len
  simp only [List.length_append, List.length_cons]
  omega
theorem linesF_len2 : ∀ {l : List Field}, (∀ f ∈ l, errF f = 0) → (linesF l).length ≤ 6451 * l.length
  | [], _ => by simp [linesF]
  | f :: l, h => by
    have h1 := linesF_len2 (l := l) fun x hx => h x (List.mem_cons_of_mem _ hx)
    have h2 := printF_len2 (okF_of (h f (by simp)))
    simp only [linesF, List.length_cons, List.length_append]
    omega
theorem printR_len2 {r : Rec} (h : OkR r) : (printR r).length ≤ 500000 := by
  unfold printR
  have h1 := headR_len h.toOkH
  have h2 := linesF_len2 h.fields
  have h3 := h.len
  simp only [List.length_append, List.length_cons, List.length_nil]
  omega
theorem parse_print {r : Rec} (h : OkR r) : parseR (printR r) = (r, 0, 0) := by
  unfold parseR
  have := nextP_print h []
  rw [List.append_nil] at this
  rw [this]
  rfl
theorem printAll_ok {l : List Rec} (h : (printAllP l).2 = 0) : l.length ≤ 64 ∧ (∀ r ∈ l, errR r = 0) ∧ (allL l).length ≤ 65536 ∧ printAllP l = (allL l, 0) := by
  unfold printAllP at h ⊢
  by_cases h1 : 64 < l.length
  · rw [if_pos h1] at h; cases h
  rw [if_neg h1] at h ⊢
  by_cases h2 : errRs l ≠ 0
  · rw [if_pos h2] at h; exact (h2 h).elim
  rw [if_neg h2] at h ⊢
  by_cases h3 : 65536 < (allL l).length
  · rw [if_pos h3] at h; cases h
  rw [if_neg h3]
  exact ⟨by omega, errRs_zero.1 (Decidable.not_not.1 h2), by omega, rfl⟩
theorem printAll_of {l : List Rec} (h1 : l.length ≤ 64) (h2 : ∀ r ∈ l, errR r = 0) (h3 : (allL l).length ≤ 65536) : printAllP l = (allL l, 0) := by
  unfold printAllP
  rw [if_neg (by omega), if_neg (not_not_intro (errRs_zero.2 h2)), if_neg (by omega)]
theorem size_ok {r : Rec} (h : OkR r) : sizeF r.2.2.2.2 := by
  intro f hf s hs
  have := (errS_zero ((okF_of (h.fields f hf)).subs s hs)).2.2.2
  omega
theorem law3 (s : List UInt8) : F3 s = some true := by
  unfold F3
  rw [alive_end]
  by_cases h : 70000 < s.length
  · rw [dT (by omega), cond_true]
  rw [dF (by omega), cond_false, f13 s (by omega), bindO_some]
  have hend : (bindO (F7 s) fun y5 =>
    cond (decide (y5.2.2 = (0 : Int)))
      (bindO (F8 y5.1) fun y6 =>
      cond (decide (y5.2.1 = (0 : Int)))
        (cond (decide (y6.1 = s))
          (cond (decide (y6.2 = (0 : Int)))
            (some true)
            (some false))
          (some false))
        (some false))
      (cond (decide ((List.length y5.1 : Int) = (0 : Int)))
        (some true)
        (some false))) = some true := by
    rw [f16 s (by omega), bindO_some]
    by_cases h0 : 65536 < s.length
    · rw [show parseAllP s = ([], 0, 4) from if_pos h0]
      rfl
    · rw [show parseAllP s = allG (s.length + 1) s [] 0 from if_neg h0]
      by_cases hz : (allG (s.length + 1) s [] 0).2.2 = 0
      · obtain ⟨l, i1, i2, i3, i4, i5⟩ := all_ok _ _ _ _ (by simp) hz
        rw [dT hz, cond_true, i1, i2, List.nil_append]
        rw [f20 l (fun r hr => size_ok (okR_of (i3 r hr))), bindO_some, dT rfl, cond_true]
        simp only [List.length_nil] at i5
        rw [printAll_of (by omega) i3 (by rw [← i4]; omega)]
        dsimp only
        rw [dT i4.symm, cond_true, dT rfl, cond_true]
      · rw [dF hz, cond_false, all_bad _ _ _ _ hz]
        rfl
  rw [jn_eq, hend]
  unfold parseR
  obtain ⟨n1, n2, n3⟩ := nextP_n s
  by_cases h1 : (nextP s).2.2.2 ≠ 0
  · rw [if_pos h1]
    dsimp only
    rw [dF h1, cond_false, dF (by omega), cond_false]
    rfl
  · rw [if_neg h1]
    have h1' := Decidable.not_not.1 h1
    by_cases h2 : (nextP s).2.1 ≠ []
    · rw [if_pos h2]
      dsimp only
      rw [dF (by decide), cond_false, dF (by omega), cond_false]
      rfl
    · rw [if_neg h2]
      have h2' := Decidable.not_not.1 h2
      dsimp only
      obtain ⟨k1, k2⟩ := nextP_ok h1'
      rw [dT rfl, cond_true, f11 _ (size_ok k1), bindO_some]
      unfold printRP
      rw [if_pos (errR_of k1)]
      dsimp only
      rw [h2', List.append_nil] at k2
      rw [dT rfl, Bool.not_true, cond_false, dT k2.symm, Bool.not_true, cond_false]
      rfl
end Go.Proofs.YtbkaenpcmbplpaaDoor
