/-
  Chapter 17: Union, Has, Count, Gaps.
-/
import Derived.Test.YtdffccmlfhdkpaaDoorC
namespace Go.Proofs.YtdffccmlfhdkpaaDoor
open Go Go.Nu

def putAll (l xs : List Sp) : List Sp := xs.foldl (fun l x => putGo l x false) l
def okX (x : Sp) : Prop := 1 ≤ x.1 ∧ x.1 ≤ 9999 ∧ x.1 ≤ x.2 ∧ x.2 ≤ 10000
theorem okX_of {p : Sp} (h : okS p) : okX (endS p) := by
  obtain ⟨h1, h2, h3⟩ := h
  unfold endS
  split
  · exact ⟨h1, h2, by simp only []; omega, by simp only []; omega⟩
  · exact ⟨h1, h2, by omega, by omega⟩
theorem putAll_ok : ∀ {xs l : List Sp}, good 1 l → (∀ x ∈ xs, okX x) → good 1 (putAll l xs) ∧ (putAll l xs).length ≤ l.length + xs.length ∧ ∀ n, mem n (putAll l xs) ↔ mem n l ∨ mem n xs
  | [], l, h, _ => ⟨h, by simp [putAll], fun n => by simp [putAll, mem]⟩
  | x :: xs, l, h, hx => by
    obtain ⟨x1, x2, x3, x4⟩ := hx x (by simp)
    obtain ⟨g1, g2⟩ := good_put (x := x) h x1 x3 x2 x4
    obtain ⟨i1, i2, i3⟩ := putAll_ok (xs := xs) g1 fun y hy => hx y (List.mem_cons_of_mem _ hy)
    have hlen := put_len (l := l) (x := x) (d := false)
    refine ⟨i1, ?_, fun n => ?_⟩
    · show (putAll (putGo l x false) xs).length ≤ _
      simp only [List.length_cons]; omega
    · show mem n (putAll (putGo l x false) xs) ↔ _
      rw [i3, g2]
      simp only [mem, or_assoc]
theorem putAll_take {l xs : List Sp} {i : Nat} (h : i < xs.length) : putAll l (xs.take (i + 1)) = putGo (putAll l (xs.take i)) (xs.getD i (0, 0)) false := by
  unfold putAll
  rw [List.take_succ_eq_append_getElem h, List.foldl_append, List.getD_eq_getElem?_getD, List.getElem?_eq_getElem h]
  rfl

def uniP (a b : List Sp) : List Sp × Int := if rightP a = false ∨ rightP b = false then ([], 1) else finish (putAll (ends a) (ends b))

theorem f30 (a b : List Sp) : F30 a b = some (uniP a b) := by
  unfold F30 uniP
  simp only [jn_eq, f13, bindO_some]
  cases ha : rightP a
  · simp
  simp only [Bool.not_true, cond_false, Bool.true_eq_false, false_or]
  cases hb : rightP b
  · simp
  obtain ⟨a1, a2, a3, a4⟩ := right_ok ha
  obtain ⟨b1, b2, b3, b4⟩ := right_ok hb
  have hea : (ends a).length = a.length := by simp [ends]
  have heb : (ends b).length = b.length := by simp [ends]
  rw [Bool.not_true, cond_false, f45 a (by omega), bindO_some, f45 b (by omega), bindO_some, if_neg (by simp)]
  have hx : ∀ x ∈ ends b, okX x := fun x hx => by
    have := good_mod (by omega) b2 x hx
    exact ⟨this.1, this.2.1, this.2.2.1, this.2.2.2.1⟩
  refine loopK_rule (fun z => ∃ i : Nat, z = (putAll (ends a) ((ends b).take i), (i : Int)) ∧ i ≤ (ends b).length) (fun z => (ends b).length - z.2.toNat) ⟨0, rfl, by omega⟩ rfl ?_
  rintro z again ⟨i, rfl, hi⟩ hag
  simp only []
  by_cases hlt : i < (ends b).length
  · obtain ⟨g1, g2, g3⟩ := putAll_ok (xs := (ends b).take i) a2 fun x h => hx x (List.mem_of_mem_take h)
    have hm := good_mod (by omega) b2 _ (getD_mem' hlt)
    rw [decide_eq_true (by omega), cond_true, gd_pos (by omega), Int.toNat_natCast, f43 _ _ (by rw [List.length_take] at g2; omega) (fun p hp => (good_mod (by omega) g1 p hp).2.2.2.2) hm.2.2.2.2, bindO_some, bnd_eq, i64_wrap (by omega), ← putAll_take hlt]
    exact hag _ ⟨i + 1, by simp, by omega⟩ (by simp; omega)
  · rw [decide_eq_false (by omega), cond_false, List.take_of_length_le (by omega), f44, bindO_some]

theorem f29 (a b : List Sp) : F29 a b = some (uniP a b) := by
  unfold F29 uniP
  simp only [jn_eq, f12, bindO_some]
  cases ha : rightP a
  · simp
  simp only [Bool.not_true, cond_false, Bool.true_eq_false, false_or]
  cases hb : rightP b
  · simp
  obtain ⟨a1, a2, a3, a4⟩ := right_ok ha
  obtain ⟨b1, b2, b3, b4⟩ := right_ok hb
  have hea : (ends a).length = a.length := by simp [ends]
  have heb : (ends b).length = b.length := by simp [ends]
  rw [Bool.not_true, cond_false, f40 a (by omega) a4, bindO_some, if_neg (by simp)]
  have hx : ∀ x ∈ ends b, okX x := fun x hx => by
    have := good_mod (by omega) b2 x hx
    exact ⟨this.1, this.2.1, this.2.2.1, this.2.2.2.1⟩
  obtain ⟨g1, g2, g3⟩ := putAll_ok (xs := ends b) a2 hx
  refine loopK_rule (fun z => ∃ i : Nat, z = ((i : Int), (b.take i).foldl addS (a.foldl addS none17)) ∧ i ≤ b.length) (fun z => b.length - z.1.toNat) ⟨0, rfl, by omega⟩ rfl ?_
  rintro z again ⟨i, rfl, hi⟩ hag
  simp only []
  by_cases hlt : i < b.length
  · have hok := b4 _ (getD_mem' hlt)
    have hlen : ((b.take i).foldl addS (a.foldl addS none17)).1.length = 10000 := by rw [fold_len, fold_len]; exact none17_len
    have hto := okS_to hok
    have hnext : again ((i : Int) + 1, (b.take (i + 1)).foldl addS (a.foldl addS none17)) = some (finish (putAll (ends a) (ends b))) := hag _ ⟨i + 1, by simp, by omega⟩ (by simp; omega)
    rw [take_fold hlt] at hnext
    rw [decide_eq_true (by omega), cond_true, gd_pos (by omega), Int.toNat_natCast, f48 _ _ _ _ hlen ⟨by have := hok.1; omega, by have := hok.2.1; omega⟩ ⟨by omega, by omega⟩, bindO_some, putS_len, gdN_self, bnd_eq, i64_wrap (by omega)]
    generalize (b.take i).foldl addS (a.foldl addS none17) = S at hnext hlen ⊢
    obtain ⟨hh, oo⟩ := S
    cases oo <;> exact hnext
  · rw [decide_eq_false (by omega), cond_false, List.take_of_length_le (by omega)]
    have hrep := reps_iff (reps_fold (reps_of a4) b4) (M' := fun n => mem n (putAll (ends a) (ends b))) fun n => by rw [g3]
    rw [f41 _ _ g1 (by omega) hrep, bindO_some, gdN_self]

/-! ### Has -/
def memB (n : Int) (l : List Sp) : Bool := l.any fun p => decide (p.1 ≤ n) && decide (n ≤ p.2)
theorem memB_iff {n : Int} : ∀ {l : List Sp}, memB n l = true ↔ mem n l
  | [] => by simp [memB, mem]
  | p :: l => by
    have ih := memB_iff (n := n) (l := l)
    unfold memB at ih ⊢
    rw [List.any_cons, Bool.or_eq_true, ih]
    simp [mem]
def hasP (l : List Sp) (n : Int) : Bool := rightP l && (decide (1 ≤ n ∧ n ≤ 9999) && memB n (ends l))

theorem f19 (l : List Sp) (n : Int) : F19 l n = some (hasP l n) := by
  unfold F19 hasP
  simp only [f12, bindO_some, f32]
  cases hr : rightP l
  · simp
  obtain ⟨r1, r2, r3, r4⟩ := right_ok hr
  simp only [Bool.not_true, cond_false, Bool.true_and]
  by_cases hn : 1 ≤ n ∧ n ≤ 9999
  · rw [decide_eq_true hn, Bool.not_true, cond_false, Bool.true_and]
    refine loopK_rule (fun z => ∃ i : Nat, z = i ∧ i ≤ l.length ∧ memB n (ends l) = memB n (ends (l.drop i))) (fun z => l.length - z.toNat) ⟨0, rfl, by omega, rfl⟩ rfl ?_
    rintro z again ⟨i, rfl, hi, hm⟩ hag
    by_cases hlt : i < l.length
    · have hok := r4 _ (getD_mem' hlt)
      rw [drop_getD (0, 0) hlt] at hm
      have hm2 : memB n (ends (l.getD i (0, 0) :: l.drop (i + 1))) = ((decide ((endS (l.getD i (0, 0))).1 ≤ n) && decide (n ≤ (endS (l.getD i (0, 0))).2)) || memB n (ends (l.drop (i + 1)))) := rfl
      rw [hm2] at hm
      have hnext : memB n (ends l) = memB n (ends (l.drop (i + 1))) → again ((i : Int) + 1) = some (memB n (ends l)) := fun h => hag _ ⟨i + 1, by simp, by omega, h⟩ (by omega)
      rw [decide_eq_true (by omega), cond_true, gd_pos (by omega), Int.toNat_natCast]
      generalize l.getD i (0, 0) = p at hm hok ⊢
      obtain ⟨o1, o2, o3⟩ := hok
      simp only [bnd_eq, i64_wrap (show -9223372036854775808 ≤ (i : Int) + 1 ∧ (i : Int) + 1 ≤ 9223372036854775807 by omega), Bool.cond_decide]
      unfold endS at hm
      by_cases h1 : p.1 ≤ n
      · by_cases h2 : p.2 = 0
        · simp only [h1, h2, if_true, decide_true, Bool.true_and] at hm ⊢
          rw [hm, decide_eq_true (by omega)]; rfl
        · by_cases h3 : n ≤ p.2
          · simp only [h1, h2, h3, if_true, if_false, decide_true, Bool.true_and, Bool.true_or] at hm ⊢
            rw [hm]
          · simp only [h1, h2, h3, if_true, if_false, decide_true, decide_false, Bool.true_and, Bool.false_or] at hm ⊢
            exact hnext hm
      · rw [if_neg h1]
        have : ∀ q : Sp, q.1 = p.1 → decide (q.1 ≤ n) = false := fun q hq => by rw [hq]; simpa using h1
        rw [this _ (by split <;> rfl), Bool.false_and, Bool.false_or] at hm
        exact hnext hm
    · rw [decide_eq_false (by omega), cond_false, hm, List.drop_eq_nil_of_le (by omega)]
      rfl
  · rw [decide_eq_false hn]
    rfl

theorem f20 (l : List Sp) (n : Int) : F20 l n = some (hasP l n) := by
  unfold F20 hasP
  simp only [f13, bindO_some]
  cases hr : rightP l
  · simp
  obtain ⟨r1, r2, r3, r4⟩ := right_ok hr
  simp only [Bool.not_true, cond_false, Bool.true_and]
  by_cases hn : 1 ≤ n ∧ n ≤ 9999
  · rw [decide_eq_false (by omega), cond_false, decide_eq_false (by omega), cond_false, decide_eq_true hn, f45 l (by omega), bindO_some, Bool.true_and]
    have hel : (ends l).length = l.length := by simp [ends]
    generalize ends l = L at hel ⊢
    refine loopK_rule (fun z => ∃ i : Nat, z = i ∧ i ≤ L.length ∧ memB n L = memB n (L.drop i)) (fun z => L.length - z.toNat) ⟨0, rfl, by omega, rfl⟩ rfl ?_
    rintro z again ⟨i, rfl, hi, hm⟩ hag
    by_cases hlt : i < L.length
    · rw [drop_getD (0, 0) hlt] at hm
      have hm2 : memB n (L.getD i (0, 0) :: L.drop (i + 1)) = ((decide ((L.getD i (0, 0)).1 ≤ n) && decide (n ≤ (L.getD i (0, 0)).2)) || memB n (L.drop (i + 1))) := rfl
      rw [hm2] at hm
      have hnext : memB n L = memB n (L.drop (i + 1)) → again ((i : Int) + 1) = some (memB n L) := fun h => hag _ ⟨i + 1, by simp, by omega, h⟩ (by omega)
      rw [decide_eq_true (by omega), cond_true, gd_pos (by omega), Int.toNat_natCast, gd_pos (by omega)]
      generalize L.getD i (0, 0) = p at hm ⊢
      simp only [bnd_eq, i64_wrap (show -9223372036854775808 ≤ (i : Int) + 1 ∧ (i : Int) + 1 ≤ 9223372036854775807 by omega), Bool.cond_decide]
      by_cases h1 : p.1 ≤ n
      · by_cases h3 : n ≤ p.2
        · simp only [h1, h3, if_true, decide_true, Bool.true_and, Bool.true_or] at hm ⊢
          rw [hm]
        · simp only [h1, h3, if_true, if_false, decide_true, decide_false, Bool.true_and, Bool.false_or] at hm ⊢
          exact hnext hm
      · simp only [h1, if_false, decide_false, Bool.false_and, Bool.false_or] at hm ⊢
        exact hnext hm
    · rw [decide_eq_false (by omega), cond_false, hm, List.drop_eq_nil_of_le (by omega)]
      rfl
  · rw [decide_eq_false hn]
    by_cases h1 : n < 1
    · rw [decide_eq_true h1]; rfl
    · rw [decide_eq_false h1, cond_false, decide_eq_true (by omega)]; rfl

/-! ### Count -/
def cnt1 (last : Int) (p : Sp) : Int := max 0 (min (toE p.2) last - p.1 + 1)
def cntL (last : Int) : List Sp → Int
  | [] => 0
  | p :: l => cnt1 last p + cntL last l
def countP (l : List Sp) (last : Int) : Int := if rightP l = false ∨ last < 1 then 0 else cntL last l

theorem f21 (l : List Sp) (last : Int) : F21 l last = some (countP l last) := by
  unfold F21 countP
  simp only [f12, bindO_some]
  cases hr : rightP l
  · simp
  obtain ⟨r1, r2, r3, r4⟩ := right_ok hr
  simp only [Bool.not_true, cond_false, Bool.true_eq_false, false_or]
  by_cases hn : last < 1
  · rw [decide_eq_true hn, cond_true, if_pos hn]
  rw [decide_eq_false hn, cond_false, if_neg hn]
  refine loopK_rule (fun z => ∃ i : Nat, z.2 = i ∧ i ≤ l.length ∧ 0 ≤ z.1 ∧ z.1 ≤ 10000 * i ∧ z.1 + cntL last (l.drop i) = cntL last l) (fun z => l.length - z.2.toNat) ⟨0, rfl, by omega, by simp, by simp, by simp⟩ rfl ?_
  rintro ⟨c, j⟩ again ⟨i, hj, hi, hc1, hc2, hm⟩ hag
  simp only [] at hj hc1 hc2 hm
  subst hj
  simp only []
  by_cases hlt : i < l.length
  · have hok := r4 _ (getD_mem' hlt)
    have hto := okS_to hok
    obtain ⟨o1, o2, o3⟩ := hok
    rw [drop_getD (0, 0) hlt, cntL] at hm
    rw [decide_eq_true (by omega), cond_true, gd_pos (by omega), Int.toNat_natCast]
    obtain ⟨p, hp⟩ : ∃ p : Sp, l.getD i (0, 0) = p := ⟨_, rfl⟩
    rw [hp] at hm hto o1 o2 o3 ⊢
    have key : ∀ t, t = toE p.2 → (bnd (min t last) fun x4 => bnd (IntKind.wrap .i64 (x4 - p.1)) fun x5 => bnd (IntKind.wrap .i64 (x5 + (1 : Int))) fun x6 => bnd (max (0 : Int) x6) fun x7 => bnd (IntKind.wrap .i64 (c + x7)) fun x8 =>
          bnd (IntKind.wrap .i64 ((i : Int) + (1 : Int))) fun x9 => again (x8, x9)) = some (cntL last l) := by
      rintro _ rfl
      simp only [bnd_eq]
      rw [i64_wrap (n := min (toE p.2) last - p.1) (by omega), i64_wrap (n := min (toE p.2) last - p.1 + 1) (by omega), i64_wrap (n := c + max 0 (min (toE p.2) last - p.1 + 1)) (by omega), i64_wrap (by omega)]
      unfold cnt1 at hm
      exact hag _ ⟨i + 1, by simp, by omega, by simp only []; omega, by simp only []; omega, by simp only []; omega⟩ (by simp; omega)
    unfold toE at key
    by_cases h0 : p.2 = 0
    · rw [decide_eq_true h0, jn_eq, cond_true]
      exact key _ (by rw [if_pos h0])
    · rw [decide_eq_false h0, jn_eq, cond_false]
      exact key _ (by rw [if_neg h0])
  · rw [decide_eq_false (by omega), cond_false]
    rw [List.drop_eq_nil_of_le (by omega), cntL] at hm
    rw [← hm]; simp

theorem cntL_zero {last : Int} (h : last < 1) : ∀ {l : List Sp}, (∀ p ∈ l, okS p) → cntL last l = 0
  | [], _ => rfl
  | p :: l, hp => by
    have h1 := (hp p (by simp)).1
    rw [cntL, cntL_zero h fun q hq => hp q (List.mem_cons_of_mem _ hq)]
    unfold cnt1
    omega

theorem f22 (l : List Sp) (last : Int) : F22 l last = some (countP l last) := by
  unfold F22 countP
  simp only [f13, bindO_some]
  cases hr : rightP l
  · simp
  obtain ⟨r1, r2, r3, r4⟩ := right_ok hr
  simp only [Bool.not_true, cond_false, Bool.true_eq_false, false_or]
  have hres : (if last < 1 then 0 else cntL last l) = cntL last l := by
    split
    · rename_i h; rw [cntL_zero h r4]
    · rfl
  rw [hres, f45 l (by omega), bindO_some, bnd_eq]
  have hel : (ends l).length = l.length := by simp [ends]
  refine loopK_rule (fun z => ∃ i : Nat, z.2 = i ∧ i ≤ l.length ∧ 0 ≤ z.1 ∧ z.1 ≤ 10000 * i ∧ z.1 + cntL last (l.drop i) = cntL last l) (fun z => l.length - z.2.toNat) ⟨0, rfl, by omega, by simp, by simp, by simp⟩ rfl ?_
  rintro ⟨c, j⟩ again ⟨i, hj, hi, hc1, hc2, hm⟩ hag
  simp only [] at hj hc1 hc2 hm
  subst hj
  simp only [hel]
  by_cases hlt : i < l.length
  · have hok := r4 _ (getD_mem' hlt)
    have hto := okS_to hok
    obtain ⟨o1, o2, o3⟩ := hok
    rw [drop_getD (0, 0) hlt, cntL] at hm
    have hE : (ends l).getD i (0, 0) = endS (l.getD i (0, 0)) := by
      unfold ends
      rw [List.getD_eq_getElem?_getD, List.getD_eq_getElem?_getD, List.getElem?_map, List.getElem?_eq_getElem hlt]; rfl
    rw [decide_eq_true (by omega), cond_true, gd_pos (by omega), Int.toNat_natCast, hE]
    obtain ⟨p, hp⟩ : ∃ p : Sp, l.getD i (0, 0) = p := ⟨_, rfl⟩
    rw [hp] at hm hto o1 o2 o3 ⊢
    have e1 : (endS p).1 = p.1 := by unfold endS; split <;> rfl
    have e2 : min (endS p).2 (min last 9999) = min (toE p.2) last := by
      unfold endS toE
      by_cases h0 : p.2 = 0
      · rw [if_pos h0, if_pos h0]; simp only []; omega
      · rw [if_neg h0, if_neg h0]; omega
    rw [e1]
    unfold cnt1 at hm
    by_cases hc : p.1 ≤ min last 9999
    · rw [decide_eq_true hc, cond_true, gd_pos (by omega), bnd_eq, e2, bnd_eq, gd_pos (by omega), i64_wrap (n := c + min (toE p.2) last) (by omega), bnd_eq, i64_wrap (n := c + min (toE p.2) last - p.1) (by omega), bnd_eq, i64_wrap (n := c + min (toE p.2) last - p.1 + 1) (by omega), bnd_eq, i64_wrap (by omega)]
      exact hag _ ⟨i + 1, by simp, by omega, by simp only []; omega, by simp only []; omega, by simp only []; omega⟩ (by simp; omega)
    · rw [decide_eq_false hc, cond_false, bnd_eq, i64_wrap (by omega)]
      exact hag _ ⟨i + 1, by simp, by omega, by simp only []; omega, by simp only []; omega, by simp only []; omega⟩ (by simp; omega)
  · rw [decide_eq_false (by omega), cond_false]
    rw [List.drop_eq_nil_of_le (by omega), cntL] at hm
    rw [← hm]; simp

/-! ### Gaps -/
def gapsL : List Sp → List Sp
  | p :: q :: r => (p.2 + 1, q.1 - 1) :: gapsL (q :: r)
  | _ => []
def gapsP (l : List Sp) : List Sp := if rightP l then gapsL l else []
theorem f24 (l : List Sp) : F24 l = some (gapsP l) := by
  unfold F24 gapsP
  simp only [f13, bindO_some]
  cases hr : rightP l
  · simp
  obtain ⟨r1, r2, r3, r4⟩ := right_ok hr
  simp only [Bool.not_true, cond_false, if_true, gdN_self]
  refine loopK_rule (fun z => ∃ i : Nat, z.2 = (i : Int) + 1 ∧ z.1.length ≤ i ∧ (i ≤ l.length) ∧ z.1 ++ gapsL (l.drop i) = gapsL l) (fun z => l.length + 1 - z.2.toNat) ⟨0, rfl, by simp, by omega, by simp⟩ rfl ?_
  rintro ⟨out, j⟩ again ⟨i, hj, ho, hi, hm⟩ hag
  simp only [] at hj ho hm
  subst hj
  simp only []
  by_cases hlt : i + 1 < l.length
  · have hok := r4 _ (getD_mem' (i := i) (by omega))
    have hok2 := r4 _ (getD_mem' hlt)
    obtain ⟨o1, o2, o3⟩ := hok
    obtain ⟨q1, q2, q3⟩ := hok2
    rw [drop_getD (0, 0) (show i < l.length by omega), drop_getD (0, 0) hlt, gapsL, ← drop_getD (0, 0) hlt] at hm
    have hb : i + 1 ≤ big := by unfold big; omega
    have e0 : ((i : Int) + 1 - 1).toNat = i := by omega
    have e1 : ((i : Int) + 1).toNat = i + 1 := by omega
    rw [decide_eq_true (by omega), cond_true, bnd_eq, i64_wrap (n := (i : Int) + 1 - 1) (by omega), gd_pos (by omega), bnd_eq, e0, i64_wrap (n := (l.getD i (0, 0)).2 + 1) (by omega), gd_pos (by omega), bnd_eq, e1, i64_wrap (n := (l.getD (i + 1) (0, 0)).1 - 1) (by omega), gd_pos (by simp; omega), bnd_eq, bnd_eq, i64_wrap (by omega)]
    exact hag _ ⟨i + 1, by simp, by simp; omega, by omega, by rw [← hm]; simp⟩ (by simp only []; omega)
  · rw [decide_eq_false (by omega), cond_false]
    have : gapsL (l.drop i) = [] := by
      rcases Nat.lt_or_ge i l.length with h | h
      · rw [drop_getD (0, 0) h, List.drop_eq_nil_of_le (by omega)]; rfl
      · rw [List.drop_eq_nil_of_le h]; rfl
    rw [this, List.append_nil] at hm
    rw [hm]
theorem f23 (l : List Sp) : F23 l = some (gapsP l) := by
  rw [← f24]
  unfold F23 F24
  simp only [jn_eq, f12, f13]
end Go.Proofs.YtdffccmlfhdkpaaDoor
