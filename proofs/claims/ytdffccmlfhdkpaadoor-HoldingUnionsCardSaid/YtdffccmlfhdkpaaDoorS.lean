/-
  Chapter 17: the laws.
-/
import Derived.Test.YtdffccmlfhdkpaaDoorR
namespace Go.Proofs.YtdffccmlfhdkpaaDoor
open Go Go.Nu

/-! ### the examples -/
theorem pieces_at (a b : List UInt8) (h : a.all (fun x => !(x == 44)) = true) : pieces (a ++ 44 :: b) = itemP (trimP a) :: pieces b := by
  have hf : findN (a ++ 44 :: b) 44 = a.length := by
    induction a with
    | nil => rw [List.nil_append, findN_cons, if_pos rfl]; rfl
    | cons x a ih =>
      rw [List.all_cons, Bool.and_eq_true] at h
      rw [List.cons_append, findN_cons, if_neg (by simpa using h.1), ih h.2]; rfl
  rw [pieces_eq, hf, if_pos (by simp)]
  congr 2
  · rw [List.take_left']
    rfl
  · congr 1
    rw [show a.length + 1 = (a ++ [44]).length by simp, show a ++ 44 :: b = (a ++ [44]) ++ b by simp, List.drop_left']
    rfl
theorem pieces_end (a : List UInt8) (h : a.all (fun x => !(x == 44)) = true) : pieces a = [itemP (trimP a)] := by
  have hf : findN a 44 = a.length := by
    induction a with
    | nil => rfl
    | cons x a ih =>
      rw [List.all_cons, Bool.and_eq_true] at h
      rw [findN_cons, if_neg (by simpa using h.1), ih h.2]; rfl
  rw [pieces_eq, hf, if_neg (by omega), List.take_length]

theorem p1 : parseP [53, 44, 32, 49, 45, 51, 32, 44, 52, 45, 52] = ([(1, 5)], 0) := by
  have : pieces [53, 44, 32, 49, 45, 51, 32, 44, 52, 45, 52] = [((5, 5, false), true), ((1, 3, false), true), ((4, 4, false), true)] := by
    rw [show ([53, 44, 32, 49, 45, 51, 32, 44, 52, 45, 52] : List UInt8) = [53] ++ 44 :: ([32, 49, 45, 51, 32] ++ 44 :: [52, 45, 52]) from rfl, pieces_at _ _ (by decide), pieces_at _ _ (by decide), pieces_end _ (by decide)]
    decide
  unfold parseP
  rw [this]
  decide
theorem p2 : parseP [55, 45, 44, 49] = ([(1, 1), (7, 0)], 0) := by
  have : pieces [55, 45, 44, 49] = [((7, 10000, true), true), ((1, 1, false), true)] := by
    rw [show ([55, 45, 44, 49] : List UInt8) = [55, 45] ++ 44 :: [49] from rfl, pieces_at _ _ (by decide), pieces_end _ (by decide)]
    decide
  unfold parseP
  rw [this]
  decide
theorem p3 : (parseP [51, 45, 49]).2 = 2 := by
  have : pieces [51, 45, 49] = [((3, 1, false), true)] := by
    rw [pieces_end _ (by decide)]
    decide
  unfold parseP
  rw [this]
  decide
theorem p4 : (parseP [48, 49]).2 = 3 := by
  have : pieces [48, 49] = [((0, 0, false), false)] := by
    rw [pieces_end _ (by decide)]
    decide
  unfold parseP
  rw [this]
  decide
theorem p5 : printP [(1, 1), (7, 0)] = [49, 44, 32, 55, 45] := by
  have h1 : Lib.itoa 1 = [49] := by rw [show (1 : Int) = ((1 : Nat) : Int) from rfl, itoa_nat, dec_lt (by omega)]; rfl
  have h7 : Lib.itoa 7 = [55] := by rw [show (7 : Int) = ((7 : Nat) : Int) from rfl, itoa_nat, dec_lt (by omega)]; rfl
  unfold printP
  rw [if_pos (by decide)]
  simp only [List.map_cons, List.map_nil, itemT, h1, h7]
  decide

theorem f11 : F11 = some true := by
  unfold F11
  rw [f16 _ (by simp), bindO_some, f16 _ (by simp), bindO_some, f16 _ (by simp), bindO_some, f16 _ (by simp), bindO_some, f27, bindO_some, f27, bindO_some, p1, p2, p3, p4]
  have r1 : remP [(7, 0)] 9 10 = ([(7, 8), (11, 0)], 0) := by decide
  have r2 : remP [(7, 0)] 9 9999 = ([(7, 8)], 0) := by decide
  rw [r1, r2]
  have g : gapsP [(1, 2), (5, 6)] = [(3, 4)] := by decide
  have h : hasP [(7, 0)] 7 = true := by decide
  have c : countP [(7, 0)] 20000 = 9993 := by decide
  have r : rightP [(7, 0)] = true := by decide
  simp only [f18 _ _ (show ([(1, 5)] : List Sp).length ≤ 1000000 by simp), f18 _ _ (show ([(1, 1), (7, 0)] : List Sp).length ≤ 1000000 by simp), f18 _ _ (show ([(7, 8), (11, 0)] : List Sp).length ≤ 1000000 by simp), f18 _ _ (show ([(7, 8)] : List Sp).length ≤ 1000000 by simp),
    f14, f21, f23, f19, f12, p5, g, h, c, r, bindO_some, f18 _ _ (show ([(3, 4)] : List Sp).length ≤ 1000000 by simp)]
  rfl

/-! ### the laws of chapter 17 -/
theorem alive_end : (bindO F11 fun y => some y) = some true := by rw [f11]; rfl

theorem law3 (l : List Sp) : F3 l = some true := by
  unfold F3
  rw [alive_end]
  by_cases h : 60 < l.length
  · rw [decide_eq_true (by omega), cond_true]
  · rw [decide_eq_false (by omega), cond_false, f12, bindO_some, f13, bindO_some, beq_self_eq_true, cond_true, f14, bindO_some, f15, bindO_some, decide_eq_true rfl, cond_true]

theorem finish_len {L : List Sp} : (finish L).1.length ≤ 32 := by
  unfold finish
  split
  · simp
  · simp only [List.length_map]; omega
theorem parse_len (s : List UInt8) : (parseP s).1.length ≤ 32 := by
  unfold parseP
  split
  · simp
  · split
    · simp
    · split
      · simp
      · exact finish_len

theorem law4 (s : List UInt8) : F4 s = some true := by
  unfold F4
  rw [alive_end]
  by_cases h : 1000 < s.length
  · rw [decide_eq_true (by omega), cond_true]
  · have hl := parse_len s
    rw [decide_eq_false (by omega), cond_false, f16 s (by omega), bindO_some, f17 s (by omega), bindO_some, f18 _ _ (by omega), bindO_some, decide_eq_true rfl, cond_true, decide_eq_true rfl, cond_true]

theorem gapsL_len : ∀ l : List Sp, (gapsL l).length ≤ l.length
  | [] => by simp [gapsL]
  | [p] => by simp [gapsL]
  | p :: q :: r => by
    have := gapsL_len (q :: r)
    rw [gapsL]
    simp only [List.length_cons] at this ⊢
    omega
theorem gaps_len (l : List Sp) : (gapsP l).length ≤ 32 := by
  unfold gapsP
  split
  · rename_i h
    have := gapsL_len l
    have := (right_ok h).1
    omega
  · simp

theorem law5 (l : List Sp) (n : Int) : F5 l n = some true := by
  unfold F5
  rw [alive_end]
  by_cases h : 60 < l.length
  · rw [decide_eq_true (by omega), cond_true]
  · have hl := gaps_len l
    rw [decide_eq_false (by omega), cond_false, f19, bindO_some, f20, bindO_some, beq_self_eq_true, cond_true, f21, bindO_some, f22, bindO_some, decide_eq_true rfl, cond_true, f23, bindO_some, f24, bindO_some, f18 _ _ (by omega), bindO_some, decide_eq_true rfl, cond_true]

theorem add_len (l : List Sp) (a b : Int) : (addP l a b).1.length ≤ 32 := by
  unfold addP
  split
  · simp
  · split
    · simp
    · exact finish_len
theorem rem_len (l : List Sp) (a b : Int) : (remP l a b).1.length ≤ 32 := by
  unfold remP
  split
  · simp
  · split
    · simp
    · exact finish_len
theorem uni_len (a b : List Sp) : (uniP a b).1.length ≤ 32 := by
  unfold uniP
  split
  · simp
  · exact finish_len

theorem law8 (l : List Sp) (a b : Int) : F8 l a b = some true := by
  unfold F8
  rw [alive_end]
  by_cases h : 60 < l.length
  · rw [decide_eq_true (by omega), cond_true]
  · have h1 := add_len l a b
    have h2 := rem_len l a b
    rw [decide_eq_false (by omega), cond_false, f25, bindO_some, f26, bindO_some, f27, bindO_some, f28, bindO_some, f18 _ _ (by omega), bindO_some, decide_eq_true rfl, cond_true, decide_eq_true rfl, cond_true, f18 _ _ (by omega), bindO_some, decide_eq_true rfl, cond_true, decide_eq_true rfl, cond_true]

theorem law9 (a b : List Sp) : F9 a b = some true := by
  unfold F9
  rw [alive_end]
  by_cases h : 60 < a.length
  · rw [decide_eq_true (by omega), cond_true]
  · rw [decide_eq_false (by omega), cond_false]
    by_cases h2 : 60 < b.length
    · rw [decide_eq_true (by omega), cond_true]
    · have h1 := uni_len a b
      rw [decide_eq_false (by omega), cond_false, f29, bindO_some, f30, bindO_some, f18 _ _ (by omega), bindO_some, decide_eq_true rfl, cond_true, decide_eq_true rfl, cond_true]

/-! ### what is restored -/
theorem finish_ok {L : List Sp} (hL : good 1 L) (h : (finish L).2 = 0) : rightP (finish L).1 = true ∧ ends (finish L).1 = L := by
  unfold finish at h ⊢
  split
  · rename_i h32; rw [if_pos h32] at h; cases h
  · rename_i h32
    obtain ⟨r1, r2⟩ := rt_fin (by omega) hL
    refine ⟨?_, r2⟩
    unfold rightP
    simp only []
    rw [r1, List.length_map, decide_eq_true (by omega)]; rfl
theorem parse_right (s : List UInt8) (h : (parseP s).2 = 0) : rightP (parseP s).1 = true := by
  unfold parseP at h ⊢
  by_cases h0 : s = []
  · rw [if_pos h0]; rfl
  · rw [if_neg h0] at h ⊢
    by_cases h1 : (pieces s).all (·.2) = false
    · rw [if_pos h1] at h; cases h
    · rw [if_neg h1] at h ⊢
      cases h2 : (pieces s).any (fun x => badR x.1)
      · rw [h2, if_neg (by simp)] at h
        rw [if_neg (by simp)]
        have hokX : ∀ y ∈ (pieces s).map fun x => spanR x.1, okX y := by
          intro y hy
          obtain ⟨x, hx, rfl⟩ := List.mem_map.1 hy
          refine (bad_ok (pieces_okIt s x hx) ?_).1
          rw [Bool.eq_false_iff]
          intro hb
          have : (pieces s).any (fun x => badR x.1) = true := List.any_eq_true.2 ⟨x, hx, hb⟩
          rw [h2] at this; cases this
        exact (finish_ok (putAll_ok (l := []) (by trivial) hokX).1 h).1
      · rw [h2, if_pos rfl] at h; cases h

/-- Digits of a number: they spell it. -/
theorem dec_digits (u : Nat) : (Lib.decDigits u).all isD = true ∧ valN 0 (Lib.decDigits u) = u ∧ Lib.decDigits u ≠ [] ∧ (u ≠ 0 → (Lib.decDigits u).head? ≠ some 48) := by
  induction u using Nat.strongRecOn with
  | _ u ih =>
    have hb : ∀ k, k < 10 → (UInt8.ofNat (48 + k)).toNat = 48 + k := by
      intro k hk
      rw [UInt8.toNat_ofNat']
      omega
    by_cases h : u < 10
    · rw [dec_lt h]
      have e := hb u h
      refine ⟨by simp [isD, e]; omega, by simp only [valN, List.foldl_cons, List.foldl_nil, e]; omega, by simp, fun h0 => ?_⟩
      simp only [List.head?_cons, ne_eq, Option.some.injEq, ← UInt8.toNat_inj, e]
      show ¬ (48 + u = 48)
      omega
    · obtain ⟨i1, i2, i3, i4⟩ := ih (u / 10) (by omega)
      rw [dec_ge h]
      have e := hb (u % 10) (by omega)
      refine ⟨by simp [isD, e, i1]; omega, ?_, by simp, fun _ => ?_⟩
      · unfold valN at i2 ⊢
        rw [List.foldl_append, i2]
        simp [e]; omega
      · obtain ⟨c, r, hr⟩ : ∃ c r, Lib.decDigits (u / 10) = c :: r := by
          cases hx : Lib.decDigits (u / 10) with
          | nil => exact (i3 hx).elim
          | cons c r => exact ⟨c, r, rfl⟩
        have := i4 (by omega)
        rw [hr] at this ⊢
        simpa using this
theorem num_dec {n : Int} (h1 : 1 ≤ n) (h2 : n ≤ 9999) : numP (Lib.itoa n) = (n, true) ∧ (Lib.itoa n).all isD = true ∧ Lib.itoa n ≠ [] := by
  obtain ⟨m, rfl⟩ : ∃ m : Nat, n = m := ⟨n.toNat, by omega⟩
  rw [itoa_nat]
  obtain ⟨d1, d2, d3, d4⟩ := dec_digits m
  refine ⟨?_, d1, d3⟩
  unfold numP
  rw [if_neg (by rintro (h | ⟨h, _⟩); exact d3 h; exact d4 (by omega) h)]
  have := numGo_val (Lib.decDigits m) 0 d1
  rw [show min 0 10000 = 0 by omega, d2] at this
  rw [this, show min m 10000 = m by omega]
theorem digit_not {c : UInt8} (h : isD c = true) : c ≠ 44 ∧ c ≠ 45 ∧ c ≠ 32 := by
  have h : 48 ≤ c.toNat ∧ c.toNat ≤ 57 := by simpa [isD] using h
  refine ⟨?_, ?_, ?_⟩ <;> (rintro rfl; revert h; decide)
theorem findN_all {a : List UInt8} {c : UInt8} (h : ∀ x ∈ a, x ≠ c) (b : List UInt8) : findN (a ++ b) c = a.length + findN b c := by
  induction a with
  | nil => simp
  | cons x a ih =>
    rw [List.cons_append, findN_cons, if_neg (h x (by simp)), ih fun y hy => h y (List.mem_cons_of_mem _ hy)]
    simp only [List.length_cons]; omega
theorem digits_no {a : List UInt8} (h : a.all isD = true) {c : UInt8} (hc : isD c = false) : ∀ x ∈ a, x ≠ c := fun x hx e => by
  rw [List.all_eq_true] at h
  have := h x hx
  rw [e, hc] at this; cases this

def itOf (p : Sp) : It := ((endS p).1, (endS p).2, decide (p.2 = 0))
theorem item_back {p : Sp} (h : okS p) : itemP (itemT p) = (itOf p, true) := by
  obtain ⟨h1, h2, h3⟩ := h
  obtain ⟨n1, n2, n3⟩ := num_dec h1 h2
  have hno := digits_no n2 (c := 45) (by decide)
  unfold itemT itOf endS
  by_cases h0 : p.2 = 0
  · rw [if_pos h0, if_pos h0]
    have hf : findN (Lib.itoa p.1 ++ [45]) 45 = (Lib.itoa p.1).length := by rw [findN_all hno, findN_cons, if_pos rfl]; rfl
    unfold itemP
    rw [hf, List.take_left', n1, if_neg (by simp), if_neg (by simp), if_pos (by simp), decide_eq_true h0]
    rfl
  · rw [if_neg h0, if_neg h0, decide_eq_false h0]
    by_cases h4 : p.1 < p.2
    · rw [if_pos h4]
      obtain ⟨m1, m2, m3⟩ := num_dec (n := p.2) (by omega) (by omega)
      have hf : findN (Lib.itoa p.1 ++ 45 :: Lib.itoa p.2) 45 = (Lib.itoa p.1).length := by rw [findN_all hno, findN_cons, if_pos rfl]; rfl
      have hd : (Lib.itoa p.1 ++ 45 :: Lib.itoa p.2).drop ((Lib.itoa p.1).length + 1) = Lib.itoa p.2 := by
        rw [show (Lib.itoa p.1).length + 1 = (Lib.itoa p.1 ++ [45]).length by simp, show Lib.itoa p.1 ++ 45 :: Lib.itoa p.2 = (Lib.itoa p.1 ++ [45]) ++ Lib.itoa p.2 by simp, List.drop_left']
        rfl
      have hl : 0 < (Lib.itoa p.2).length := List.length_pos_iff.2 m3
      unfold itemP
      rw [hf, List.take_left' rfl, n1, if_neg (by simp), if_neg (by simp), if_neg (by simp; omega), hd, m1]
    · rw [if_neg h4, List.append_nil]
      have e : p.2 = p.1 := by omega
      have hf : findN (Lib.itoa p.1) 45 = (Lib.itoa p.1).length := by
        have := findN_all hno []
        rw [List.append_nil] at this
        rw [this]; simp [findN]
      unfold itemP
      rw [hf, List.take_length, n1, if_neg (by simp), if_pos rfl, e]
theorem itemT_bytes {p : Sp} (h : okS p) : (itemT p).all (fun x => !(x == 44)) = true ∧ (∀ x ∈ itemT p, sp x = false) ∧ itemT p ≠ [] := by
  obtain ⟨h1, h2, h3⟩ := h
  obtain ⟨n1, n2, n3⟩ := num_dec h1 h2
  have key : ∀ x ∈ itemT p, isD x = true ∨ x = 45 := by
    intro x hx
    unfold itemT at hx
    rcases List.mem_append.1 hx with hx | hx
    · rw [List.all_eq_true] at n2; exact .inl (n2 x hx)
    · split at hx
      · simp at hx; exact .inr hx
      · rename_i h0
        split at hx
        · rename_i h4
          obtain ⟨m1, m2, m3⟩ := num_dec (n := p.2) (by omega) (by omega)
          rcases List.mem_cons.1 hx with hx | hx
          · exact .inr hx
          · rw [List.all_eq_true] at m2; exact .inl (m2 x hx)
        · cases hx
  refine ⟨?_, fun x hx => ?_, ?_⟩
  · rw [List.all_eq_true]
    intro x hx
    rcases key x hx with h | h
    · simpa using (digit_not h).1
    · rw [h]; decide
  · rcases key x hx with h | h
    · simpa [sp] using (digit_not h).2.2
    · rw [h]; decide
  · unfold itemT
    simp [n3]
theorem trim_none {a : List UInt8} (h : ∀ x ∈ a, sp x = false) : trimP a = a := by
  have h1 : ∀ l : List UInt8, (∀ x ∈ l, sp x = false) → l.dropWhile sp = l := by
    intro l hl
    cases l with
    | nil => rfl
    | cons c r => rw [List.dropWhile_cons, hl c (by simp)]; rfl
  unfold trimP rdrop
  rw [h1 a h, h1 a.reverse fun x hx => h x (by simpa using hx), List.reverse_reverse]
theorem trim_one {a : List UInt8} (h : ∀ x ∈ a, sp x = false) : trimP (32 :: a) = a := by
  have : trimP (32 :: a) = trimP a := by
    unfold trimP
    rw [List.dropWhile_cons]; rfl
  rw [this, trim_none h]

theorem pieces_join : ∀ (r : List Sp) (x : Sp) (pre : List UInt8), (pre = [] ∨ pre = [32]) → (∀ p ∈ x :: r, okS p) → pieces (pre ++ itemT x ++ Lib.joinTail [44, 32] (r.map itemT)) = (x :: r).map fun p => (itOf p, true)
  | [], x, pre, hpre, h => by
    have hx := h x (by simp)
    obtain ⟨b1, b2, b3⟩ := itemT_bytes hx
    have ht : trimP (pre ++ itemT x) = itemT x := by
      rcases hpre with rfl | rfl
      · exact trim_none b2
      · exact trim_one b2
    simp only [List.map_nil, Lib.joinTail, List.flatten_nil, List.append_nil]
    rw [pieces_end _ (by rcases hpre with rfl | rfl <;> simpa using b1), ht, item_back hx]; rfl
  | y :: r, x, pre, hpre, h => by
    have hx := h x (by simp)
    obtain ⟨b1, b2, b3⟩ := itemT_bytes hx
    have ht : trimP (pre ++ itemT x) = itemT x := by
      rcases hpre with rfl | rfl
      · exact trim_none b2
      · exact trim_one b2
    have e : pre ++ itemT x ++ Lib.joinTail [44, 32] ((y :: r).map itemT) = (pre ++ itemT x) ++ 44 :: ([32] ++ itemT y ++ Lib.joinTail [44, 32] (r.map itemT)) := by
      simp [Lib.joinTail]
    rw [e, pieces_at _ _ (by rcases hpre with rfl | rfl <;> simpa using b1), ht, item_back hx, pieces_join r y [32] (.inr rfl) fun p hp => h p (List.mem_cons_of_mem _ hp)]
    rfl

theorem parse_print (l : List Sp) (h : rightP l = true) : parseP (printP l) = (l, 0) := by
  obtain ⟨r1, r2, r3, r4⟩ := right_ok h
  unfold printP
  rw [if_pos h]
  cases l with
  | nil => rfl
  | cons x r =>
    have hp : pieces (Lib.join ((x :: r).map itemT) [44, 32]) = (x :: r).map fun p => (itOf p, true) := by
      rw [List.map_cons, Lib.join_cons]
      have := pieces_join r x [] (.inl rfl) r4
      rwa [List.nil_append] at this
    have hne : Lib.join ((x :: r).map itemT) [44, 32] ≠ [] := by
      rw [List.map_cons, Lib.join_cons]
      have := (itemT_bytes (r4 x (by simp))).2.2
      simp [this]
    unfold parseP
    rw [if_neg hne, hp]
    have hall : ((x :: r).map fun p => (itOf p, true)).all (·.2) = true := by
      rw [List.all_map]; simp
    have hbad : ((x :: r).map fun p => (itOf p, true)).any (fun x => badR x.1) = false := by
      rw [Bool.eq_false_iff]
      intro hb
      obtain ⟨y, hy, hb⟩ := List.any_eq_true.1 hb
      obtain ⟨p, hp, rfl⟩ := List.mem_map.1 hy
      obtain ⟨o1, o2, o3⟩ := r4 p hp
      revert hb
      unfold badR itOf endS
      by_cases h0 : p.2 = 0
      · simp only [h0, if_true, decide_true, Bool.not_true, Bool.and_false, Bool.or_false, Bool.or_eq_true, decide_eq_true_eq]
        omega
      · simp only [h0, if_false, decide_false, Bool.not_false, Bool.and_true, Bool.or_eq_true, decide_eq_true_eq]
        omega
    have hspan : (((x :: r).map fun p => (itOf p, true)).map fun x => spanR x.1) = ends (x :: r) := by
      rw [List.map_map]; rfl
    rw [hall, hbad, hspan]
    simp only [Bool.true_eq_false, if_false, Bool.false_eq_true]
    have hokX : ∀ y ∈ ends (x :: r), okX y := fun y hy => by
      obtain ⟨p, hp, rfl⟩ := List.mem_map.1 hy
      exact okX_of (r4 p hp)
    obtain ⟨g1, g2, g3⟩ := putAll_ok (l := []) (by trivial) hokX
    have heq : putAll [] (ends (x :: r)) = ends (x :: r) := good_unique g1 r2 fun n => by rw [g3]; simp [mem]
    rw [heq]
    unfold finish
    have hel : (ends (x :: r)).length = (x :: r).length := by simp [ends]
    rw [if_neg (by omega), r3]

theorem print_len (l : List Sp) (h : rightP l = true) : (printP l).length ≤ 900000 := by
  obtain ⟨r1, r2, r3, r4⟩ := right_ok h
  unfold printP
  rw [if_pos h]
  have hj := join_len (xs := l.map itemT) fun x hx => by
    obtain ⟨p, hp, rfl⟩ := List.mem_map.1 hx
    exact itemT_len (r4 p hp)
  rw [List.length_map] at hj
  omega

theorem law6 (l : List Sp) (s : List UInt8) : F6 l s = some true := by
  unfold F6
  rw [alive_end]
  by_cases h : 60 < l.length
  · rw [decide_eq_true (by omega), cond_true]
  rw [decide_eq_false (by omega), cond_false]
  by_cases h2 : 1000 < s.length
  · rw [decide_eq_true (by omega), cond_true]
  rw [decide_eq_false (by omega), cond_false, jn_eq]
  have hend : (bindO (F16 s) fun y8 => cond (!decide (y8.2 = (0 : Int))) (some true) (bindO (F12 y8.1) fun y10 => cond (y10) (some true) (some false))) = some true := by
    rw [f16 s (by omega), bindO_some]
    by_cases h0 : (parseP s).2 = 0
    · rw [decide_eq_true h0, Bool.not_true, cond_false, f12, bindO_some, parse_right s h0, cond_true]
    · rw [decide_eq_false h0, Bool.not_false, cond_true]
  rw [hend, f12, bindO_some]
  cases hr : rightP l
  · rw [cond_false]
  · have hl := print_len l hr
    rw [cond_true, f14, bindO_some, f16 _ hl, bindO_some, parse_print l hr, decide_eq_true rfl, Bool.not_true, cond_false, f18 _ _ (by omega), bindO_some, decide_eq_true rfl, Bool.not_true, cond_false]

/-! ### counts and gaps -/
theorem cnt_step {n : Int} (hn1 : 1 ≤ n) (hn2 : n ≤ 9999) : ∀ {l : List Sp} {m : Int}, 1 ≤ m → good m (ends l) → (∀ p ∈ l, okS p) → cntL n l = cntL (n - 1) l + if memB n (ends l) then 1 else 0
  | [], _, _, _, _ => by simp [cntL, memB, ends]
  | p :: l, m, hm, hg, hok => by
    obtain ⟨o1, o2, o3⟩ := hok p (by simp)
    have hg' : good m (endS p :: ends l) := hg
    obtain ⟨g1, g2, g3, g4, g5⟩ := hg'
    have ih := cnt_step hn1 hn2 (m := (endS p).2 + 2) (by omega) g5 fun q hq => hok q (List.mem_cons_of_mem _ hq)
    have hmem : memB n (ends (p :: l)) = ((decide ((endS p).1 ≤ n) && decide (n ≤ (endS p).2)) || memB n (ends l)) := rfl
    rw [cntL, cntL, ih, hmem]
    have hdis : (endS p).1 ≤ n ∧ n ≤ (endS p).2 → memB n (ends l) = false := by
      intro h
      rw [Bool.eq_false_iff]
      intro hx
      exact mem_low g5 (by omega) (memB_iff.1 hx)
    have hstep : cnt1 n p = cnt1 (n - 1) p + if (endS p).1 ≤ n ∧ n ≤ (endS p).2 then 1 else 0 := by
      unfold cnt1 toE endS
      by_cases h0 : p.2 = 0
      · simp only [h0, if_true]; split <;> omega
      · simp only [h0, if_false]; split <;> omega
    rw [hstep]
    by_cases hc : (endS p).1 ≤ n ∧ n ≤ (endS p).2
    · rw [if_pos hc, hdis hc, decide_eq_true hc.1, decide_eq_true hc.2]
      simp; omega
    · have : (decide ((endS p).1 ≤ n) && decide (n ≤ (endS p).2)) = false := by
        rw [Bool.eq_false_iff]; simpa using hc
      rw [if_neg hc, this, Bool.false_or]; omega

theorem gaps_at : ∀ {l : List Sp} {m : Int}, 1 ≤ m → good m (ends l) → (∀ p ∈ l, okS p) → ∀ g ∈ gapsL l, 2 ≤ g.1 ∧ g.1 ≤ g.2 ∧ g.2 < 9999 ∧ ¬ mem g.1 (ends l) ∧ ¬ mem g.2 (ends l) ∧ mem (g.1 - 1) (ends l) ∧ mem (g.2 + 1) (ends l)
  | [], _, _, _, _, g, hg => by cases hg
  | [p], _, _, _, _, g, hg => by cases hg
  | p :: q :: r, m, hm, h, hok, g, hg => by
    obtain ⟨o1, o2, o3⟩ := hok p (by simp)
    have h' : good m (endS p :: ends (q :: r)) := h
    obtain ⟨g1, g2, g3, g4, g5⟩ := h'
    have g5' : good ((endS p).2 + 2) (endS q :: ends r) := g5
    obtain ⟨k1, k2, k3, k4, k5⟩ := g5'
    have hq1 : (endS q).1 = q.1 := by unfold endS; split <;> rfl
    have hp1 : (endS p).1 = p.1 := by unfold endS; split <;> rfl
    have hp2 : (endS p).2 = p.2 := by
      by_cases h0 : p.2 = 0
      · have : (endS p).2 = 10000 := by unfold endS; rw [if_pos h0]
        omega
      · unfold endS; rw [if_neg h0]
    rw [gapsL] at hg
    rcases List.mem_cons.1 hg with rfl | hg
    · have e : ends (p :: q :: r) = endS p :: endS q :: ends r := rfl
      rw [e]
      simp only [mem]
      refine ⟨by omega, by omega, by omega, ?_, ?_, .inl ⟨by omega, by omega⟩, .inr (.inl ⟨by omega, by omega⟩)⟩
      · rintro (h | h | h)
        · omega
        · omega
        · exact mem_low k5 (by omega) h
      · rintro (h | h | h)
        · omega
        · omega
        · exact mem_low k5 (by omega) h
    · obtain ⟨i1, i2, i3, i4, i5, i6, i7⟩ := gaps_at (l := q :: r) (by omega) g5 (fun x hx => hok x (List.mem_cons_of_mem _ hx)) g hg
      have e : ends (p :: q :: r) = endS p :: ends (q :: r) := rfl
      have hlow : (endS p).2 + 2 ≤ g.1 - 1 := by
        rcases Int.lt_or_le (g.1 - 1) ((endS p).2 + 2) with hx | hx
        · exact absurd i6 (mem_low g5 hx)
        · exact hx
      rw [e]
      simp only [mem]
      refine ⟨by omega, i2, i3, ?_, ?_, .inr i6, .inr i7⟩
      · rintro (h | h)
        · omega
        · exact i4 h
      · rintro (h | h)
        · omega
        · exact i5 h

theorem law7 (l : List Sp) (n : Int) : F7 l n = some true := by
  unfold F7
  rw [alive_end]
  by_cases h : 32 < l.length
  · rw [decide_eq_true (by omega), cond_true]
  rw [decide_eq_false (by omega), cond_false, f12, bindO_some]
  cases hr : rightP l
  · rw [Bool.not_false, cond_true]
  rw [Bool.not_true, cond_false, jn_eq, jn_eq]
  obtain ⟨r1, r2, r3, r4⟩ := right_ok hr
  have hgaps : (bindO (F23 l) fun y12 =>
      loopK (σ := Int) (fun p13 againp13 =>
        cond (decide (p13 < (List.length y12 : Int)))
          (gd (0 ≤ p13 ∧ p13 < (List.length y12 : Int)) <|
          cond (decide ((List.getD y12 (Int.toNat p13) (0, 0)).1 < (2 : Int)))
            (some false)
            (cond (decide ((List.getD y12 (Int.toNat p13) (0, 0)).2 < (List.getD y12 (Int.toNat p13) (0, 0)).1))
              (some false)
              (cond (decide ((9999 : Int) ≤ (List.getD y12 (Int.toNat p13) (0, 0)).2))
                (some false)
                (bindO (F19 l ((List.getD y12 (Int.toNat p13) (0, 0)).1)) fun y14 =>
                cond (y14)
                  (some false)
                  (bindO (F19 l ((List.getD y12 (Int.toNat p13) (0, 0)).2)) fun y15 =>
                  cond (y15)
                    (some false)
                    (bnd (IntKind.wrap .i64 ((List.getD y12 (Int.toNat p13) (0, 0)).1 - (1 : Int))) fun x16 =>
                    bindO (F19 l x16) fun y17 =>
                    cond (!y17)
                      (some false)
                      (bnd (IntKind.wrap .i64 ((List.getD y12 (Int.toNat p13) (0, 0)).2 + (1 : Int))) fun x18 =>
                      bindO (F19 l x18) fun y19 =>
                      cond (!y19)
                        (some false)
                        (bnd (IntKind.wrap .i64 (p13 + (1 : Int))) fun x20 =>
                        againp13 x20))))))))
          (some true)) (0 : Int)) = some true := by
    have hgl := gaps_len l
    rw [f23, bindO_some]
    unfold gapsP at hgl ⊢
    rw [if_pos hr] at hgl ⊢
    refine loopK_rule (fun z => ∃ i : Nat, z = i ∧ i ≤ (gapsL l).length) (fun z => (gapsL l).length - z.toNat) ⟨0, rfl, by omega⟩ rfl ?_
    rintro z again ⟨i, rfl, hi⟩ hag
    by_cases hlt : i < (gapsL l).length
    · obtain ⟨i1, i2, i3, i4, i5, i6, i7⟩ := gaps_at (by omega) r2 r4 _ (getD_mem' hlt)
      rw [decide_eq_true (by omega), cond_true, gd_pos (by omega), Int.toNat_natCast]
      generalize (gapsL l).getD i (0, 0) = g at i1 i2 i3 i4 i5 i6 i7 ⊢
      have hh : ∀ v : Int, 1 ≤ v → v ≤ 9999 → (hasP l v = true ↔ mem v (ends l)) := by
        intro v hv1 hv2
        unfold hasP
        rw [hr, Bool.true_and, decide_eq_true ⟨hv1, hv2⟩, Bool.true_and, memB_iff]
      have a1 : hasP l g.1 = false := by rw [Bool.eq_false_iff]; exact fun hx => i4 ((hh _ (by omega) (by omega)).1 hx)
      have a2 : hasP l g.2 = false := by rw [Bool.eq_false_iff]; exact fun hx => i5 ((hh _ (by omega) (by omega)).1 hx)
      have a3 : hasP l (g.1 - 1) = true := (hh _ (by omega) (by omega)).2 i6
      have a4 : hasP l (g.2 + 1) = true := (hh _ (by omega) (by omega)).2 i7
      rw [decide_eq_false (by omega), cond_false, decide_eq_false (by omega), cond_false, decide_eq_false (by omega), cond_false, f19, bindO_some, a1, cond_false, f19, bindO_some, a2, cond_false, bnd_eq, i64_wrap (by omega), f19, bindO_some, a3, Bool.not_true, cond_false,
        bnd_eq, i64_wrap (by omega), f19, bindO_some, a4, Bool.not_true, cond_false, bnd_eq, i64_wrap (by omega)]
      exact hag _ ⟨i + 1, by simp, by omega⟩ (by omega)
    · rw [decide_eq_false (by omega), cond_false]
  rw [hgaps]
  have hcnt : 1 ≤ n → n ≤ 9999 → countP l n - countP l (n - 1) = if hasP l n then 1 else 0 := by
    intro h1 h2
    have hs := cnt_step h1 h2 (by omega) r2 r4
    have hp : countP l n = cntL n l := by
      unfold countP
      rw [if_neg (by rw [hr]; simp; omega)]
    have hq : countP l (n - 1) = cntL (n - 1) l := by
      unfold countP
      by_cases h3 : n - 1 < 1
      · rw [if_pos (.inr h3), cntL_zero h3 r4]
      · rw [if_neg (by rw [hr]; simp; omega)]
    have hh : hasP l n = memB n (ends l) := by
      unfold hasP
      rw [hr, Bool.true_and, decide_eq_true ⟨h1, h2⟩, Bool.true_and]
    rw [hp, hq, hs, hh]; omega
  have hb : ∀ {k : Int}, countP l k ≤ 320000 ∧ 0 ≤ countP l k := by
    intro k
    unfold countP
    split
    · omega
    · rename_i hk
      have hc : ∀ {l : List Sp}, (∀ p ∈ l, okS p) → 0 ≤ cntL k l ∧ cntL k l ≤ 10000 * l.length := by
        intro l
        induction l with
        | nil => intro _; simp [cntL]
        | cons p l ih =>
          intro hp
          have := ih fun q hq => hp q (List.mem_cons_of_mem _ hq)
          have ht := okS_to (hp p (by simp))
          have ho := (hp p (by simp)).1
          rw [cntL]
          unfold cnt1
          simp only [List.length_cons]
          omega
      have := hc r4
      omega
  have hb1 := hb (k := n)
  have hb2 := hb (k := n - 1)
  have hmid : 1 ≤ n → n ≤ 9999 → ∀ j6 : Int, j6 = (if hasP l n then 1 else 0) → (bindO (F21 l n) fun y8 =>
          bnd (IntKind.wrap .i64 (n - (1 : Int))) fun x9 =>
          bindO (F21 l x9) fun y10 =>
          bnd (IntKind.wrap .i64 (y8 - y10)) fun x11 =>
          cond (!decide (x11 = j6))
            (some false)
            (some true)) = some true := by
    rintro h1 h2 _ rfl
    rw [f21, bindO_some, bnd_eq, i64_wrap (n := n - 1) (by omega), f21, bindO_some, bnd_eq, i64_wrap (by omega), hcnt h1 h2, decide_eq_true rfl, Bool.not_true, cond_false]
  by_cases h1 : 1 ≤ n
  · rw [decide_eq_true h1, cond_true]
    by_cases h2 : n ≤ 9999
    · rw [decide_eq_true h2]
      simp only [cond_true]
      rw [jn_eq, f19, bindO_some]
      cases hh : hasP l n
      · rw [cond_false]; exact hmid h1 h2 _ (by rw [hh]; rfl)
      · rw [cond_true]; exact hmid h1 h2 _ (by rw [hh]; rfl)
    · rw [decide_eq_false h2]
      simp only [cond_false]
  · rw [decide_eq_false h1, cond_false]
    simp only [cond_false]

/-! ### which volumes are held -/
theorem has_of {L : List Sp} (hL : good 1 L) (h0 : (finish L).2 = 0) (n : Int) : rightP (finish L).1 = true ∧ hasP (finish L).1 n = (decide (1 ≤ n ∧ n ≤ 9999) && memB n L) := by
  obtain ⟨h1, h2⟩ := finish_ok hL h0
  refine ⟨h1, ?_⟩
  unfold hasP
  rw [h1, h2, Bool.true_and]

theorem add_has {l : List Sp} {a b : Int} (hr : rightP l = true) (hx : rangeB a b = true) (h0 : (addP l a b).2 = 0) (n : Int) : rightP (addP l a b).1 = true ∧ hasP (addP l a b).1 n = (hasP l n || (decide (a ≤ n) && (decide (n ≤ 9999) && (decide (b = 0) || decide (n ≤ b))))) := by
  obtain ⟨r1, r2, r3, r4⟩ := right_ok hr
  obtain ⟨x1, x2, x3⟩ := range_ok hx
  simp only [] at x1 x2 x3
  have hadd : addP l a b = finish (putGo (ends l) (a, if b = 0 then 10000 else b) false) := by simp [addP, hr, hx]
  rw [hadd] at h0 ⊢
  obtain ⟨g1, g2⟩ := good_put (x := (a, if b = 0 then 10000 else b)) r2 (by simp only []; omega) (by simp only []; split <;> omega) (by simp only []; omega) (by simp only []; split <;> omega)
  obtain ⟨h1, h2⟩ := has_of g1 h0 n
  refine ⟨h1, ?_⟩
  rw [h2]
  unfold hasP
  rw [hr, Bool.true_and, Bool.eq_iff_iff]
  simp only [Bool.and_eq_true, Bool.or_eq_true, decide_eq_true_eq, memB_iff, g2]
  by_cases hb : b = 0
  · simp only [hb, if_true, true_or, and_true]
    constructor
    · rintro ⟨⟨q1, q2⟩, q3 | q3⟩
      · exact .inl ⟨⟨q1, q2⟩, q3⟩
      · exact .inr ⟨q3.1, q2⟩
    · rintro (⟨⟨q1, q2⟩, q3⟩ | ⟨q1, q2⟩)
      · exact ⟨⟨q1, q2⟩, .inl q3⟩
      · exact ⟨⟨by omega, q2⟩, .inr ⟨q1, by omega⟩⟩
  · simp only [hb, if_false, false_or]
    constructor
    · rintro ⟨⟨q1, q2⟩, q3 | q3⟩
      · exact .inl ⟨⟨q1, q2⟩, q3⟩
      · exact .inr ⟨q3.1, q2, q3.2⟩
    · rintro (⟨⟨q1, q2⟩, q3⟩ | ⟨q1, q2, q3⟩)
      · exact ⟨⟨q1, q2⟩, .inl q3⟩
      · exact ⟨⟨by omega, q2⟩, .inr ⟨q1, by omega⟩⟩

theorem rem_has {l : List Sp} {a b : Int} (hr : rightP l = true) (hx : rangeB a b = true) (h0 : (remP l a b).2 = 0) (n : Int) : rightP (remP l a b).1 = true ∧ hasP (remP l a b).1 n = (hasP l n && !(decide (a ≤ n) && (decide (n ≤ 9999) && (decide (b = 0) || decide (n ≤ b))))) := by
  obtain ⟨r1, r2, r3, r4⟩ := right_ok hr
  obtain ⟨x1, x2, x3⟩ := range_ok hx
  simp only [] at x1 x2 x3
  have hrem : remP l a b = finish (cutL (ends l) (a, if b = 0 ∨ b = 9999 then 10000 else b)) := by simp [remP, hr, hx]
  rw [hrem] at h0 ⊢
  obtain ⟨g1, g2⟩ := good_cut (x := (a, if b = 0 ∨ b = 9999 then 10000 else b)) (by omega) r2 (by simp only []; split <;> omega) (by simp only []; split <;> omega)
  obtain ⟨h1, h2⟩ := has_of g1 h0 n
  refine ⟨h1, ?_⟩
  rw [h2]
  unfold hasP
  rw [hr, Bool.true_and, Bool.eq_iff_iff]
  simp only [Bool.and_eq_true, Bool.not_eq_true', decide_eq_true_eq, memB_iff, g2, Bool.and_eq_false_iff, Bool.or_eq_false_iff, decide_eq_false_iff_not]
  by_cases hb : b = 0
  · simp only [hb, true_or, if_true, not_true_eq_false, false_and, or_false]
    constructor
    · rintro ⟨⟨q1, q2⟩, q3, q4⟩; exact ⟨⟨⟨q1, q2⟩, q3⟩, .inl (by omega)⟩
    · rintro ⟨⟨⟨q1, q2⟩, q3⟩, q4⟩; exact ⟨⟨q1, q2⟩, q3, by omega⟩
  · by_cases hb9 : b = 9999
    · simp only [hb9, or_true, if_true]
      constructor
      · rintro ⟨⟨q1, q2⟩, q3, q4⟩; exact ⟨⟨⟨q1, q2⟩, q3⟩, .inl (by omega)⟩
      · rintro ⟨⟨⟨q1, q2⟩, q3⟩, q4⟩; exact ⟨⟨q1, q2⟩, q3, by omega⟩
    · simp only [hb, hb9, or_self, if_false, not_false_eq_true, true_and]
      constructor
      · rintro ⟨⟨q1, q2⟩, q3, q4⟩; exact ⟨⟨⟨q1, q2⟩, q3⟩, by omega⟩
      · rintro ⟨⟨⟨q1, q2⟩, q3⟩, q4⟩; exact ⟨⟨q1, q2⟩, q3, by omega⟩

theorem uni_has {l m : List Sp} (hl : rightP l = true) (hm : rightP m = true) (h0 : (uniP l m).2 = 0) (n : Int) : rightP (uniP l m).1 = true ∧ hasP (uniP l m).1 n = (hasP l n || hasP m n) := by
  obtain ⟨r1, r2, r3, r4⟩ := right_ok hl
  obtain ⟨s1, s2, s3, s4⟩ := right_ok hm
  have huni : uniP l m = finish (putAll (ends l) (ends m)) := by simp [uniP, hl, hm]
  rw [huni] at h0 ⊢
  have hx : ∀ x ∈ ends m, okX x := fun x hx => by
    have := good_mod (by omega) s2 x hx
    exact ⟨this.1, this.2.1, this.2.2.1, this.2.2.2.1⟩
  obtain ⟨g1, g2, g3⟩ := putAll_ok r2 hx
  obtain ⟨h1, h2⟩ := has_of g1 h0 n
  refine ⟨h1, ?_⟩
  rw [h2]
  unfold hasP
  rw [hl, hm, Bool.true_and, Bool.true_and, Bool.eq_iff_iff]
  simp only [Bool.and_eq_true, Bool.or_eq_true, decide_eq_true_eq, memB_iff, g3]
  grind

theorem law10 (l m : List Sp) (x : List Int) (hx3 : x.length = 3) : F10 l m x = some true := by
  obtain ⟨a, b, n, rfl⟩ : ∃ a b n, x = [a, b, n] := by
    match x, hx3 with
    | [a, b, n], _ => exact ⟨a, b, n, rfl⟩
  unfold F10
  rw [alive_end]
  by_cases h : 32 < l.length
  · rw [decide_eq_true (by omega), cond_true]
  rw [decide_eq_false (by omega), cond_false]
  by_cases h2 : 32 < m.length
  · rw [decide_eq_true (by omega), cond_true]
  rw [decide_eq_false (by omega), cond_false, f12, bindO_some]
  cases hl : rightP l
  · rfl
  rw [Bool.not_true, cond_false, f12, bindO_some]
  cases hm : rightP m
  · rfl
  rw [Bool.not_true, cond_false]
  have e0 : ([a, b, n] : List Int).getD (Int.toNat 0) 0 = a := rfl
  have e1 : ([a, b, n] : List Int).getD (Int.toNat 1) 0 = b := rfl
  have e2 : ([a, b, n] : List Int).getD (Int.toNat 2) 0 = n := rfl
  have gA : ∀ {β : Type} {k : Int} {y : Option β}, (k = 0 ∨ k = 1 ∨ k = 2) → gd (0 ≤ k ∧ k < (List.length ([a, b, n] : List Int) : Int)) y = y := fun h => gd_pos (by simp; omega)
  have gB : ∀ {β : Type} {k : Int} {y : Option β}, (k = 0 ∨ k = 1 ∨ k = 2) → gd (Int.toNat k < List.length ([a, b, n] : List Int)) y = y := fun h => gd_pos (by simp; omega)
  simp only [e0, e1, e2, gA (.inl rfl), gA (.inr (.inl rfl)), gA (.inr (.inr rfl)), gB (.inl rfl), gB (.inr (.inl rfl)), gB (.inr (.inr rfl)), f31, bindO_some]
  cases hx : rangeB a b
  · rfl
  rw [Bool.not_true, cond_false]
  have ha := add_has (n := n) hl hx
  have hr := rem_has (n := n) hl hx
  have hu := uni_has (n := n) hl hm
  have key : ∀ j9 : Bool × Bool, j9 = (hasP l n, (decide (a ≤ n) && (decide (n ≤ 9999) && (decide (b = 0) || decide (n ≤ b))))) →
      (bindO (F25 l a b) fun y11 =>
            jn (σ := Unit) (fun nextj12 =>
              cond (decide (y11.2 = (0 : Int)))
                (bindO (F12 y11.1) fun y13 =>
                cond (!y13)
                  (some false)
                  (bindO (F19 y11.1 n) fun y14 =>
                  cond (j9.1)
                    (cond (!(y14 == true))
                      (some false)
                      (nextj12 ()))
                    (cond (!(y14 == j9.2))
                      (some false)
                      (nextj12 ()))))
                (nextj12 ())) fun j12 =>
            bindO (F27 l a b) fun y15 =>
            jn (σ := Unit) (fun nextj16 =>
              cond (decide (y15.2 = (0 : Int)))
                (bindO (F12 y15.1) fun y17 =>
                cond (!y17)
                  (some false)
                  (bindO (F19 y15.1 n) fun y18 =>
                  cond (j9.1)
                    (cond (!(y18 == (!j9.2)))
                      (some false)
                      (nextj16 ()))
                    (cond (!(y18 == false))
                      (some false)
                      (nextj16 ()))))
                (nextj16 ())) fun j16 =>
            bindO (F29 l m) fun y19 =>
            cond (decide (y19.2 = (0 : Int)))
              (bindO (F12 y19.1) fun y20 =>
              cond (!y20)
                (some false)
                (bindO (F19 y19.1 n) fun y21 =>
                cond (j9.1)
                  (cond (!(y21 == true))
                    (some false)
                    (some true))
                  (bindO (F19 m n) fun y23 =>
                  cond (!(y21 == y23))
                    (some false)
                    (some true))))
              (some true)) = some true := by
    rintro _ rfl
    simp only [jn_eq, f25, f27, f29, f12, f19, bindO_some]
    generalize (decide (a ≤ n) && (decide (n ≤ 9999) && (decide (b = 0) || decide (n ≤ b)))) = inn at ha hr ⊢
    have s3 : (cond (decide ((uniP l m).2 = (0 : Int))) (cond (!rightP (uniP l m).1) (some false) (cond (hasP l n) (cond (!(hasP (uniP l m).1 n == true)) (some false) (some true)) (cond (!(hasP (uniP l m).1 n == hasP m n)) (some false) (some true)))) (some true)) = some true := by
      by_cases h0 : (uniP l m).2 = 0
      · obtain ⟨u1, u2⟩ := hu h0
        rw [decide_eq_true h0, cond_true, u1, u2]
        cases hasP l n <;> cases hasP m n <;> rfl
      · rw [decide_eq_false h0]; rfl
    rw [s3]
    have s2 : (cond (decide ((remP l a b).2 = (0 : Int))) (cond (!rightP (remP l a b).1) (some false) (cond (hasP l n) (cond (!(hasP (remP l a b).1 n == !inn)) (some false) (some true)) (cond (!(hasP (remP l a b).1 n == false)) (some false) (some true)))) (some true)) = some true := by
      by_cases h0 : (remP l a b).2 = 0
      · obtain ⟨u1, u2⟩ := hr h0
        rw [decide_eq_true h0, cond_true, u1, u2]
        cases hasP l n <;> cases inn <;> rfl
      · rw [decide_eq_false h0]; rfl
    rw [s2]
    by_cases h0 : (addP l a b).2 = 0
    · obtain ⟨u1, u2⟩ := ha h0
      rw [decide_eq_true h0, cond_true, u1, u2]
      cases hasP l n <;> cases inn <;> rfl
    · rw [decide_eq_false h0]; rfl
  rw [jn_eq, f19, bindO_some]
  by_cases c1 : a ≤ n
  · rw [decide_eq_true c1, cond_true]
    by_cases c2 : n ≤ 9999
    · rw [decide_eq_true c2, cond_true]
      by_cases c3 : b = 0
      · rw [decide_eq_true c3, cond_true]
        exact key _ (by rw [decide_eq_true c1, decide_eq_true c2, decide_eq_true c3]; rfl)
      · rw [decide_eq_false c3, cond_false]
        exact key _ (by rw [decide_eq_true c1, decide_eq_true c2, decide_eq_false c3]; rfl)
    · rw [decide_eq_false c2, cond_false]
      exact key _ (by rw [decide_eq_true c1, decide_eq_false c2]; rfl)
  · rw [decide_eq_false c1, cond_false]
    exact key _ (by rw [decide_eq_false c1]; rfl)
end Go.Proofs.YtdffccmlfhdkpaaDoor
