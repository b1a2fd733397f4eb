/-
  Chapter 17: texts: decimals, Print, numbers, blanks.
-/
import Derived.Test.YtdffccmlfhdkpaaDoorD
namespace Go.Proofs.YtdffccmlfhdkpaaDoor
open Go Go.Nu

theorem u8_wrap {n : Int} (h : 0 ≤ n ∧ n ≤ 255) : IntKind.u8.wrap n = n := by rw [IntKind.wrap_u8]; omega

/-! ### decimals -/
theorem dec_lt {u : Nat} (h : u < 10) : Lib.decDigits u = [UInt8.ofNat (48 + u)] := by rw [Lib.decDigits, dif_pos h]
theorem dec_ge {u : Nat} (h : ¬ u < 10) : Lib.decDigits u = Lib.decDigits (u / 10) ++ [UInt8.ofNat (48 + u % 10)] := by rw [Lib.decDigits, dif_neg h]
theorem dec_len (u : Nat) : (Lib.decDigits u).length ≤ u + 1 := by
  induction u using Nat.strongRecOn with
  | _ u ih =>
    by_cases h : u < 10
    · rw [dec_lt h]; simp
    · rw [dec_ge h, List.length_append]
      have := ih (u / 10) (by omega)
      simp only [List.length_singleton]
      omega
theorem itoa_nat (n : Nat) : Lib.itoa (n : Int) = Lib.decDigits n := by
  unfold Lib.itoa
  rw [if_neg (by omega)]
  simp

theorem f35 (n : Nat) (hn : n ≤ 10000) : F35 (n : Int) = some (Lib.decDigits n) := by
  unfold F35
  refine loopK_rule (fun x => ∃ m : Nat, x.1 = m ∧ m + x.2.length ≤ n ∧ Lib.decDigits n = Lib.decDigits m ++ x.2) (fun x => x.1.toNat) ⟨n, rfl, by simp, by simp⟩ rfl ?_
  rintro ⟨m', s⟩ again ⟨m, hm, hl, hd⟩ hag
  simp only [] at hm hl hd
  subst hm
  simp only []
  have hb : s.length + 1 ≤ big := by unfold big; omega
  by_cases h10 : 10 ≤ m
  · have e1 : Int.tmod (m : Int) 10 = ((m % 10 : Nat) : Int) := by rw [Int.tmod_eq_emod_of_nonneg (by omega)]; omega
    have e2 : Int.tdiv (m : Int) 10 = ((m / 10 : Nat) : Int) := by rw [Int.tdiv_eq_ediv_of_nonneg (by omega)]; omega
    have e3 : ((48 : Int) + ((m % 10 : Nat) : Int)).toNat = 48 + m % 10 := by omega
    rw [decide_eq_true (by omega), cond_true, gd_pos (by omega), bnd_eq, bnd_eq, e1, i64_wrap (by omega), u8_wrap (by omega), gd_pos (by omega), e3, gd_pos (by simp; omega), bnd_eq, gd_pos (by omega), bnd_eq, e2, i64_wrap (by omega)]
    refine hag _ ⟨m / 10, rfl, by simp; omega, ?_⟩ (by simp; omega)
    rw [hd, dec_ge (by omega)]; simp
  · have e3 : ((48 : Int) + (m : Int)).toNat = 48 + m := by omega
    rw [decide_eq_false (by omega), cond_false, bnd_eq, i64_wrap (by omega), u8_wrap (by omega), gd_pos (by omega), e3, gd_pos (by simp; omega), bnd_eq, hd, dec_lt (by omega)]

/-! ### Print -/
def itemT (p : Sp) : List UInt8 := Lib.itoa p.1 ++ (if p.2 = 0 then [45] else if p.1 < p.2 then 45 :: Lib.itoa p.2 else [])
def printP (l : List Sp) : List UInt8 := if rightP l then Lib.join (l.map itemT) [44, 32] else []

theorem itoa_len {n : Int} (h0 : 0 ≤ n) (h1 : n ≤ 9999) : (Lib.itoa n).length ≤ 10000 := by
  obtain ⟨m, rfl⟩ : ∃ m : Nat, n = m := ⟨n.toNat, by omega⟩
  rw [itoa_nat]
  have := dec_len m
  omega
theorem itemT_len {p : Sp} (h : okS p) : (itemT p).length ≤ 20001 := by
  obtain ⟨h1, h2, h3⟩ := h
  have e1 := itoa_len (n := p.1) (by omega) (by omega)
  unfold itemT
  rw [List.length_append]
  split
  · simp; omega
  · have e2 := itoa_len (n := p.2) (by omega) (by omega)
    split
    · simp; omega
    · simp; omega
theorem join_snoc (xs : List (List UInt8)) (x s : List UInt8) : Lib.join (xs ++ [x]) s = if xs = [] then x else Lib.join xs s ++ s ++ x := by
  cases xs with
  | nil => simp [Lib.join_one]
  | cons y r =>
    rw [List.cons_append, Lib.join_cons, Lib.join_cons, if_neg (by simp)]
    simp [Lib.joinTail]
theorem join_len {xs : List (List UInt8)} (h : ∀ x ∈ xs, x.length ≤ 20001) : (Lib.join xs [44, 32]).length ≤ 20003 * xs.length := by
  cases xs with
  | nil => simp [Lib.join_nil]
  | cons x r =>
    rw [Lib.join_cons, List.length_append]
    have h1 := h x (by simp)
    have : (Lib.joinTail [44, 32] r).length ≤ 20003 * r.length := by
      have hr : ∀ y ∈ r, y.length ≤ 20001 := fun y hy => h y (List.mem_cons_of_mem _ hy)
      clear h h1
      induction r with
      | nil => simp [Lib.joinTail]
      | cons y r ih =>
        have := ih fun z hz => hr z (List.mem_cons_of_mem _ hz)
        have h2 := hr y (by simp)
        unfold Lib.joinTail at this ⊢
        simp only [List.map_cons, List.flatten_cons, List.length_append, List.length_cons, List.length_nil] at this ⊢
        omega
    simp only [List.length_cons]
    omega

theorem fItoa_ok {n : Int} (h : -1000000 ≤ n ∧ n ≤ 1000000) : fItoa n = some (Lib.itoa n) := by unfold fItoa; rw [if_pos (by omega)]

theorem f14 (l : List Sp) : F14 l = some (printP l) := by
  unfold F14 printP
  simp only [f12, bindO_some]
  cases hr : rightP l
  · simp
  obtain ⟨r1, r2, r3, r4⟩ := right_ok hr
  simp only [Bool.not_true, cond_false, if_true, gdN_self]
  refine loopK_rule (fun z => ∃ i : Nat, z = ((l.take i).map itemT, (i : Int)) ∧ i ≤ l.length) (fun z => l.length - z.2.toNat) ⟨0, rfl, by omega⟩ rfl ?_
  rintro z again ⟨i, rfl, hi⟩ hag
  simp only []
  have hol : ((l.take i).map itemT).length = i := by simp; omega
  by_cases hlt : i < l.length
  · have hok := r4 _ (getD_mem' hlt)
    have hnext : again ((l.take (i + 1)).map itemT, (i : Int) + 1) = some (Lib.join (l.map itemT) [44, 32]) := hag _ ⟨i + 1, by simp, by omega⟩ (by simp; omega)
    rw [take_map_succ itemT (0, 0) hlt] at hnext
    rw [decide_eq_true (by omega), cond_true, gd_pos (by omega), Int.toNat_natCast]
    obtain ⟨p, hp⟩ : ∃ p : Sp, l.getD i (0, 0) = p := ⟨_, rfl⟩
    rw [hp] at hok hnext ⊢
    have hit := itemT_len hok
    obtain ⟨o1, o2, o3⟩ := hok
    have e1 := itoa_len (n := p.1) (by omega) (by omega)
    have hb : 100000 ≤ big := by unfold big; omega
    rw [fItoa_ok (by omega), bindO_some]
    unfold itemT at hnext
    by_cases h0 : p.2 = 0
    · rw [decide_eq_true h0, cond_true, gd_pos (by simp; omega), bnd_eq, gd_pos (by rw [hol]; simp; omega), bnd_eq, bnd_eq, i64_wrap (by omega)]
      rw [if_pos h0] at hnext
      exact hnext
    · have e2 := itoa_len (n := p.2) (by omega) (by omega)
      rw [decide_eq_false h0, cond_false]
      rw [if_neg h0] at hnext
      by_cases h1 : p.1 < p.2
      · rw [decide_eq_true h1, cond_true, fItoa_ok (by omega), bindO_some, gd_pos (by simp; omega), bnd_eq, gd_pos (by simp; omega), bnd_eq, gd_pos (by rw [hol]; simp; omega), bnd_eq, bnd_eq, i64_wrap (by omega)]
        rw [if_pos h1] at hnext
        exact hnext
      · rw [decide_eq_false h1, cond_false, gd_pos (by rw [hol]; simp; omega), bnd_eq, bnd_eq, i64_wrap (by omega)]
        rw [if_neg h1, List.append_nil] at hnext
        exact hnext
  · rw [decide_eq_false (by omega), cond_false, List.take_of_length_le (by omega)]
    have hj := join_len (xs := l.map itemT) fun x hx => by
      obtain ⟨p, hp, rfl⟩ := List.mem_map.1 hx
      exact itemT_len (r4 p hp)
    rw [List.length_map] at hj
    unfold fJoin
    rw [if_pos ⟨by rw [List.length_map]; omega, by omega⟩]
    rfl

theorem f35' {n : Int} (h0 : 0 ≤ n) (h1 : n ≤ 9999) : F35 n = some (Lib.itoa n) := by
  obtain ⟨m, rfl⟩ : ∃ m : Nat, n = m := ⟨n.toNat, by omega⟩
  rw [itoa_nat, f35 m (by omega)]

theorem f15 (l : List Sp) : F15 l = some (printP l) := by
  unfold F15 printP
  simp only [f13, bindO_some]
  cases hr : rightP l
  · simp
  obtain ⟨r1, r2, r3, r4⟩ := right_ok hr
  simp only [Bool.not_true, cond_false, if_true]
  refine loopK_rule (fun z => ∃ i : Nat, z = (Lib.join ((l.take i).map itemT) [44, 32], (i : Int)) ∧ i ≤ l.length) (fun z => l.length - z.2.toNat) ⟨0, rfl, by omega⟩ rfl ?_
  rintro z again ⟨i, rfl, hi⟩ hag
  simp only []
  have hj := join_len (xs := (l.take i).map itemT) fun x hx => by
    obtain ⟨p, hp, rfl⟩ := List.mem_map.1 hx
    exact itemT_len (r4 p (List.mem_of_mem_take hp))
  rw [List.length_map, List.length_take] at hj
  by_cases hlt : i < l.length
  · have hok := r4 _ (getD_mem' hlt)
    have hnext : again (Lib.join ((l.take (i + 1)).map itemT) [44, 32], (i : Int) + 1) = some (Lib.join (l.map itemT) [44, 32]) := hag _ ⟨i + 1, by simp, by omega⟩ (by simp; omega)
    rw [take_map_succ itemT (0, 0) hlt, join_snoc] at hnext
    have he : ((l.take i).map itemT = []) ↔ i = 0 := by
      rw [List.map_eq_nil_iff, List.take_eq_nil_iff]
      constructor
      · rintro (h | h)
        · exact h
        · subst h; simp at hlt
      · exact .inl
    rw [decide_eq_true (by omega), cond_true, Int.toNat_natCast]
    obtain ⟨p, hp⟩ : ∃ p : Sp, l.getD i (0, 0) = p := ⟨_, rfl⟩
    rw [hp] at hok hnext ⊢
    obtain ⟨o1, o2, o3⟩ := hok
    have e1 := itoa_len (n := p.1) (by omega) (by omega)
    have hb : 10000000 ≤ big := by unfold big; omega
    have key : ∀ j3 : List UInt8, j3.length ≤ 1000000 → (if ((l.take i).map itemT) = [] then itemT p else Lib.join ((l.take i).map itemT) [44, 32] ++ [44, 32] ++ itemT p) = j3 ++ itemT p →
        (gd (0 ≤ (i : Int) ∧ (i : Int) < (List.length l : Int)) <|
        bindO (F35 p.1) fun y5 =>
        gd (List.length j3 + List.length y5 ≤ big) <|
        bnd (j3 ++ y5) fun x6 =>
        gd (0 ≤ (i : Int) ∧ (i : Int) < (List.length l : Int)) <|
        gd (0 ≤ (i : Int) ∧ (i : Int) < (List.length l : Int)) <|
        cond (!decide (p.2 = p.1))
          (gd (List.length x6 + List.length ([45] : List UInt8) ≤ big) <|
          bnd (x6 ++ ([45] : List UInt8)) fun x7 =>
          gd (0 ≤ (i : Int) ∧ (i : Int) < (List.length l : Int)) <|
          cond (!decide (p.2 = (0 : Int)))
            (gd (0 ≤ (i : Int) ∧ (i : Int) < (List.length l : Int)) <|
            bindO (F35 p.2) fun y8 =>
            gd (List.length x7 + List.length y8 ≤ big) <|
            bnd (x7 ++ y8) fun x9 =>
            bnd (IntKind.wrap .i64 ((i : Int) + (1 : Int))) fun x10 =>
            again (x9, x10))
            (bnd (IntKind.wrap .i64 ((i : Int) + (1 : Int))) fun x11 =>
            again (x7, x11)))
          (bnd (IntKind.wrap .i64 ((i : Int) + (1 : Int))) fun x12 =>
          again (x6, x12))) = some (Lib.join (l.map itemT) [44, 32]) := by
      intro j3 hj3 hjx
      rw [hjx] at hnext
      generalize Lib.join (l.map itemT) [44, 32] = R at hnext ⊢
      unfold itemT at hnext
      rw [gd_pos (by omega), f35' (by omega) (by omega), bindO_some, gd_pos (by omega), bnd_eq, gd_pos (by omega), gd_pos (by omega)]
      by_cases h0 : p.2 = 0
      · rw [decide_eq_false (show ¬ p.2 = p.1 by omega), Bool.not_false, cond_true, gd_pos (by simp; omega), bnd_eq, gd_pos (by omega), decide_eq_true h0, Bool.not_true, cond_false, bnd_eq, i64_wrap (by omega)]
        rw [if_pos h0] at hnext
        rw [List.append_assoc]
        exact hnext
      · have e2 := itoa_len (n := p.2) (by omega) (by omega)
        rw [if_neg h0] at hnext
        by_cases h1 : p.1 < p.2
        · rw [decide_eq_false (show ¬ p.2 = p.1 by omega), Bool.not_false, cond_true, gd_pos (by simp; omega), bnd_eq, gd_pos (by omega), decide_eq_false h0, Bool.not_false, cond_true, gd_pos (by omega), f35' (by omega) (by omega), bindO_some, gd_pos (by simp; omega), bnd_eq, bnd_eq, i64_wrap (by omega)]
          rw [if_pos h1] at hnext
          simpa using hnext
        · rw [decide_eq_true (show p.2 = p.1 by omega), Bool.not_true, cond_false, bnd_eq, i64_wrap (by omega)]
          rw [if_neg h1, List.append_nil] at hnext
          exact hnext
    by_cases h0 : 0 < i
    · rw [decide_eq_true (by omega), jn_eq, cond_true, gd_pos (by simp only [List.length_cons, List.length_nil]; omega), bnd_eq]
      exact key _ (by simp only [List.length_append, List.length_cons, List.length_nil]; omega) (by rw [if_neg (by rw [he]; omega)])
    · have : i = 0 := by omega
      subst this
      rw [decide_eq_false (by omega), jn_eq, cond_false]
      exact key _ (by simp [Lib.join_nil]) (by simp [Lib.join_nil])
  · rw [decide_eq_false (by omega), cond_false, List.take_of_length_le (by omega)]
end Go.Proofs.YtdffccmlfhdkpaaDoor
