/-
  Chapter 4: amounts as texts.
-/
import Derived.Test.YtekgjongmjnoaaaDoorC
namespace Go.Proofs.YtekgjongmjnoaaaDoor
open Go Go.Nu

theorem dec_lt {u : Nat} (h : u < 10) : Lib.decDigits u = [UInt8.ofNat (48 + u)] := by rw [Lib.decDigits, dif_pos h]
theorem dec_ge {u : Nat} (h : ¬ u < 10) : Lib.decDigits u = Lib.decDigits (u / 10) ++ [UInt8.ofNat (48 + u % 10)] := by rw [Lib.decDigits, dif_neg h]
theorem dec_len (u : Nat) : (Lib.decDigits u).length ≤ u + 1 := by
  induction u using Nat.strongRecOn with
  | _ u ih =>
    by_cases h : u < 10
    · rw [dec_lt h]; simp
    · rw [dec_ge h, List.length_append]
      have := ih (u / 10) (by omega)
      simp only [List.length_singleton]
      omega
theorem itoa_nat (n : Nat) : Lib.itoa (n : Int) = Lib.decDigits n := by
  unfold Lib.itoa
  rw [if_neg (by omega)]
  simp
def isD (c : UInt8) : Bool := decide (48 ≤ c.toNat ∧ c.toNat ≤ 57)
def valN (n : Nat) (s : List UInt8) : Nat := s.foldl (fun n c => n * 10 + (c.toNat - 48)) n
theorem valN_ge : ∀ (s : List UInt8) (n : Nat), n ≤ valN n s
  | [], n => Nat.le_refl _
  | c :: r, n => by
    have := valN_ge r (n * 10 + (c.toNat - 48))
    show n ≤ valN (n * 10 + (c.toNat - 48)) r
    omega
theorem parse_val : ∀ (s : List UInt8) (n : Nat), s.all isD = true → (Lib.parseUint10 n s = .ok (valN n s)) ∨ (Lib.parseUint10 n s = .range ∧ 18446744073709551616 ≤ valN n s)
  | [], n, _ => .inl rfl
  | c :: r, n, h => by
    rw [List.all_cons, Bool.and_eq_true] at h
    have hc : 48 ≤ c.toNat ∧ c.toNat ≤ 57 := by simpa [isD] using h.1
    unfold Lib.parseUint10
    rw [if_pos hc]
    have hge := valN_ge r (n * 10 + (c.toNat - 48))
    have hv : valN n (c :: r) = valN (n * 10 + (c.toNat - 48)) r := rfl
    rw [hv]
    split
    · exact .inr ⟨rfl, by omega⟩
    · split
      · exact .inr ⟨rfl, by omega⟩
      · exact parse_val r _ h.2
theorem digs_contains (c : UInt8) : ([48, 49, 50, 51, 52, 53, 54, 55, 56, 57] : List UInt8).contains c = isD c := by
  rw [Bool.eq_iff_iff]
  simp only [List.contains_eq_mem, decide_eq_true_eq, List.mem_cons, List.not_mem_nil, or_false, isD, ← UInt8.toNat_inj]
  show (c.toNat = 48 ∨ c.toNat = 49 ∨ c.toNat = 50 ∨ c.toNat = 51 ∨ c.toNat = 52 ∨ c.toNat = 53 ∨ c.toNat = 54 ∨ c.toNat = 55 ∨ c.toNat = 56 ∨ c.toNat = 57) ↔ _
  omega
theorem dropWhile_nil {p : UInt8 → Bool} : ∀ {l : List UInt8}, l.dropWhile p = [] ↔ l.all p = true
  | [] => by simp
  | c :: l => by
    rw [List.dropWhile_cons, List.all_cons]
    cases hc : p c
    · simp
    · simp only [if_true, Bool.true_and]
      exact dropWhile_nil
theorem trim_digs (s : List UInt8) : Lib.trimS s [48, 49, 50, 51, 52, 53, 54, 55, 56, 57] = [] ↔ s.all isD = true := by
  unfold Lib.trimS Lib.trimLeftS Lib.trimRightS
  have e : (fun x => ([48, 49, 50, 51, 52, 53, 54, 55, 56, 57] : List UInt8).contains x) = isD := funext digs_contains
  rw [e, dropWhile_nil, List.all_reverse]
  constructor
  · intro h
    -- what is left behind trimming on the right ends with a byte that is none
    have key : ∀ l : List UInt8, (l.dropWhile isD).all isD = true → l.all isD = true := by
      intro l
      induction l with
      | nil => intro _; rfl
      | cons c l ih =>
        rw [List.dropWhile_cons]
        cases hc : isD c
        · intro h; simp [hc] at h
        · intro h
          rw [List.all_cons, hc, Bool.true_and]
          exact ih (by simpa using h)
    have := key s.reverse h
    rwa [List.all_reverse] at this
  · intro h
    have : s.reverse.dropWhile isD = [] := dropWhile_nil.2 (by rw [List.all_reverse]; exact h)
    rw [this]; rfl
theorem atoi_digits {s : List UInt8} (h0 : s ≠ []) (hd : s.all isD = true) : atoiN s = ((valN 0 s : Int), none) ∨ (100000001 ≤ valN 0 s ∧ ∃ v x, atoiN s = (v, some x)) := by
  obtain ⟨c, r, rfl⟩ : ∃ c r, s = c :: r := by cases s with | nil => exact (h0 rfl).elim | cons c r => exact ⟨c, r, rfl⟩
  have hcd : 48 ≤ c.toNat ∧ c.toNat ≤ 57 := by
    rw [List.all_cons, Bool.and_eq_true] at hd
    simpa [isD] using hd.1
  have ha : Lib.atoiAll (c :: r) = match Lib.parseUint10 0 (c :: r) with
      | .ok u => if 9223372036854775808 ≤ u then .range else .ok (u : Int)
      | .range => .range
      | _ => Lib.atoiAll [] := by
    unfold Lib.atoiAll
    simp only []
    rw [if_neg (show ¬ (c.toNat = 43 ∨ c.toNat = 45) by omega)]
    unfold Lib.parseMag
    rw [if_neg (by simp)]
    cases Lib.parseUint10 0 (c :: r) with
    | range => rfl
    | ok u =>
      simp only []
      by_cases hb : 9223372036854775808 ≤ u
      · rw [if_pos ⟨by omega, hb⟩, if_pos hb]
      · rw [if_neg (by omega), if_neg (by omega), if_neg (by omega), if_neg hb]
    | _ => rfl
  unfold atoiN
  rw [ha]
  rcases parse_val (c :: r) 0 hd with hp | ⟨hp, hge⟩
  · rw [hp]
    simp only []
    by_cases hb : 9223372036854775808 ≤ valN 0 (c :: r)
    · rw [if_pos hb]
      exact .inr ⟨by omega, _, _, rfl⟩
    · rw [if_neg hb]
      exact .inl rfl
  · rw [hp]
    exact .inr ⟨by omega, _, _, rfl⟩
def findN (s : List UInt8) (c : UInt8) : Nat := (s.takeWhile (fun x => !(x == c))).length
theorem findN_cons (x : UInt8) (s : List UInt8) (c : UInt8) : findN (x :: s) c = if x = c then 0 else findN s c + 1 := by
  unfold findN
  rw [List.takeWhile_cons]
  by_cases h : x = c
  · simp [h]
  · simp [h]
theorem findN_le (s : List UInt8) (c : UInt8) : findN s c ≤ s.length := by
  induction s with
  | nil => simp [findN]
  | cons x s ih => rw [findN_cons]; split <;> simp <;> omega
theorem index_one (c : UInt8) : ∀ s : List UInt8, Lib.index s [c] = if findN s c < s.length then (findN s c : Int) else -1
  | [] => by simp [Lib.index, findN]
  | x :: s => by
    rw [Lib.index, findN_cons, index_one c s]
    by_cases h : x = c
    · subst h; simp [List.isPrefixOf]
    · have : ([c] : List UInt8).isPrefixOf (x :: s) = false := by
        simp [List.isPrefixOf]
        exact fun e => h e.symm
      rw [this, if_neg h, if_neg (by simp)]
      by_cases h2 : findN s c < s.length
      · have h3 : findN s c + 1 < (x :: s).length := by simp; omega
        have : ((findN s c : Int) == -1) = false := by rw [beq_eq_false_iff_ne]; omega
        rw [if_pos h2, if_pos h3, this]; simp
      · have h3 : ¬ findN s c + 1 < (x :: s).length := by simp; omega
        rw [if_neg h2, if_neg h3]; rfl
theorem cut_one (s : List UInt8) (c : UInt8) : Lib.cut s [c] = if findN s c < s.length then (s.take (findN s c), s.drop (findN s c + 1), true) else (s, [], false) := by
  unfold Lib.cut
  rw [index_one]
  by_cases h : findN s c < s.length
  · rw [if_pos h, if_pos h, if_pos (by omega), Int.toNat_natCast]; rfl
  · rw [if_neg h, if_neg h, if_neg (by omega)]
/-- Digits of a number: they spell it. -/
theorem dec_digits (u : Nat) : (Lib.decDigits u).all isD = true ∧ valN 0 (Lib.decDigits u) = u ∧ Lib.decDigits u ≠ [] ∧ (u ≠ 0 → (Lib.decDigits u).head? ≠ some 48) := by
  induction u using Nat.strongRecOn with
  | _ u ih =>
    have hb : ∀ k, k < 10 → (UInt8.ofNat (48 + k)).toNat = 48 + k := by
      intro k hk
      rw [UInt8.toNat_ofNat']
      omega
    by_cases h : u < 10
    · rw [dec_lt h]
      have e := hb u h
      refine ⟨by simp [isD, e]; omega, by simp only [valN, List.foldl_cons, List.foldl_nil, e]; omega, by simp, fun h0 => ?_⟩
      simp only [List.head?_cons, ne_eq, Option.some.injEq, ← UInt8.toNat_inj, e]
      show ¬ (48 + u = 48)
      omega
    · obtain ⟨i1, i2, i3, i4⟩ := ih (u / 10) (by omega)
      rw [dec_ge h]
      have e := hb (u % 10) (by omega)
      refine ⟨by simp [isD, e, i1]; omega, ?_, by simp, fun _ => ?_⟩
      · unfold valN at i2 ⊢
        rw [List.foldl_append, i2]
        simp [e]; omega
      · obtain ⟨c, r, hr⟩ : ∃ c r, Lib.decDigits (u / 10) = c :: r := by
          cases hx : Lib.decDigits (u / 10) with
          | nil => exact (i3 hx).elim
          | cons c r => exact ⟨c, r, rfl⟩
        have := i4 (by omega)
        rw [hr] at this ⊢
        simpa using this
theorem findN_all {a : List UInt8} {c : UInt8} (h : ∀ x ∈ a, x ≠ c) (b : List UInt8) : findN (a ++ b) c = a.length + findN b c := by
  induction a with
  | nil => simp
  | cons x a ih =>
    rw [List.cons_append, findN_cons, if_neg (h x (by simp)), ih fun y hy => h y (List.mem_cons_of_mem _ hy)]
    simp only [List.length_cons]; omega
theorem digits_no {a : List UInt8} (h : a.all isD = true) {c : UInt8} (hc : isD c = false) : ∀ x ∈ a, x ≠ c := fun x hx e => by
  rw [List.all_eq_true] at h
  have := h x hx
  rw [e, hc] at this; cases this

/-! ### Format -/
theorem digit_of {d : Nat} (h : d < 10) : List.drop d (List.take (d + 1) ([48, 49, 50, 51, 52, 53, 54, 55, 56, 57] : List UInt8)) = [UInt8.ofNat (48 + d)] := by
  have : ∀ d : Fin 10, List.drop d.1 (List.take (d.1 + 1) ([48, 49, 50, 51, 52, 53, 54, 55, 56, 57] : List UInt8)) = [UInt8.ofNat (48 + d.1)] := by decide
  exact this ⟨d, h⟩
def pad (w : Nat) (s : List UInt8) : List UInt8 := List.replicate (w - s.length) 48 ++ s
theorem dec_ne (u : Nat) : Lib.decDigits u ≠ [] := (dec_digits u).2.2.1

theorem f29 (n w : Nat) (hn : n ≤ 100000000) (hw : w ≤ 100) : F29 (n : Int) (w : Int) = some (pad w (Lib.decDigits n)) := by
  unfold F29
  have hdl := dec_len n
  refine loopK_rule (fun x => ∃ m : Nat, x.1 = m ∧ m + x.2.length ≤ n + 1 ∧ ((m = 0 ∧ x.2 = Lib.decDigits n) ∨ ((0 < m ∨ x.2 = []) ∧ m + x.2.length ≤ n ∧ Lib.decDigits n = Lib.decDigits m ++ x.2))) (fun x => 2 * x.1.toNat + (if x.2 = [] then 1 else 0)) ⟨n, rfl, by simp, .inr ⟨.inr rfl, by simp, by simp⟩⟩ rfl ?_
  rintro ⟨m', s⟩ again ⟨m, hm, hl0, hd⟩ hag
  simp only [] at hm hl0 hd
  subst hm
  simp only []
  have hb : s.length + 1 ≤ big := by unfold big; omega
  rcases hd with ⟨rfl, hs⟩ | ⟨h0, hl, hd⟩
  · have hne : s ≠ [] := by rw [hs]; exact dec_ne n
    rw [jn_eq, decide_eq_false (by omega), cond_false, decide_eq_false hne, cond_false]
    refine loopK_rule (fun x => ∃ k : Nat, x = List.replicate k 48 ++ s ∧ (k = 0 ∨ k + s.length ≤ w)) (fun x => w - x.length) ⟨0, by simp, by omega⟩ rfl ?_
    rintro x again2 ⟨k, rfl, hk⟩ hag2
    by_cases hlt : k + s.length < w
    · have hb2 : 1 + (k + s.length) ≤ big := by unfold big; omega
      rw [decide_eq_true (by simp; omega), cond_true, gd_pos (by simpa using hb2), bnd_eq]
      refine hag2 _ ⟨k + 1, by simp [List.replicate_succ], by omega⟩ (by simp; omega)
    · rw [decide_eq_false (by simp; omega), cond_false]
      have : k = w - s.length := by omega
      unfold pad
      rw [← hs, this]
  · have e1 : Int.tmod (m : Int) 10 = ((m % 10 : Nat) : Int) := by rw [Int.tmod_eq_emod_of_nonneg (by omega)]; omega
    have e2 : Int.tdiv (m : Int) 10 = ((m / 10 : Nat) : Int) := by rw [Int.tdiv_eq_ediv_of_nonneg (by omega)]; omega
    have e3 : (((m % 10 : Nat) : Int) + 1).toNat = m % 10 + 1 := by omega
    have key : ∀ nx : Unit → Option (List UInt8), nx () = some (pad w (Lib.decDigits n)) → (cond (decide ((0 : Int) < (m : Int))) (nx ()) (cond (decide (s = ([] : List UInt8))) (nx ()) (none : Option (List UInt8)))) = some (pad w (Lib.decDigits n)) := by
      intro nx hnx
      by_cases hp : 0 < m
      · rw [decide_eq_true (by omega), cond_true, hnx]
      · rw [decide_eq_false (by omega), cond_false, decide_eq_true (h0.resolve_left hp), cond_true, hnx]
    have fin : (gd ((10 : Int) ≠ 0) <|
    bnd (Int.tmod (m : Int) (10 : Int)) fun x5 =>
    gd ((10 : Int) ≠ 0) <|
    bnd (Int.tmod (m : Int) (10 : Int)) fun x6 =>
    bnd (IntKind.wrap .i64 (x6 + (1 : Int))) fun x7 =>
    gd (0 ≤ x5 ∧ x5 ≤ x7 ∧ x7 ≤ (List.length ([48, 49, 50, 51, 52, 53, 54, 55, 56, 57] : List UInt8) : Int)) <|
    bnd (List.drop (Int.toNat x5) (List.take (Int.toNat x7) ([48, 49, 50, 51, 52, 53, 54, 55, 56, 57] : List UInt8))) fun x8 =>
    gd (List.length x8 + List.length s ≤ big) <|
    bnd (x8 ++ s) fun x9 =>
    gd ((10 : Int) ≠ 0) <|
    bnd (IntKind.wrap .i64 (Int.tdiv (m : Int) (10 : Int))) fun x10 =>
    again (x10, x9)) = some (pad w (Lib.decDigits n)) := by
      simp only [bnd_eq]
      rw [gd_pos (by omega), gd_pos (by omega), e1, i64_wrap (by omega), gd_pos (by simp; omega), Int.toNat_natCast, e3, digit_of (by omega), gd_pos (by simp; omega), gd_pos (by omega), e2, i64_wrap (by omega)]
      refine hag _ ⟨m / 10, rfl, by simp; omega, ?_⟩ ?_
      · by_cases h10 : 10 ≤ m
        · refine .inr ⟨.inl (by omega), by simp; omega, ?_⟩
          rw [hd, dec_ge (by omega)]; simp
        · refine .inl ⟨by omega, ?_⟩
          rw [hd, dec_lt (by omega), show m % 10 = m by omega]
      · simp only [List.cons_append, Int.toNat_natCast, reduceCtorEq, if_false]
        rcases h0 with h0 | h0
        · omega
        · subst h0; simp; omega
    rw [jn_eq]
    by_cases hp : 0 < m
    · rw [decide_eq_true (by omega), cond_true]; exact fin
    · rw [decide_eq_false (by omega), cond_false, decide_eq_true (h0.resolve_left hp), cond_true]; exact fin

def two (m : Nat) : List UInt8 := [UInt8.ofNat (48 + m / 10), UInt8.ofNat (48 + m % 10)]
def fmtN (n : Nat) : List UInt8 := Lib.decDigits (n / 100) ++ 46 :: two (n % 100)
def fmtP (n : Int) : List UInt8 := if amount n then fmtN n.toNat else []
theorem amount_nat {n : Int} (h : amount n = true) : ∃ m : Nat, n = m ∧ m ≤ 100000000 := by
  unfold amount at h
  have := of_decide_eq_true h
  exact ⟨n.toNat, by omega, by omega⟩
theorem pad_one (u : Nat) : pad 1 (Lib.decDigits u) = Lib.decDigits u := by
  have := List.length_pos_iff.2 (dec_ne u)
  unfold pad
  rw [show 1 - (Lib.decDigits u).length = 0 by omega]; rfl
theorem pad_two {m : Nat} (h : m < 100) : pad 2 (Lib.decDigits m) = two m := by
  by_cases h1 : m < 10
  · rw [dec_lt h1]
    unfold pad two
    rw [show m / 10 = 0 by omega, show m % 10 = m by omega]; rfl
  · rw [dec_ge h1, dec_lt (by omega)]; rfl
theorem dec_two {n : Nat} (h : 100 ≤ n) : Lib.decDigits n = Lib.decDigits (n / 100) ++ two (n % 100) := by
  rw [dec_ge (by omega), dec_ge (u := n / 10) (by omega), show n / 10 / 10 = n / 100 by omega, show n / 10 % 10 = n % 100 / 10 by omega, show n % 10 = n % 100 % 10 by omega]
  simp [two]
theorem pad_three (n : Nat) : pad 3 (Lib.decDigits n) = Lib.decDigits (n / 100) ++ two (n % 100) := by
  by_cases h : n < 100
  · rw [show n / 100 = 0 by omega, show n % 100 = n by omega, dec_lt (u := 0) (by omega), ← pad_two h]
    have h1 := List.length_pos_iff.2 (dec_ne n)
    have h2 : (Lib.decDigits n).length ≤ 2 := by
      by_cases h3 : n < 10
      · rw [dec_lt h3]; simp
      · rw [dec_ge h3, dec_lt (by omega)]; simp
    unfold pad
    rw [show 3 - (Lib.decDigits n).length = (2 - (Lib.decDigits n).length) + 1 by omega, List.replicate_succ]
    rfl
  · rw [dec_two (by omega)]
    unfold pad
    have h1 := List.length_pos_iff.2 (dec_ne (n / 100))
    rw [show 3 - (Lib.decDigits (n / 100) ++ two (n % 100)).length = 0 by simp [two]; omega]
    rfl

theorem f15 (n : Int) : F15 n = some (fmtP n) := by
  unfold F15 fmtP
  rw [f20, bindO_some]
  cases ha : amount n with
  | false => rfl
  | true =>
    obtain ⟨m, rfl, hm⟩ := amount_nat ha
    have e1 : Int.tdiv (m : Int) 100 = ((m / 100 : Nat) : Int) := by rw [Int.tdiv_eq_ediv_of_nonneg (by omega)]; omega
    have e2 : Int.tmod (m : Int) 100 = ((m % 100 : Nat) : Int) := by rw [Int.tmod_eq_emod_of_nonneg (by omega)]; omega
    have h1 := f29 (m / 100) 1 (by omega) (by omega)
    have h2 := f29 (m % 100) 2 (by omega) (by omega)
    have hl := dec_len (m / 100)
    have hb : m / 100 + 10 ≤ big := by unfold big; omega
    rw [pad_one] at h1
    rw [pad_two (by omega)] at h2
    simp only [Bool.not_true, cond_false, bnd_eq, if_true]
    rw [gd_pos (by omega), e1, i64_wrap (by omega)]
    rw [show ((1 : Int) = ((1 : Nat) : Int)) from rfl, h1, bindO_some, gd_pos (by simp; omega), gd_pos (by omega), e2, show ((2 : Int) = ((2 : Nat) : Int)) from rfl, h2, bindO_some, gd_pos (by simp [two]; omega)]
    simp [fmtN]

theorem f14 (n : Int) : F14 n = some (fmtP n) := by
  unfold F14 fmtP
  rw [f16, bindO_some]
  cases ha : amount n with
  | false => rfl
  | true =>
    obtain ⟨m, rfl, hm⟩ := amount_nat ha
    have hI : fItoa (m : Int) = some (Lib.decDigits m) := by unfold fItoa; rw [if_pos (by omega), itoa_nat]
    have hl := dec_len m
    have hb : m + 20 ≤ big := by unfold big; omega
    simp only [Bool.not_true, cond_false, if_true]
    rw [hI, bindO_some, jn_eq]
    have hp := pad_three m
    have hlq := List.length_pos_iff.2 (dec_ne (m / 100))
    have fin : (bnd (IntKind.wrap .i64 ((List.length (pad 3 (Lib.decDigits m)) : Int) - (2 : Int))) fun x7 =>
    gd (0 ≤ x7 ∧ x7 ≤ (List.length (pad 3 (Lib.decDigits m)) : Int)) <|
    bnd (List.take (Int.toNat x7) (pad 3 (Lib.decDigits m))) fun x8 =>
    gd (List.length x8 + List.length ([46] : List UInt8) ≤ big) <|
    bnd (x8 ++ ([46] : List UInt8)) fun x9 =>
    bnd (IntKind.wrap .i64 ((List.length (pad 3 (Lib.decDigits m)) : Int) - (2 : Int))) fun x10 =>
    gd (0 ≤ x10 ∧ x10 ≤ (List.length (pad 3 (Lib.decDigits m)) : Int)) <|
    bnd (List.drop (Int.toNat x10) (pad 3 (Lib.decDigits m))) fun x11 =>
    gd (List.length x9 + List.length x11 ≤ big) <|
    bnd (x9 ++ x11) fun x12 =>
    some x12) = some (fmtN m) := by
      rw [hp]
      have hql := dec_len (m / 100)
      have hlen : (Lib.decDigits (m / 100) ++ two (m % 100)).length = (Lib.decDigits (m / 100)).length + 2 := by simp [two]
      have ht : (((Lib.decDigits (m / 100)).length + 2 : Nat) : Int) - 2 = ((Lib.decDigits (m / 100)).length : Int) := by omega
      simp only [bnd_eq, hlen, ht]
      rw [i64_wrap (by omega), gd_pos (by omega), Int.toNat_natCast, List.take_left, List.drop_left, gd_pos (by simp; omega), gd_pos (by omega), gd_pos (by simp [two]; omega)]
      simp [fmtN]
    by_cases h3 : (Lib.decDigits m).length < 3
    · rw [decide_eq_true (by omega), cond_true, bnd_eq, i64_wrap (by omega)]
      have hR : fRepeat ([48] : List UInt8) (3 - ((Lib.decDigits m).length : Int)) = some (List.replicate (3 - (Lib.decDigits m).length) 48) := by
        unfold fRepeat
        rw [if_pos ⟨by omega, by omega, by simp; omega⟩]
        have : (3 - ((Lib.decDigits m).length : Int)).toNat = 3 - (Lib.decDigits m).length := by omega
        rw [this]
        congr 1
        generalize 3 - (Lib.decDigits m).length = k
        induction k with
        | zero => rfl
        | succ k ih => simp [Lib.repeatL, List.replicate_succ] at ih ⊢; try exact ih
      rw [hR, bindO_some, gd_pos (by simp; omega), bnd_eq]
      exact fin
    · rw [decide_eq_false (by omega), cond_false]
      have : pad 3 (Lib.decDigits m) = Lib.decDigits m := by
        unfold pad
        rw [show 3 - (Lib.decDigits m).length = 0 by omega]; rfl
      rw [this] at fin
      exact fin
end Go.Proofs.YtekgjongmjnoaaaDoor
