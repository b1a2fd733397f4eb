/-
  Chapter 44: decimal digits, cuts and lines (turned from chapter 11). No condition.
-/
import Derived.Test.YthpgkpcnajookaaGreatDoorD
import Derived.Test.YthpgkpcnajookaaGreatDoorK4
import Derived.Lib.ValidLaws
import Derived.Lib.TrimUEq
import Derived.Lib.SplitLaws
import Derived.Lib.Replace
import Derived.Lib.AtoiAll
import Derived.Lib.SlTrimSet
import Derived.Lib.ItoaNum
import Derived.Lib.IndexMore
namespace Go.Proofs.YthpgkpcnajookaaGreatDoor
open Go Go.Nu
theorem gd_if {β : Type} {c : Prop} [Decidable c] {x : Option β} : gd c x = if c then x else none := rfl
theorem bnd_eq {α β : Type} {a : α} {k : α → Option β} : bnd a k = k a := rfl
theorem drop_getD {α : Type} {l : List α} {i : Nat} (d : α) (h : i < l.length) : l.drop i = l.getD i d :: l.drop (i + 1) := by
  rw [List.drop_eq_getElem_cons h, List.getD_eq_getElem?_getD, List.getElem?_eq_getElem h]; rfl

theorem dec_lt {u : Nat} (h : u < 10) : Lib.decDigits u = [UInt8.ofNat (48 + u)] := by rw [Lib.decDigits, dif_pos h]
theorem dec_ge {u : Nat} (h : ¬ u < 10) : Lib.decDigits u = Lib.decDigits (u / 10) ++ [UInt8.ofNat (48 + u % 10)] := by rw [Lib.decDigits, dif_neg h]
theorem dec_len (u : Nat) : (Lib.decDigits u).length ≤ u + 1 := by
  induction u using Nat.strongRecOn with
  | _ u ih =>
    by_cases h : u < 10
    · rw [dec_lt h]; simp
    · rw [dec_ge h, List.length_append]
      have := ih (u / 10) (by omega)
      simp only [List.length_singleton]
      omega
theorem itoa_nat (n : Nat) : Lib.itoa (n : Int) = Lib.decDigits n := by
  unfold Lib.itoa
  rw [if_neg (by omega)]
  simp
def isD (c : UInt8) : Bool := decide (48 ≤ c.toNat ∧ c.toNat ≤ 57)
def valN (n : Nat) (s : List UInt8) : Nat := s.foldl (fun n c => n * 10 + (c.toNat - 48)) n
theorem valN_ge : ∀ (s : List UInt8) (n : Nat), n ≤ valN n s
  | [], n => Nat.le_refl _
  | c :: r, n => by
    have := valN_ge r (n * 10 + (c.toNat - 48))
    show n ≤ valN (n * 10 + (c.toNat - 48)) r
    omega
theorem parse_val : ∀ (s : List UInt8) (n : Nat), s.all isD = true → (Lib.parseUint10 n s = .ok (valN n s)) ∨ (Lib.parseUint10 n s = .range ∧ 18446744073709551616 ≤ valN n s)
  | [], n, _ => .inl rfl
  | c :: r, n, h => by
    rw [List.all_cons, Bool.and_eq_true] at h
    have hc : 48 ≤ c.toNat ∧ c.toNat ≤ 57 := by simpa [isD] using h.1
    unfold Lib.parseUint10
    rw [if_pos hc]
    have hge := valN_ge r (n * 10 + (c.toNat - 48))
    have hv : valN n (c :: r) = valN (n * 10 + (c.toNat - 48)) r := rfl
    rw [hv]
    split
    · exact .inr ⟨rfl, by omega⟩
    · split
      · exact .inr ⟨rfl, by omega⟩
      · exact parse_val r _ h.2
theorem digs_contains (c : UInt8) : ([48, 49, 50, 51, 52, 53, 54, 55, 56, 57] : List UInt8).contains c = isD c := by
  rw [Bool.eq_iff_iff]
  simp only [List.contains_eq_mem, decide_eq_true_eq, List.mem_cons, List.not_mem_nil, or_false, isD, ← UInt8.toNat_inj]
  show (c.toNat = 48 ∨ c.toNat = 49 ∨ c.toNat = 50 ∨ c.toNat = 51 ∨ c.toNat = 52 ∨ c.toNat = 53 ∨ c.toNat = 54 ∨ c.toNat = 55 ∨ c.toNat = 56 ∨ c.toNat = 57) ↔ _
  omega
theorem dropWhile_nil {p : UInt8 → Bool} : ∀ {l : List UInt8}, l.dropWhile p = [] ↔ l.all p = true
  | [] => by simp
  | c :: l => by
    rw [List.dropWhile_cons, List.all_cons]
    cases hc : p c
    · simp
    · simp only [if_true, Bool.true_and]
      exact dropWhile_nil
theorem trim_digs (s : List UInt8) : Lib.trimS s [48, 49, 50, 51, 52, 53, 54, 55, 56, 57] = [] ↔ s.all isD = true := by
  unfold Lib.trimS Lib.trimLeftS Lib.trimRightS
  have e : (fun x => ([48, 49, 50, 51, 52, 53, 54, 55, 56, 57] : List UInt8).contains x) = isD := funext digs_contains
  rw [e, dropWhile_nil, List.all_reverse]
  constructor
  · intro h
    -- what is left behind trimming on the right ends with a byte that is none
    have key : ∀ l : List UInt8, (l.dropWhile isD).all isD = true → l.all isD = true := by
      intro l
      induction l with
      | nil => intro _; rfl
      | cons c l ih =>
        rw [List.dropWhile_cons]
        cases hc : isD c
        · intro h; simp [hc] at h
        · intro h
          rw [List.all_cons, hc, Bool.true_and]
          exact ih (by simpa using h)
    have := key s.reverse h
    rwa [List.all_reverse] at this
  · intro h
    have : s.reverse.dropWhile isD = [] := dropWhile_nil.2 (by rw [List.all_reverse]; exact h)
    rw [this]; rfl
theorem findN_cons (x : UInt8) (s : List UInt8) (c : UInt8) : findN (x :: s) c = if x = c then 0 else findN s c + 1 := by
  unfold findN
  rw [List.takeWhile_cons]
  by_cases h : x = c
  · simp [h]
  · simp [h]
theorem findN_le (s : List UInt8) (c : UInt8) : findN s c ≤ s.length := by
  induction s with
  | nil => simp [findN]
  | cons x s ih => rw [findN_cons]; split <;> simp <;> omega
theorem index_one (c : UInt8) : ∀ s : List UInt8, Lib.index s [c] = if findN s c < s.length then (findN s c : Int) else -1
  | [] => by simp [Lib.index, findN]
  | x :: s => by
    rw [Lib.index, findN_cons, index_one c s]
    by_cases h : x = c
    · subst h; simp [List.isPrefixOf]
    · have : ([c] : List UInt8).isPrefixOf (x :: s) = false := by
        simp [List.isPrefixOf]
        exact fun e => h e.symm
      rw [this, if_neg h, if_neg (by simp)]
      by_cases h2 : findN s c < s.length
      · have h3 : findN s c + 1 < (x :: s).length := by simp; omega
        have : ((findN s c : Int) == -1) = false := by rw [beq_eq_false_iff_ne]; omega
        rw [if_pos h2, if_pos h3, this]; simp
      · have h3 : ¬ findN s c + 1 < (x :: s).length := by simp; omega
        rw [if_neg h2, if_neg h3]; rfl
theorem cut_one (s : List UInt8) (c : UInt8) : Lib.cut s [c] = if findN s c < s.length then (s.take (findN s c), s.drop (findN s c + 1), true) else (s, [], false) := by
  unfold Lib.cut
  rw [index_one]
  by_cases h : findN s c < s.length
  · rw [if_pos h, if_pos h, if_pos (by omega), Int.toNat_natCast]; rfl
  · rw [if_neg h, if_neg h, if_neg (by omega)]
/-- Digits of a number: they spell it. -/
theorem dec_digits (u : Nat) : (Lib.decDigits u).all isD = true ∧ valN 0 (Lib.decDigits u) = u ∧ Lib.decDigits u ≠ [] ∧ (u ≠ 0 → (Lib.decDigits u).head? ≠ some 48) := by
  induction u using Nat.strongRecOn with
  | _ u ih =>
    have hb : ∀ k, k < 10 → (UInt8.ofNat (48 + k)).toNat = 48 + k := by
      intro k hk
      rw [UInt8.toNat_ofNat']
      omega
    by_cases h : u < 10
    · rw [dec_lt h]
      have e := hb u h
      refine ⟨by simp [isD, e]; omega, by simp only [valN, List.foldl_cons, List.foldl_nil, e]; omega, by simp, fun h0 => ?_⟩
      simp only [List.head?_cons, ne_eq, Option.some.injEq, ← UInt8.toNat_inj, e]
      show ¬ (48 + u = 48)
      omega
    · obtain ⟨i1, i2, i3, i4⟩ := ih (u / 10) (by omega)
      rw [dec_ge h]
      have e := hb (u % 10) (by omega)
      refine ⟨by simp [isD, e, i1]; omega, ?_, by simp, fun _ => ?_⟩
      · unfold valN at i2 ⊢
        rw [List.foldl_append, i2]
        simp [e]; omega
      · obtain ⟨c, r, hr⟩ : ∃ c r, Lib.decDigits (u / 10) = c :: r := by
          cases hx : Lib.decDigits (u / 10) with
          | nil => exact (i3 hx).elim
          | cons c r => exact ⟨c, r, rfl⟩
        have := i4 (by omega)
        rw [hr] at this ⊢
        simpa using this
theorem findN_all {a : List UInt8} {c : UInt8} (h : ∀ x ∈ a, x ≠ c) (b : List UInt8) : findN (a ++ b) c = a.length + findN b c := by
  induction a with
  | nil => simp
  | cons x a ih =>
    rw [List.cons_append, findN_cons, if_neg (h x (by simp)), ih fun y hy => h y (List.mem_cons_of_mem _ hy)]
    simp only [List.length_cons]; omega
theorem digits_no {a : List UInt8} (h : a.all isD = true) {c : UInt8} (hc : isD c = false) : ∀ x ∈ a, x ≠ c := fun x hx e => by
  rw [List.all_eq_true] at h
  have := h x hx
  rw [e, hc] at this; cases this
theorem findN_split {s : List UInt8} {c : UInt8} (h : findN s c < s.length) : s = s.take (findN s c) ++ c :: s.drop (findN s c + 1) ∧ c ∉ s.take (findN s c) := by
  induction s with
  | nil => simp at h
  | cons x s ih =>
    rw [findN_cons] at h ⊢
    by_cases hx : x = c
    · subst hx; simp
    · rw [if_neg hx] at h ⊢
      simp only [List.length_cons] at h
      obtain ⟨h1, h2⟩ := ih (by omega)
      constructor
      · rw [List.take_succ_cons, List.drop_succ_cons, List.cons_append, ← h1]
      · rw [List.take_succ_cons, List.mem_cons]
        rintro (h3 | h3)
        · exact hx h3.symm
        · exact h2 h3
theorem findN_none {s : List UInt8} {c : UInt8} (h : ¬ findN s c < s.length) : c ∉ s := by
  induction s with
  | nil => simp
  | cons x s ih =>
    rw [findN_cons] at h
    by_cases hx : x = c
    · rw [if_pos hx] at h; simp at h
    · rw [if_neg hx] at h
      simp only [List.length_cons] at h
      rw [List.mem_cons]
      rintro (h3 | h3)
      · exact hx h3.symm
      · exact ih (by omega) h3
theorem findN_at {a b : List UInt8} {c : UInt8} (h : c ∉ a) : findN (a ++ c :: b) c = a.length := by
  rw [findN_all (a := a) (c := c) (fun x hx e => h (by rw [← e]; exact hx)), findN_cons, if_pos rfl]; rfl
theorem findN_no {a : List UInt8} {c : UInt8} (h : c ∉ a) : findN a c = a.length := by
  have := findN_all (a := a) (c := c) (fun x hx e => h (by rw [← e]; exact hx)) ([] : List UInt8)
  rw [List.append_nil] at this
  rw [this]; rfl
theorem cut_at {a b : List UInt8} {c : UInt8} (h : c ∉ a) : Lib.cut (a ++ c :: b) [c] = (a, b, true) := by
  rw [cut_one, findN_at h, if_pos (by simp)]
  simp
theorem cut_no {a : List UInt8} {c : UInt8} (h : c ∉ a) : Lib.cut a [c] = (a, [], false) := by
  rw [cut_one, findN_no h, if_neg (by omega)]

/-- Each byte c is replaced. -/
def repl (c : UInt8) (new : List UInt8) (s : List UInt8) : List UInt8 := s.flatMap fun x => if x = c then new else [x]
theorem repl_no {c : UInt8} {new s : List UInt8} (h : c ∉ s) : repl c new s = s := by
  unfold repl
  induction s with
  | nil => rfl
  | cons x s ih =>
    rw [List.flatMap_cons, if_neg (fun e => h (by rw [e]; simp)), ih fun h1 => h (List.mem_cons_of_mem _ h1)]; rfl
theorem replK_one (c : UInt8) (new : List UInt8) : ∀ (k : Nat) (s : List UInt8), s.count c ≤ k → Lib.replaceK [c] new k s = repl c new s
  | 0, s, h => by
    rw [Lib.replaceK, repl_no]
    intro h1
    have := List.count_pos_iff.2 h1
    omega
  | k + 1, s, h => by
    rw [Lib.replaceK, index_one]
    by_cases h1 : findN s c < s.length
    · obtain ⟨e, hno⟩ := findN_split h1
      rw [if_pos h1]
      have hx : ¬ (((findN s c : Int) == -1) = true) := by rw [beq_iff_eq]; omega
      rw [if_neg hx, Int.toNat_natCast]
      have hc : s.count c = (s.take (findN s c)).count c + (1 + (s.drop (findN s c + 1)).count c) := by
        conv => lhs; rw [e]
        rw [List.count_append, List.count_cons_self]; omega
      have ih := replK_one c new k (s.drop (findN s c + 1)) (by omega)
      show _ ++ Lib.replaceK [c] new k (s.drop (findN s c + 1)) = _
      rw [ih]
      conv => rhs; rw [e]
      unfold repl
      rw [List.flatMap_append, List.flatMap_cons, if_pos rfl]
      have := repl_no (new := new) hno
      unfold repl at this
      rw [this, List.append_assoc]
    · rw [if_neg h1, if_pos (by rfl), repl_no (findN_none h1)]
theorem repl_all {c : UInt8} {new : List UInt8} (hn : ¬ ([c] == new) = true) (s : List UInt8) : Lib.replaceAll s [c] new = repl c new s := by
  unfold Lib.replaceAll Lib.replace
  rw [if_neg hn]
  have : Lib.replaceNum s [c] (-1) = s.count c := by
    unfold Lib.replaceNum
    rw [if_pos (.inl (by decide)), Lib.count_one]
  rw [this]
  exact replK_one c new _ s (Nat.le_refl _)

theorem index_at {a b : List UInt8} {c : UInt8} (h : c ∉ a) : Lib.index (a ++ c :: b) [c] = (a.length : Int) := by
  rw [index_one, findN_at h, if_pos (by simp)]
theorem index_no {a : List UInt8} {c : UInt8} (h : c ∉ a) : Lib.index a [c] = -1 := by
  rw [index_one, findN_no h, if_neg (by omega)]
theorem split_at {a b : List UInt8} {c : UInt8} (h : c ∉ a) (k : Nat) : Lib.splitK [c] 0 (k + 1) (a ++ c :: b) = a :: Lib.splitK [c] 0 k b := by
  have hx : ¬ (((a.length : Int) == -1) = true) := by rw [beq_iff_eq]; omega
  rw [Lib.splitK, index_at h, if_neg hx, Int.toNat_natCast]
  simp
theorem split_no {a : List UInt8} {c : UInt8} (h : c ∉ a) : ∀ k : Nat, Lib.splitK [c] 0 k a = [a]
  | 0 => rfl
  | k + 1 => by rw [Lib.splitK, index_no h, if_pos (by rfl)]
theorem split_len {c : UInt8} : ∀ (k : Nat) (s : List UInt8), (Lib.splitK [c] 0 k s).length ≤ k + 1
  | 0, s => by simp [Lib.splitK]
  | k + 1, s => by
    rw [Lib.splitK]
    split
    · simp
    · have := split_len (c := c) k (s.drop ((Lib.index s [c]).toNat + [c].length))
      rw [List.length_cons]; omega
/-- The pieces are no longer than the whole. -/
theorem split_small {c : UInt8} : ∀ (k : Nat) (s : List UInt8), ∀ x ∈ Lib.splitK [c] 0 k s, x.length ≤ s.length
  | 0, s, x, hx => by
    simp only [Lib.splitK, List.mem_singleton] at hx
    rw [hx]; exact Nat.le_refl _
  | k + 1, s, x, hx => by
    rw [Lib.splitK] at hx
    split at hx
    · simp only [List.mem_singleton] at hx
      rw [hx]; exact Nat.le_refl _
    · rcases List.mem_cons.1 hx with h | h
      · rw [h, List.length_take]; omega
      · have := split_small k _ x h
        rw [List.length_drop] at this
        omega
theorem itoa_pos {n : Int} (h : 0 ≤ n) : Lib.itoa n = Lib.decDigits n.toNat := by
  obtain ⟨k, rfl⟩ : ∃ k : Nat, n = k := ⟨n.toNat, by omega⟩
  rw [itoa_nat, Int.toNat_natCast]
theorem itoa_digs {n : Int} (h : 0 ≤ n) : (Lib.itoa n).all isD = true ∧ Lib.itoa n ≠ [] := by
  rw [itoa_pos h]; exact ⟨(dec_digits _).1, (dec_digits _).2.2.1⟩
theorem not_mem_of {l : List UInt8} {p : UInt8 → Bool} (h : l.all p = true) {c : UInt8} (hc : p c = false) : c ∉ l := fun hm => by
  rw [List.all_eq_true] at h
  rw [h c hm] at hc; cases hc
theorem toNat_nat (n : Nat) : ((n : Int)).toNat = n := Int.toNat_natCast n
theorem dT {p : Prop} [Decidable p] (h : p) : decide p = true := decide_eq_true h
theorem dF {p : Prop} [Decidable p] (h : ¬ p) : decide p = false := decide_eq_false h
theorem toNat1 (i : Nat) : ((i : Int) + 1).toNat = i + 1 := by omega
theorem toNat2 (i : Nat) : ((i : Int) + 2).toNat = i + 2 := by omega

theorem trim_all {cs : List UInt8} {p : UInt8 → Bool} (hp : ∀ c, cs.contains c = p c) (s : List UInt8) : Lib.trimS s cs = [] ↔ s.all p = true := by
  unfold Lib.trimS Lib.trimLeftS Lib.trimRightS
  have e : (fun x => cs.contains x) = p := funext hp
  rw [e, dropWhile_nil, List.all_reverse]
  constructor
  · intro h
    have key : ∀ l : List UInt8, (l.dropWhile p).all p = true → l.all p = true := by
      intro l
      induction l with
      | nil => intro _; rfl
      | cons c l ih =>
        rw [List.dropWhile_cons]
        cases hc : p c
        · intro h; simp [hc] at h
        · intro h
          rw [List.all_cons, hc, Bool.true_and]
          exact ih (by simpa using h)
    have := key s.reverse h
    rwa [List.all_reverse] at this
  · intro h
    have : s.reverse.dropWhile p = [] := dropWhile_nil.2 (by rw [List.all_reverse]; exact h)
    rw [this]; rfl
theorem getD_mem {α : Type} {l : List α} {i : Nat} (d : α) (h : i < l.length) : l.getD i d ∈ l := by
  rw [List.getD_eq_getElem?_getD, List.getElem?_eq_getElem h]
  exact List.getElem_mem h
theorem f43 (n : Nat) (h : n ≤ 1000000) : F41 n = some (Lib.itoa n) := by
  unfold F41
  rw [itoa_nat]
  have hlen := dec_len n
  refine loopK_rule (fun p : Int × List UInt8 => ∃ m : Nat, p.1 = m ∧ m ≤ n ∧ Lib.decDigits m ++ p.2 = Lib.decDigits n) (fun p => p.1.toNat) ⟨n, rfl, Nat.le_refl _, by simp⟩ rfl ?_
  rintro ⟨_, out⟩ again ⟨m, rfl, hm, he⟩ hag
  simp only at he ⊢
  have hol : out.length ≤ n + 1 := by
    have := congrArg List.length he
    rw [List.length_append] at this; omega
  unfold big
  by_cases h10 : m < 10
  · rw [dF (by omega), cond_false, bnd_eq, i64_wrap (by omega)]
    have hw : IntKind.wrap .u8 (48 + (m : Int)) = ((48 + m : Nat) : Int) := by rw [IntKind.wrap_u8]; omega
    rw [hw, gd_pos (by omega), toNat_nat, gd_pos (by simp only [List.length_singleton]; omega), bnd_eq]
    rw [dec_lt h10] at he
    rw [he]
  · rw [dT (by omega), cond_true, gd_pos (by decide), bnd_eq, bnd_eq]
    have ht : Int.tmod (m : Int) 10 = ((m % 10 : Nat) : Int) := by rw [Int.tmod_eq_emod_of_nonneg (by omega)]; omega
    have hd : Int.tdiv (m : Int) 10 = ((m / 10 : Nat) : Int) := by rw [Int.tdiv_eq_ediv_of_nonneg (by omega)]; omega
    rw [ht, i64_wrap (by omega)]
    have hw : IntKind.wrap .u8 (48 + ((m % 10 : Nat) : Int)) = ((48 + m % 10 : Nat) : Int) := by rw [IntKind.wrap_u8]; omega
    rw [hw, gd_pos (by omega), toNat_nat, gd_pos (by simp only [List.length_singleton]; omega), bnd_eq, gd_pos (by decide), bnd_eq, hd, i64_wrap (by omega)]
    rw [dec_ge h10, List.append_assoc] at he
    exact hag _ ⟨m / 10, rfl, by omega, he⟩ (by simp only [Int.toNat_natCast]; omega)
theorem digit_at {d : Nat} (h : d < 10) : List.drop d (List.take (d + 1) ([48, 49, 50, 51, 52, 53, 54, 55, 56, 57] : List UInt8)) = [UInt8.ofNat (48 + d)] := by
  have : d = 0 ∨ d = 1 ∨ d = 2 ∨ d = 3 ∨ d = 4 ∨ d = 5 ∨ d = 6 ∨ d = 7 ∨ d = 8 ∨ d = 9 := by omega
  rcases this with rfl | rfl | rfl | rfl | rfl | rfl | rfl | rfl | rfl | rfl <;> rfl
theorem one_at (s : List UInt8) {i : Nat} (h : i < s.length) : List.drop i (List.take (i + 1) s) = [s.getD i 0] := by
  rw [List.drop_take, Nat.add_sub_cancel_left, drop_getD 0 h]
  rfl
theorem atoi_digits {s : List UInt8} (h0 : s ≠ []) (hd : s.all isD = true) (hv : valN 0 s ≤ 1000000) : atoiN s = ((valN 0 s : Int), none) := by
  obtain ⟨c, r, rfl⟩ : ∃ c r, s = c :: r := by cases s with | nil => exact (h0 rfl).elim | cons c r => exact ⟨c, r, rfl⟩
  have hcd : 48 ≤ c.toNat ∧ c.toNat ≤ 57 := by
    rw [List.all_cons, Bool.and_eq_true] at hd
    simpa [isD] using hd.1
  have ha : Lib.atoiAll (c :: r) = match Lib.parseUint10 0 (c :: r) with
      | .ok u => if 9223372036854775808 ≤ u then .range else .ok (u : Int)
      | .range => .range
      | _ => Lib.atoiAll [] := by
    unfold Lib.atoiAll
    simp only []
    rw [if_neg (show ¬ (c.toNat = 43 ∨ c.toNat = 45) by omega)]
    unfold Lib.parseMag
    rw [if_neg (by simp)]
    cases Lib.parseUint10 0 (c :: r) with
    | range => rfl
    | ok u =>
      simp only []
      by_cases hb : 9223372036854775808 ≤ u
      · rw [if_pos ⟨by omega, hb⟩, if_pos hb]
      · rw [if_neg (by omega), if_neg (by omega), if_neg (by omega), if_neg hb]
    | _ => rfl
  unfold atoiN
  rw [ha]
  rcases parse_val (c :: r) 0 hd with hp | ⟨hp, hge⟩
  · rw [hp]
    simp only []
    rw [if_neg (by omega)]
  · omega
theorem drop_cons {s : List UInt8} {i : Nat} (h : i < s.length) : s.drop i = s.getD i 0 :: s.drop (i + 1) := drop_getD 0 h
theorem getD_drop0 (s : List UInt8) (i k : Nat) : (s.drop i).getD k 0 = s.getD (i + k) 0 := by
  rw [List.getD_eq_getElem?_getD, List.getD_eq_getElem?_getD, List.getElem?_drop]
theorem dec_len4 {u : Nat} (h : u ≤ 9999) : (Lib.decDigits u).length ≤ 4 := by
  by_cases h1 : u < 10
  · rw [dec_lt h1]; simp
  rw [dec_ge h1]
  by_cases h2 : u / 10 < 10
  · rw [dec_lt h2]; simp
  rw [dec_ge h2]
  by_cases h3 : u / 10 / 10 < 10
  · rw [dec_lt h3]; simp
  rw [dec_ge h3, dec_lt (by omega)]
  simp
def numP (t : List UInt8) : Int × Bool := if t = [] ∨ 9 < t.length ∨ (t.getD 0 0 = 48 ∧ 1 < t.length) then (0, false) else if t.all isD = true then ((valN 0 t : Int), true) else (0, false)
theorem by48 {a : UInt8} : a.toNat = 48 ↔ a = 48 := by rw [← UInt8.toNat_inj]; rfl
theorem valN_lt : ∀ (t : List UInt8) (n k : Nat), t.all isD = true → n < 10 ^ k → valN n t < 10 ^ (k + t.length)
  | [], n, k, _, h => h
  | c :: t, n, k, hd, h => by
    rw [List.all_cons, Bool.and_eq_true] at hd
    have hc : 48 ≤ c.toNat ∧ c.toNat ≤ 57 := by simpa [isD] using hd.1
    have := valN_lt t (n * 10 + (c.toNat - 48)) (k + 1) hd.2 (by rw [Nat.pow_succ]; omega)
    rw [List.length_cons, show k + (t.length + 1) = k + 1 + t.length by omega]
    exact this
theorem valN_app (n : Nat) (a b : List UInt8) : valN n (a ++ b) = valN (valN n a) b := by unfold valN; rw [List.foldl_append]
theorem f76 (t : List UInt8) : F46 t = some (numP t) := by
  unfold F46 numP
  rw [jn_eq]
  dsimp only
  by_cases h0 : t = []
  · subst h0; rfl
  have hp : 0 < t.length := List.length_pos_iff.2 h0
  rw [dF (by omega), cond_false]
  by_cases h9 : 9 < t.length
  · rw [dT (by omega), cond_true, if_pos (.inr (.inl h9))]
  rw [dF (by omega), cond_false, gd_pos (by omega)]
  simp only [show Int.toNat (0 : Int) = 0 from rfl]
  have rest : ∀ r : Option (Int × Bool), (if t.all isD = true then some ((valN 0 t : Int), true) else some (0, false)) = r → loopK (σ := Int × Int) (fun p2 againp2 =>
    cond (decide (p2.2 < (List.length t : Int)))
      (gd (0 ≤ p2.2 ∧ p2.2 < (List.length t : Int)) <|
      cond (decide ((UInt8.toNat (List.getD t (Int.toNat p2.2) 0) : Int) < (48 : Int)))
        (some ((0 : Int), false))
        (gd (0 ≤ p2.2 ∧ p2.2 < (List.length t : Int)) <|
        cond (decide ((57 : Int) < (UInt8.toNat (List.getD t (Int.toNat p2.2) 0) : Int)))
          (some ((0 : Int), false))
          (bnd (IntKind.wrap .i64 (p2.1 * (10 : Int))) fun x3 =>
          gd (0 ≤ p2.2 ∧ p2.2 < (List.length t : Int)) <|
          bnd (IntKind.wrap .u8 ((UInt8.toNat (List.getD t (Int.toNat p2.2) 0) : Int) - (48 : Int))) fun x4 =>
          bnd (IntKind.wrap .i64 (x3 + (IntKind.wrap .i64 x4))) fun x5 =>
          bnd (IntKind.wrap .i64 (p2.2 + (1 : Int))) fun x6 =>
          againp2 (x5, x6))))
      (some (p2.1, true))) ((0 : Int), (0 : Int)) = r := by
    rintro r rfl
    refine loopK_rule (fun p : Int × Int => ∃ i : Nat, p = ((valN 0 (t.take i) : Int), (i : Int)) ∧ i ≤ t.length ∧ (t.take i).all isD = true) (fun p => t.length - p.2.toNat) ⟨0, by simp [valN], Nat.zero_le _, by simp⟩ (by split <;> rfl) ?_
    rintro _ again ⟨i, rfl, hi, hd⟩ hag
    simp only []
    by_cases hlt : i < t.length
    · rw [dT (by omega), cond_true, gd_pos (by omega), toNat_nat]
      have htk : t.take (i + 1) = t.take i ++ [t.getD i 0] := by
        rw [List.take_succ_eq_append_getElem hlt, List.getD_eq_getElem?_getD, List.getElem?_eq_getElem hlt]; rfl
      have hbad : isD (t.getD i 0) = false → t.all isD = false := fun h => by
        cases hx : t.all isD with
        | false => rfl
        | true =>
          rw [List.all_eq_true] at hx
          rw [hx _ (getD_mem 0 hlt)] at h
          cases h
      by_cases d1 : (t.getD i 0).toNat < 48
      · rw [dT (by omega), cond_true, if_neg]
        rw [hbad (by unfold isD; exact dF (by omega))]; simp
      · rw [dF (by omega), cond_false, gd_pos (by omega)]
        by_cases d2 : 57 < (t.getD i 0).toNat
        · rw [dT (by omega), cond_true, if_neg]
          rw [hbad (by unfold isD; exact dF (by omega))]; simp
        · rw [dF (by omega), cond_false]
          have hD : isD (t.getD i 0) = true := by unfold isD; exact dT (by omega)
          have hv := valN_lt (t.take i) 0 0 hd (by simp)
          rw [List.length_take, Nat.min_eq_left (by omega), Nat.zero_add] at hv
          have hv9 : valN 0 (t.take i) < 1000000000 := Nat.lt_of_lt_of_le hv (by
            have : 10 ^ i ≤ 10 ^ 9 := Nat.pow_le_pow_right (by omega) (by omega)
            simpa using this)
          simp only [bnd_eq]
          have hw : IntKind.wrap .u8 (((t.getD i 0).toNat : Int) - 48) = ((t.getD i 0).toNat : Int) - 48 := by rw [IntKind.wrap_u8]; omega
          rw [gd_pos (by omega), hw, i64_wrap (n := (valN 0 (t.take i) : Int) * 10) (by omega), i64_wrap (n := ((t.getD i 0).toNat : Int) - 48) (by omega), i64_wrap (n := (valN 0 (t.take i) : Int) * 10 + (((t.getD i 0).toNat : Int) - 48)) (by omega), i64_wrap (by omega)]
          refine hag _ ⟨i + 1, ?_, by omega, by rw [htk, List.all_append, hd, List.all_cons, List.all_nil, hD]; rfl⟩ (by simp only []; omega)
          rw [htk, valN_app]
          have : valN (valN 0 (t.take i)) [t.getD i 0] = valN 0 (t.take i) * 10 + ((t.getD i 0).toNat - 48) := rfl
          rw [this]
          refine Prod.ext ?_ ?_ <;> simp only [] <;> omega
    · have : i = t.length := by omega
      subst this
      rw [List.take_length] at hd ⊢
      rw [dF (by omega), cond_false, if_pos hd]
  by_cases h48 : t.getD 0 0 = 48
  · have := by48.2 h48
    rw [dT (by omega), cond_true]
    by_cases h1 : 1 < t.length
    · rw [dT (by omega), cond_true, if_pos (.inr (.inr ⟨h48, h1⟩))]
    · rw [dF (by omega), cond_false, if_neg (by
        rintro (h | h | h)
        · exact h0 h
        · exact h9 h
        · exact h1 h.2)]
      exact rest _ (by split <;> rfl)
  · have : ¬ (t.getD 0 0).toNat = 48 := fun e => h48 (by48.1 e)
    rw [dF (by omega), cond_false, if_neg (by
      rintro (h | h | h)
      · exact h0 h
      · exact h9 h
      · exact h48 h.1)]
    exact rest _ (by split <;> rfl)
theorem cut_true {s : List UInt8} {c : UInt8} (h : (Lib.cut s [c]).2.2 = true) : s = (Lib.cut s [c]).1 ++ c :: (Lib.cut s [c]).2.1 ∧ c ∉ (Lib.cut s [c]).1 := by
  rw [cut_one] at h ⊢
  split at h
  · rename_i hk
    rw [if_pos hk]
    exact findN_split hk
  · cases h
theorem cut_false {s : List UInt8} {c : UInt8} (h : (Lib.cut s [c]).2.2 = false) : Lib.cut s [c] = (s, [], false) := by
  rw [cut_one] at h ⊢
  split at h
  · cases h
  · rename_i hk
    rw [if_neg hk]
theorem cut_len (s : List UInt8) (c : UInt8) : (Lib.cut s [c]).1.length ≤ s.length ∧ (Lib.cut s [c]).2.1.length ≤ s.length := by
  rw [cut_one]
  split
  · simp only [List.length_take, List.length_drop]; omega
  · simp
theorem f50 (s : List UInt8) (a : Nat) (ha : a ≤ s.length) (hs : s.length ≤ 1000000) :
    F45 s a = some ((Lib.cut (s.drop a) [10]).1, ((s.length - (Lib.cut (s.drop a) [10]).2.1.length : Nat) : Int), (Lib.cut (s.drop a) [10]).2.2) := by
  unfold F45
  rw [cut_one]
  have hl : (s.drop a).length = s.length - a := List.length_drop
  have hfl := findN_le (s.drop a) 10
  refine loopK_rule (fun p : Int => ∃ i : Nat, p = i ∧ a ≤ i ∧ i ≤ s.length ∧ i + findN (s.drop i) 10 = a + findN (s.drop a) 10) (fun p => s.length - p.toNat) ⟨a, rfl, Nat.le_refl _, ha, rfl⟩ (by split <;> rfl) ?_
  rintro _ again ⟨i, rfl, hai, hi, he⟩ hag
  by_cases hlt : i < s.length
  · rw [dT (by omega), cond_true, gd_pos (by omega), toNat_nat]
    rw [drop_cons hlt, findN_cons] at he
    by_cases hc : s.getD i 0 = 10
    · have h10 : (s.getD i 0).toNat = 10 := by rw [hc]; rfl
      rw [dT (by omega), cond_true, gd_pos (by omega), bnd_eq, bnd_eq, i64_wrap (by omega)]
      rw [if_pos hc] at he
      have hk : findN (s.drop a) 10 = i - a := by omega
      rw [hk, if_pos (by omega)]
      congr 1
      refine Prod.ext ?_ (Prod.ext ?_ rfl)
      · simp only [toNat_nat]
        rw [List.drop_take]
      · simp only [List.length_drop]; omega
    · have h10 : ¬ (s.getD i 0).toNat = 10 := fun e => hc (by rw [← UInt8.toNat_inj]; exact e)
      rw [dF (by omega), cond_false, bnd_eq, i64_wrap (by omega)]
      rw [if_neg hc] at he
      exact hag _ ⟨i + 1, by omega, by omega, by omega, by omega⟩ (by omega)
  · rw [dF (by omega), cond_false, gd_pos (by omega), bnd_eq, toNat_nat]
    have hi2 : i = s.length := by omega
    subst hi2
    have hf0 : findN (s.drop s.length) 10 = 0 := by rw [List.drop_length]; rfl
    rw [hf0] at he
    rw [if_neg (by omega)]
    simp
theorem cut_rest {s : List UInt8} {a : Nat} (ha : a ≤ s.length) : s.drop (s.length - (Lib.cut (s.drop a) [10]).2.1.length) = (Lib.cut (s.drop a) [10]).2.1 := by
  have hl : (s.drop a).length = s.length - a := List.length_drop
  rw [cut_one]
  split
  · rename_i h
    simp only [List.length_drop]
    rw [List.drop_drop]
    congr 1
    omega
  · simp
end Go.Proofs.YthpgkpcnajookaaGreatDoor
