/-
  Chapter 11: plain facts on lists of bytes: decimal digits, the first place of a byte, replacing and splitting at a byte. No condition.
-/
import Derived.Test.YtnhjoplleldbfaaDoorA
import Derived.Lib.SplitLaws
import Derived.Lib.Replace
import Derived.Lib.AtoiAll
import Derived.Lib.SlTrimSet
import Derived.Lib.ItoaNum
import Derived.Lib.IndexMore
namespace Go.Proofs.YtnhjoplleldbfaaDoor
open Go Go.Nu

theorem dec_lt {u : Nat} (h : u < 10) : Lib.decDigits u = [UInt8.ofNat (48 + u)] := by rw [Lib.decDigits, dif_pos h]
theorem dec_ge {u : Nat} (h : ¬ u < 10) : Lib.decDigits u = Lib.decDigits (u / 10) ++ [UInt8.ofNat (48 + u % 10)] := by rw [Lib.decDigits, dif_neg h]
theorem dec_len (u : Nat) : (Lib.decDigits u).length ≤ u + 1 := by
  induction u using Nat.strongRecOn with
  | _ u ih =>
    by_cases h : u < 10
    · rw [dec_lt h]; simp
    · rw [dec_ge h, List.length_append]
      have := ih (u / 10) (by omega)
      simp only [List.length_singleton]
      omega
theorem itoa_nat (n : Nat) : Lib.itoa (n : Int) = Lib.decDigits n := by
  unfold Lib.itoa
  rw [if_neg (by omega)]
  simp
def isD (c : UInt8) : Bool := decide (48 ≤ c.toNat ∧ c.toNat ≤ 57)
def valN (n : Nat) (s : List UInt8) : Nat := s.foldl (fun n c => n * 10 + (c.toNat - 48)) n
theorem valN_ge : ∀ (s : List UInt8) (n : Nat), n ≤ valN n s
  | [], n => Nat.le_refl _
  | c :: r, n => by
    have := valN_ge r (n * 10 + (c.toNat - 48))
    show n ≤ valN (n * 10 + (c.toNat - 48)) r
    omega
theorem parse_val : ∀ (s : List UInt8) (n : Nat), s.all isD = true → (Lib.parseUint10 n s = .ok (valN n s)) ∨ (Lib.parseUint10 n s = .range ∧ 18446744073709551616 ≤ valN n s)
  | [], n, _ => .inl rfl
  | c :: r, n, h => by
    rw [List.all_cons, Bool.and_eq_true] at h
    have hc : 48 ≤ c.toNat ∧ c.toNat ≤ 57 := by simpa [isD] using h.1
    unfold Lib.parseUint10
    rw [if_pos hc]
    have hge := valN_ge r (n * 10 + (c.toNat - 48))
    have hv : valN n (c :: r) = valN (n * 10 + (c.toNat - 48)) r := rfl
    rw [hv]
    split
    · exact .inr ⟨rfl, by omega⟩
    · split
      · exact .inr ⟨rfl, by omega⟩
      · exact parse_val r _ h.2
theorem digs_contains (c : UInt8) : ([48, 49, 50, 51, 52, 53, 54, 55, 56, 57] : List UInt8).contains c = isD c := by
  rw [Bool.eq_iff_iff]
  simp only [List.contains_eq_mem, decide_eq_true_eq, List.mem_cons, List.not_mem_nil, or_false, isD, ← UInt8.toNat_inj]
  show (c.toNat = 48 ∨ c.toNat = 49 ∨ c.toNat = 50 ∨ c.toNat = 51 ∨ c.toNat = 52 ∨ c.toNat = 53 ∨ c.toNat = 54 ∨ c.toNat = 55 ∨ c.toNat = 56 ∨ c.toNat = 57) ↔ _
  omega
theorem dropWhile_nil {p : UInt8 → Bool} : ∀ {l : List UInt8}, l.dropWhile p = [] ↔ l.all p = true
  | [] => by simp
  | c :: l => by
    rw [List.dropWhile_cons, List.all_cons]
    cases hc : p c
    · simp
    · simp only [if_true, Bool.true_and]
      exact dropWhile_nil
theorem trim_digs (s : List UInt8) : Lib.trimS s [48, 49, 50, 51, 52, 53, 54, 55, 56, 57] = [] ↔ s.all isD = true := by
  unfold Lib.trimS Lib.trimLeftS Lib.trimRightS
  have e : (fun x => ([48, 49, 50, 51, 52, 53, 54, 55, 56, 57] : List UInt8).contains x) = isD := funext digs_contains
  rw [e, dropWhile_nil, List.all_reverse]
  constructor
  · intro h
    -- what is left behind trimming on the right ends with a byte that is none
    have key : ∀ l : List UInt8, (l.dropWhile isD).all isD = true → l.all isD = true := by
      intro l
      induction l with
      | nil => intro _; rfl
      | cons c l ih =>
        rw [List.dropWhile_cons]
        cases hc : isD c
        · intro h; simp [hc] at h
        · intro h
          rw [List.all_cons, hc, Bool.true_and]
          exact ih (by simpa using h)
    have := key s.reverse h
    rwa [List.all_reverse] at this
  · intro h
    have : s.reverse.dropWhile isD = [] := dropWhile_nil.2 (by rw [List.all_reverse]; exact h)
    rw [this]; rfl
def findN (s : List UInt8) (c : UInt8) : Nat := (s.takeWhile (fun x => !(x == c))).length
theorem findN_cons (x : UInt8) (s : List UInt8) (c : UInt8) : findN (x :: s) c = if x = c then 0 else findN s c + 1 := by
  unfold findN
  rw [List.takeWhile_cons]
  by_cases h : x = c
  · simp [h]
  · simp [h]
theorem findN_le (s : List UInt8) (c : UInt8) : findN s c ≤ s.length := by
  induction s with
  | nil => simp [findN]
  | cons x s ih => rw [findN_cons]; split <;> simp <;> omega
theorem index_one (c : UInt8) : ∀ s : List UInt8, Lib.index s [c] = if findN s c < s.length then (findN s c : Int) else -1
  | [] => by simp [Lib.index, findN]
  | x :: s => by
    rw [Lib.index, findN_cons, index_one c s]
    by_cases h : x = c
    · subst h; simp [List.isPrefixOf]
    · have : ([c] : List UInt8).isPrefixOf (x :: s) = false := by
        simp [List.isPrefixOf]
        exact fun e => h e.symm
      rw [this, if_neg h, if_neg (by simp)]
      by_cases h2 : findN s c < s.length
      · have h3 : findN s c + 1 < (x :: s).length := by simp; omega
        have : ((findN s c : Int) == -1) = false := by rw [beq_eq_false_iff_ne]; omega
        rw [if_pos h2, if_pos h3, this]; simp
      · have h3 : ¬ findN s c + 1 < (x :: s).length := by simp; omega
        rw [if_neg h2, if_neg h3]; rfl
theorem cut_one (s : List UInt8) (c : UInt8) : Lib.cut s [c] = if findN s c < s.length then (s.take (findN s c), s.drop (findN s c + 1), true) else (s, [], false) := by
  unfold Lib.cut
  rw [index_one]
  by_cases h : findN s c < s.length
  · rw [if_pos h, if_pos h, if_pos (by omega), Int.toNat_natCast]; rfl
  · rw [if_neg h, if_neg h, if_neg (by omega)]
/-- Digits of a number: they spell it. -/
theorem dec_digits (u : Nat) : (Lib.decDigits u).all isD = true ∧ valN 0 (Lib.decDigits u) = u ∧ Lib.decDigits u ≠ [] ∧ (u ≠ 0 → (Lib.decDigits u).head? ≠ some 48) := by
  induction u using Nat.strongRecOn with
  | _ u ih =>
    have hb : ∀ k, k < 10 → (UInt8.ofNat (48 + k)).toNat = 48 + k := by
      intro k hk
      rw [UInt8.toNat_ofNat']
      omega
    by_cases h : u < 10
    · rw [dec_lt h]
      have e := hb u h
      refine ⟨by simp [isD, e]; omega, by simp only [valN, List.foldl_cons, List.foldl_nil, e]; omega, by simp, fun h0 => ?_⟩
      simp only [List.head?_cons, ne_eq, Option.some.injEq, ← UInt8.toNat_inj, e]
      show ¬ (48 + u = 48)
      omega
    · obtain ⟨i1, i2, i3, i4⟩ := ih (u / 10) (by omega)
      rw [dec_ge h]
      have e := hb (u % 10) (by omega)
      refine ⟨by simp [isD, e, i1]; omega, ?_, by simp, fun _ => ?_⟩
      · unfold valN at i2 ⊢
        rw [List.foldl_append, i2]
        simp [e]; omega
      · obtain ⟨c, r, hr⟩ : ∃ c r, Lib.decDigits (u / 10) = c :: r := by
          cases hx : Lib.decDigits (u / 10) with
          | nil => exact (i3 hx).elim
          | cons c r => exact ⟨c, r, rfl⟩
        have := i4 (by omega)
        rw [hr] at this ⊢
        simpa using this
theorem findN_all {a : List UInt8} {c : UInt8} (h : ∀ x ∈ a, x ≠ c) (b : List UInt8) : findN (a ++ b) c = a.length + findN b c := by
  induction a with
  | nil => simp
  | cons x a ih =>
    rw [List.cons_append, findN_cons, if_neg (h x (by simp)), ih fun y hy => h y (List.mem_cons_of_mem _ hy)]
    simp only [List.length_cons]; omega
theorem digits_no {a : List UInt8} (h : a.all isD = true) {c : UInt8} (hc : isD c = false) : ∀ x ∈ a, x ≠ c := fun x hx e => by
  rw [List.all_eq_true] at h
  have := h x hx
  rw [e, hc] at this; cases this
theorem findN_split {s : List UInt8} {c : UInt8} (h : findN s c < s.length) : s = s.take (findN s c) ++ c :: s.drop (findN s c + 1) ∧ c ∉ s.take (findN s c) := by
  induction s with
  | nil => simp at h
  | cons x s ih =>
    rw [findN_cons] at h ⊢
    by_cases hx : x = c
    · subst hx; simp
    · rw [if_neg hx] at h ⊢
      simp only [List.length_cons] at h
      obtain ⟨h1, h2⟩ := ih (by omega)
      constructor
      · rw [List.take_succ_cons, List.drop_succ_cons, List.cons_append, ← h1]
      · rw [List.take_succ_cons, List.mem_cons]
        rintro (h3 | h3)
        · exact hx h3.symm
        · exact h2 h3
theorem findN_none {s : List UInt8} {c : UInt8} (h : ¬ findN s c < s.length) : c ∉ s := by
  induction s with
  | nil => simp
  | cons x s ih =>
    rw [findN_cons] at h
    by_cases hx : x = c
    · rw [if_pos hx] at h; simp at h
    · rw [if_neg hx] at h
      simp only [List.length_cons] at h
      rw [List.mem_cons]
      rintro (h3 | h3)
      · exact hx h3.symm
      · exact ih (by omega) h3
theorem findN_at {a b : List UInt8} {c : UInt8} (h : c ∉ a) : findN (a ++ c :: b) c = a.length := by
  rw [findN_all (a := a) (c := c) (fun x hx e => h (by rw [← e]; exact hx)), findN_cons, if_pos rfl]; rfl
theorem findN_no {a : List UInt8} {c : UInt8} (h : c ∉ a) : findN a c = a.length := by
  have := findN_all (a := a) (c := c) (fun x hx e => h (by rw [← e]; exact hx)) ([] : List UInt8)
  rw [List.append_nil] at this
  rw [this]; rfl
theorem cut_at {a b : List UInt8} {c : UInt8} (h : c ∉ a) : Lib.cut (a ++ c :: b) [c] = (a, b, true) := by
  rw [cut_one, findN_at h, if_pos (by simp)]
  simp
theorem cut_no {a : List UInt8} {c : UInt8} (h : c ∉ a) : Lib.cut a [c] = (a, [], false) := by
  rw [cut_one, findN_no h, if_neg (by omega)]

/-- Each byte c is replaced. -/
def repl (c : UInt8) (new : List UInt8) (s : List UInt8) : List UInt8 := s.flatMap fun x => if x = c then new else [x]
theorem repl_no {c : UInt8} {new s : List UInt8} (h : c ∉ s) : repl c new s = s := by
  unfold repl
  induction s with
  | nil => rfl
  | cons x s ih =>
    rw [List.flatMap_cons, if_neg (fun e => h (by rw [e]; simp)), ih fun h1 => h (List.mem_cons_of_mem _ h1)]; rfl
theorem replK_one (c : UInt8) (new : List UInt8) : ∀ (k : Nat) (s : List UInt8), s.count c ≤ k → Lib.replaceK [c] new k s = repl c new s
  | 0, s, h => by
    rw [Lib.replaceK, repl_no]
    intro h1
    have := List.count_pos_iff.2 h1
    omega
  | k + 1, s, h => by
    rw [Lib.replaceK, index_one]
    by_cases h1 : findN s c < s.length
    · obtain ⟨e, hno⟩ := findN_split h1
      rw [if_pos h1]
      have hx : ¬ (((findN s c : Int) == -1) = true) := by rw [beq_iff_eq]; omega
      rw [if_neg hx, Int.toNat_natCast]
      have hc : s.count c = (s.take (findN s c)).count c + (1 + (s.drop (findN s c + 1)).count c) := by
        conv => lhs; rw [e]
        rw [List.count_append, List.count_cons_self]; omega
      have ih := replK_one c new k (s.drop (findN s c + 1)) (by omega)
      show _ ++ Lib.replaceK [c] new k (s.drop (findN s c + 1)) = _
      rw [ih]
      conv => rhs; rw [e]
      unfold repl
      rw [List.flatMap_append, List.flatMap_cons, if_pos rfl]
      have := repl_no (new := new) hno
      unfold repl at this
      rw [this, List.append_assoc]
    · rw [if_neg h1, if_pos (by rfl), repl_no (findN_none h1)]
theorem repl_all {c : UInt8} {new : List UInt8} (hn : ¬ ([c] == new) = true) (s : List UInt8) : Lib.replaceAll s [c] new = repl c new s := by
  unfold Lib.replaceAll Lib.replace
  rw [if_neg hn]
  have : Lib.replaceNum s [c] (-1) = s.count c := by
    unfold Lib.replaceNum
    rw [if_pos (.inl (by decide)), Lib.count_one]
  rw [this]
  exact replK_one c new _ s (Nat.le_refl _)

theorem index_at {a b : List UInt8} {c : UInt8} (h : c ∉ a) : Lib.index (a ++ c :: b) [c] = (a.length : Int) := by
  rw [index_one, findN_at h, if_pos (by simp)]
theorem index_no {a : List UInt8} {c : UInt8} (h : c ∉ a) : Lib.index a [c] = -1 := by
  rw [index_one, findN_no h, if_neg (by omega)]
theorem split_at {a b : List UInt8} {c : UInt8} (h : c ∉ a) (k : Nat) : Lib.splitK [c] 0 (k + 1) (a ++ c :: b) = a :: Lib.splitK [c] 0 k b := by
  have hx : ¬ (((a.length : Int) == -1) = true) := by rw [beq_iff_eq]; omega
  rw [Lib.splitK, index_at h, if_neg hx, Int.toNat_natCast]
  simp
theorem split_no {a : List UInt8} {c : UInt8} (h : c ∉ a) : ∀ k : Nat, Lib.splitK [c] 0 k a = [a]
  | 0 => rfl
  | k + 1 => by rw [Lib.splitK, index_no h, if_pos (by rfl)]
theorem split_len {c : UInt8} : ∀ (k : Nat) (s : List UInt8), (Lib.splitK [c] 0 k s).length ≤ k + 1
  | 0, s => by simp [Lib.splitK]
  | k + 1, s => by
    rw [Lib.splitK]
    split
    · simp
    · have := split_len (c := c) k (s.drop ((Lib.index s [c]).toNat + [c].length))
      rw [List.length_cons]; omega
/-- The pieces are no longer than the whole. -/
theorem split_small {c : UInt8} : ∀ (k : Nat) (s : List UInt8), ∀ x ∈ Lib.splitK [c] 0 k s, x.length ≤ s.length
  | 0, s, x, hx => by
    simp only [Lib.splitK, List.mem_singleton] at hx
    rw [hx]; exact Nat.le_refl _
  | k + 1, s, x, hx => by
    rw [Lib.splitK] at hx
    split at hx
    · simp only [List.mem_singleton] at hx
      rw [hx]; exact Nat.le_refl _
    · rcases List.mem_cons.1 hx with h | h
      · rw [h, List.length_take]; omega
      · have := split_small k _ x h
        rw [List.length_drop] at this
        omega
end Go.Proofs.YtnhjoplleldbfaaDoor
