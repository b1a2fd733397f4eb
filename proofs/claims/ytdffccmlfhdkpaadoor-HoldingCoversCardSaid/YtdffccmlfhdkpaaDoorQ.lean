/-
  Chapter 17: texts: numbers, blanks, pieces.
-/
import Derived.Test.YtdffccmlfhdkpaaDoorP
namespace Go.Proofs.YtdffccmlfhdkpaaDoor
open Go Go.Nu

/-! ### numbers -/
def isD (c : UInt8) : Bool := decide (48 ≤ c.toNat ∧ c.toNat ≤ 57)
def numGo : Nat → List UInt8 → Int × Bool
  | n, [] => (n, true)
  | n, c :: r => if isD c then numGo (min (n * 10 + (c.toNat - 48)) 10000) r else (0, false)
def numP (s : List UInt8) : Int × Bool := if s = [] ∨ (s.head? = some 48 ∧ 1 < s.length) then (0, false) else numGo 0 s

theorem byte_lt (c : UInt8) : c.toNat < 256 := c.toNat_lt
theorem getD_cons_drop {s : List UInt8} {i : Nat} (h : i < s.length) : s.drop i = s.getD i 0 :: s.drop (i + 1) := drop_getD 0 h

theorem f79 (s : List UInt8) (hs : s.length ≤ 1000000) : F79 s = some (numP s) := by
  unfold F79 numP
  by_cases h0 : s = []
  · subst h0; rw [if_pos (.inl rfl)]; rfl
  have hl : 0 < s.length := List.length_pos_iff.2 h0
  have hloop : (loopK (σ := Int × Int) (fun p2 againp2 =>
    cond (decide (p2.2 < (List.length s : Int)))
      (gd (0 ≤ p2.2 ∧ p2.2 < (List.length s : Int)) <|
      cond (decide ((UInt8.toNat (List.getD s (Int.toNat p2.2) 0) : Int) < (48 : Int)))
        (some ((0 : Int), false))
        (gd (0 ≤ p2.2 ∧ p2.2 < (List.length s : Int)) <|
        cond (decide ((57 : Int) < (UInt8.toNat (List.getD s (Int.toNat p2.2) 0) : Int)))
          (some ((0 : Int), false))
          (bnd (IntKind.wrap .i64 (p2.1 * (10 : Int))) fun x3 =>
          gd (0 ≤ p2.2 ∧ p2.2 < (List.length s : Int)) <|
          bnd (IntKind.wrap .u8 ((UInt8.toNat (List.getD s (Int.toNat p2.2) 0) : Int) - (48 : Int))) fun x4 =>
          bnd (IntKind.wrap .i64 (x3 + (IntKind.wrap .i64 x4))) fun x5 =>
          bnd (min x5 (10000 : Int)) fun x6 =>
          bnd (IntKind.wrap .i64 (p2.2 + (1 : Int))) fun x7 =>
          againp2 (x6, x7))))
      (some (p2.1, true))) ((0 : Int), (0 : Int))) = some (numGo 0 s) := by
    refine loopK_rule (fun x => ∃ n i : Nat, x = ((n : Int), (i : Int)) ∧ i ≤ s.length ∧ n ≤ 10000 ∧ numGo n (s.drop i) = numGo 0 s) (fun x => s.length - x.2.toNat) ⟨0, 0, rfl, by omega, by omega, rfl⟩ rfl ?_
    rintro x again ⟨n, i, rfl, hi, hn, hr⟩ hag
    simp only []
    by_cases hlt : i < s.length
    · rw [getD_cons_drop hlt, numGo] at hr
      rw [decide_eq_true (by omega), cond_true, gd_pos (by omega), Int.toNat_natCast]
      obtain ⟨c, hc⟩ : ∃ c, s.getD i 0 = c := ⟨_, rfl⟩
      rw [hc] at hr ⊢
      unfold isD at hr
      by_cases h1 : c.toNat < 48
      · rw [decide_eq_true (by omega), cond_true]
        rw [if_neg (by simp; omega)] at hr
        rw [hr]
      · rw [decide_eq_false (by omega), cond_false, gd_pos (by omega)]
        by_cases h2 : 57 < c.toNat
        · rw [decide_eq_true (by omega), cond_true]
          rw [if_neg (by simp; omega)] at hr
          rw [hr]
        · rw [decide_eq_false (by omega), cond_false, bnd_eq, i64_wrap (n := (n : Int) * 10) (by omega), gd_pos (by omega), bnd_eq, u8_wrap (by omega), bnd_eq, i64_wrap (n := (c.toNat : Int) - 48) (by omega), i64_wrap (n := (n : Int) * 10 + ((c.toNat : Int) - 48)) (by omega), bnd_eq, bnd_eq, i64_wrap (by omega)]
          rw [if_pos (by simp; omega)] at hr
          exact hag _ ⟨min (n * 10 + (c.toNat - 48)) 10000, i + 1, by rw [Prod.mk.injEq]; exact ⟨by omega, by omega⟩, by omega, by omega, hr⟩ (by simp; omega)
    · rw [decide_eq_false (by omega), cond_false]
      rw [List.drop_eq_nil_of_le (by omega), numGo] at hr
      rw [hr]
  obtain ⟨c, r, rfl⟩ : ∃ c r, s = c :: r := by cases s with | nil => exact (h0 rfl).elim | cons c r => exact ⟨c, r, rfl⟩
  rw [decide_eq_false (by simp; omega), jn_eq, cond_false, gd_pos (by simp)]
  have e : List.getD (c :: r) (Int.toNat 0) 0 = c := rfl
  rw [e]
  have hc48 : ((c.toNat : Int) = 48) ↔ c = 48 := by
    rw [← UInt8.toNat_inj]
    show _ ↔ c.toNat = 48
    omega
  by_cases h1 : c = 48
  · rw [decide_eq_true (hc48.2 h1), cond_true]
    by_cases h2 : 1 < (c :: r).length
    · rw [decide_eq_true (by omega), cond_true, if_pos (.inr ⟨by simp [h1], h2⟩)]
    · rw [decide_eq_false (by omega), cond_false, if_neg (by rintro (h | ⟨_, h⟩); cases h; exact h2 h)]
      exact hloop
  · rw [decide_eq_false (fun h => h1 (hc48.1 h)), cond_false, if_neg (by simp [h1])]
    exact hloop

def valN (n : Nat) (s : List UInt8) : Nat := s.foldl (fun n c => n * 10 + (c.toNat - 48)) n
theorem valN_ge : ∀ (s : List UInt8) (n : Nat), n ≤ valN n s
  | [], n => Nat.le_refl _
  | c :: r, n => by
    have := valN_ge r (n * 10 + (c.toNat - 48))
    show n ≤ valN (n * 10 + (c.toNat - 48)) r
    omega
theorem numGo_val : ∀ (s : List UInt8) (n : Nat), s.all isD = true → numGo (min n 10000) s = (((min (valN n s) 10000 : Nat) : Int), true)
  | [], n, _ => rfl
  | c :: r, n, h => by
    rw [List.all_cons, Bool.and_eq_true] at h
    rw [numGo, if_pos h.1]
    have e : min (min n 10000 * 10 + (c.toNat - 48)) 10000 = min (n * 10 + (c.toNat - 48)) 10000 := by omega
    rw [e, numGo_val r _ h.2]
    rfl
theorem numGo_bad : ∀ (s : List UInt8) (n : Nat), s.all isD = false → numGo n s = (0, false)
  | [], n, h => by cases h
  | c :: r, n, h => by
    rw [numGo]
    cases hc : isD c
    · rfl
    · rw [List.all_cons, hc, Bool.true_and] at h
      rw [if_pos rfl, numGo_bad r _ h]
theorem parse_val : ∀ (s : List UInt8) (n : Nat), s.all isD = true → (Lib.parseUint10 n s = .ok (valN n s)) ∨ (Lib.parseUint10 n s = .range ∧ 18446744073709551616 ≤ valN n s)
  | [], n, _ => .inl rfl
  | c :: r, n, h => by
    rw [List.all_cons, Bool.and_eq_true] at h
    have hc : 48 ≤ c.toNat ∧ c.toNat ≤ 57 := by simpa [isD] using h.1
    unfold Lib.parseUint10
    rw [if_pos hc]
    have hge := valN_ge r (n * 10 + (c.toNat - 48))
    have hv : valN n (c :: r) = valN (n * 10 + (c.toNat - 48)) r := rfl
    rw [hv]
    split
    · exact .inr ⟨rfl, by omega⟩
    · split
      · exact .inr ⟨rfl, by omega⟩
      · exact parse_val r _ h.2

theorem digs_contains (c : UInt8) : ([48, 49, 50, 51, 52, 53, 54, 55, 56, 57] : List UInt8).contains c = isD c := by
  rw [Bool.eq_iff_iff]
  simp only [List.contains_eq_mem, decide_eq_true_eq, List.mem_cons, List.not_mem_nil, or_false, isD, ← UInt8.toNat_inj]
  show (c.toNat = 48 ∨ c.toNat = 49 ∨ c.toNat = 50 ∨ c.toNat = 51 ∨ c.toNat = 52 ∨ c.toNat = 53 ∨ c.toNat = 54 ∨ c.toNat = 55 ∨ c.toNat = 56 ∨ c.toNat = 57) ↔ _
  omega
theorem dropWhile_nil {p : UInt8 → Bool} : ∀ {l : List UInt8}, l.dropWhile p = [] ↔ l.all p = true
  | [] => by simp
  | c :: l => by
    rw [List.dropWhile_cons, List.all_cons]
    cases hc : p c
    · simp
    · simp only [if_true, Bool.true_and]
      exact dropWhile_nil
theorem trim_digs (s : List UInt8) : Lib.trimS s [48, 49, 50, 51, 52, 53, 54, 55, 56, 57] = [] ↔ s.all isD = true := by
  unfold Lib.trimS Lib.trimLeftS Lib.trimRightS
  have e : (fun x => ([48, 49, 50, 51, 52, 53, 54, 55, 56, 57] : List UInt8).contains x) = isD := funext digs_contains
  rw [e, dropWhile_nil, List.all_reverse]
  constructor
  · intro h
    -- what is left behind trimming on the right ends with a byte that is none
    have key : ∀ l : List UInt8, (l.dropWhile isD).all isD = true → l.all isD = true := by
      intro l
      induction l with
      | nil => intro _; rfl
      | cons c l ih =>
        rw [List.dropWhile_cons]
        cases hc : isD c
        · intro h; simp [hc] at h
        · intro h
          rw [List.all_cons, hc, Bool.true_and]
          exact ih (by simpa using h)
    have := key s.reverse h
    rwa [List.all_reverse] at this
  · intro h
    have : s.reverse.dropWhile isD = [] := dropWhile_nil.2 (by rw [List.all_reverse]; exact h)
    rw [this]; rfl

theorem atoi_digits {s : List UInt8} (h0 : s ≠ []) (hd : s.all isD = true) : atoiN s = ((valN 0 s : Int), none) ∨ (10000 ≤ valN 0 s ∧ ∃ v x, atoiN s = (v, some x)) := by
  obtain ⟨c, r, rfl⟩ : ∃ c r, s = c :: r := by cases s with | nil => exact (h0 rfl).elim | cons c r => exact ⟨c, r, rfl⟩
  have hcd : 48 ≤ c.toNat ∧ c.toNat ≤ 57 := by
    rw [List.all_cons, Bool.and_eq_true] at hd
    simpa [isD] using hd.1
  have ha : Lib.atoiAll (c :: r) = match Lib.parseUint10 0 (c :: r) with
      | .ok u => if 9223372036854775808 ≤ u then .range else .ok (u : Int)
      | .range => .range
      | _ => Lib.atoiAll [] := by
    unfold Lib.atoiAll
    simp only []
    rw [if_neg (show ¬ (c.toNat = 43 ∨ c.toNat = 45) by omega)]
    unfold Lib.parseMag
    rw [if_neg (by simp)]
    cases Lib.parseUint10 0 (c :: r) with
    | range => rfl
    | ok u =>
      simp only []
      by_cases hb : 9223372036854775808 ≤ u
      · rw [if_pos ⟨by omega, hb⟩, if_pos hb]
      · rw [if_neg (by omega), if_neg (by omega), if_neg (by omega), if_neg hb]
    | _ => rfl
  unfold atoiN
  rw [ha]
  rcases parse_val (c :: r) 0 hd with hp | ⟨hp, hge⟩
  · rw [hp]
    simp only []
    by_cases hb : 9223372036854775808 ≤ valN 0 (c :: r)
    · rw [if_pos hb]
      exact .inr ⟨by omega, _, _, rfl⟩
    · rw [if_neg hb]
      exact .inl rfl
  · rw [hp]
    exact .inr ⟨by omega, _, _, rfl⟩

theorem f39 (s : List UInt8) (hs : s.length ≤ 1000000) : F39 s = some (numP s) := by
  unfold F39
  by_cases h0 : s = []
  · subst h0; rfl
  rw [decide_eq_false h0, jn_eq, cond_false]
  have hT : fTrim s ([48, 49, 50, 51, 52, 53, 54, 55, 56, 57] : List UInt8) = some (Lib.trimS s [48, 49, 50, 51, 52, 53, 54, 55, 56, 57]) := by
    unfold fTrim
    rw [if_pos ⟨by omega, by simp, by decide⟩]
  rw [hT, bindO_some]
  obtain ⟨c, r, rfl⟩ : ∃ c r, s = c :: r := by cases s with | nil => exact (h0 rfl).elim | cons c r => exact ⟨c, r, rfl⟩
  by_cases hd : (c :: r).all isD = true
  · rw [decide_eq_true ((trim_digs _).2 hd), Bool.not_true, cond_false, gd_pos (by simp)]
    have e : List.getD (c :: r) (Int.toNat 0) 0 = c := rfl
    rw [e]
    have hc48 : ((c.toNat : Int) = 48) ↔ c = 48 := by
      rw [← UInt8.toNat_inj]
      show _ ↔ c.toNat = 48
      omega
    have hcd : 48 ≤ c.toNat ∧ c.toNat ≤ 57 := by
      rw [List.all_cons, Bool.and_eq_true] at hd
      simpa [isD] using hd.1
    have hA : ¬ (c = 48 ∧ 1 < (c :: r).length) → (bindO (fAtoi (c :: r)) fun y3 => cond (!(Option.isNone y3.2)) (some ((10000 : Int), true)) (cond (decide ((9999 : Int) < y3.1)) (some ((10000 : Int), true)) (some (y3.1, true)))) = some (numP (c :: r)) := by
      intro hz
      unfold numP
      rw [if_neg (by simp; simpa using hz)]
      have hg := numGo_val (c :: r) 0 hd
      rw [show min 0 10000 = 0 by omega] at hg
      rw [hg]
      unfold fAtoi
      rw [if_pos (by omega), bindO_some]
      rcases atoi_digits (s := c :: r) (by simp) hd with he | ⟨hge, v, x, he⟩
      · rw [he]
        simp only [Option.isNone_none, Bool.not_true, cond_false]
        by_cases h9 : 9999 < valN 0 (c :: r)
        · rw [decide_eq_true (by omega), cond_true, show min (valN 0 (c :: r)) 10000 = 10000 by omega]; rfl
        · rw [decide_eq_false (by omega), cond_false, show min (valN 0 (c :: r)) 10000 = valN 0 (c :: r) by omega]
      · rw [he]
        simp only [Option.isNone_some, Bool.not_false, cond_true]
        rw [show min (valN 0 (c :: r)) 10000 = 10000 by omega]; rfl
    by_cases h1 : c = 48
    · rw [decide_eq_true (hc48.2 h1), cond_true]
      by_cases h2 : r = []
      · rw [decide_eq_true (by rw [h1, h2]), Bool.not_true, cond_false]
        exact hA (by simp [h2])
      · rw [decide_eq_false (by simp [h2]), Bool.not_false, cond_true]
        unfold numP
        rw [if_pos (.inr ⟨by simp [h1], by simp; exact List.length_pos_iff.2 h2⟩)]
    · rw [decide_eq_false (fun h => h1 (hc48.1 h)), cond_false]
      exact hA fun h => h1 h.1
  · have hd' : (c :: r).all isD = false := by simpa using hd
    rw [decide_eq_false (fun h => hd ((trim_digs _).1 h)), Bool.not_false, cond_true]
    unfold numP
    rw [numGo_bad _ _ hd', ite_self]

theorem numP_range (s : List UInt8) : 0 ≤ (numP s).1 ∧ (numP s).1 ≤ 10000 := by
  unfold numP
  split
  · simp
  · cases hd : s.all isD
    · rw [numGo_bad _ _ hd]; simp
    · have hg := numGo_val s 0 hd
      rw [show min 0 10000 = 0 by omega] at hg
      rw [hg]
      simp only []
      omega

/-! ### blanks -/
def sp (c : UInt8) : Bool := c == 32
def rdrop (s : List UInt8) : List UInt8 := (s.reverse.dropWhile sp).reverse
def trimP (s : List UInt8) : List UInt8 := rdrop (s.dropWhile sp)
theorem dw_append {p : UInt8 → Bool} : ∀ (a b : List UInt8), (a ++ b).dropWhile p = if a.all p then b.dropWhile p else a.dropWhile p ++ b
  | [], b => by simp
  | c :: a, b => by
    rw [List.cons_append, List.dropWhile_cons, List.all_cons, List.dropWhile_cons]
    cases hc : p c
    · simp
    · simp [dw_append a b]
theorem rdrop_cons (c : UInt8) (s : List UInt8) : rdrop (c :: s) = if s.all sp && sp c then [] else c :: rdrop s := by
  unfold rdrop
  rw [List.reverse_cons, dw_append, List.all_reverse]
  cases hs : s.all sp
  · simp
  · have : s.reverse.dropWhile sp = [] := dropWhile_nil.2 (by rw [List.all_reverse]; exact hs)
    rw [this]
    cases hc : sp c <;> simp [hc]
theorem trim_comm : ∀ s : List UInt8, (rdrop s).dropWhile sp = rdrop (s.dropWhile sp)
  | [] => rfl
  | c :: s => by
    have ih := trim_comm s
    rw [rdrop_cons, List.dropWhile_cons]
    cases hc : sp c
    · simp only [Bool.and_false, Bool.false_eq_true, if_false]
      rw [List.dropWhile_cons, hc, rdrop_cons, hc]
      simp
    · cases hs : s.all sp
      · simp only [Bool.false_and, Bool.false_eq_true, if_false, if_true]
        rw [List.dropWhile_cons, hc]
        simpa using ih
      · simp only [Bool.and_self, if_true]
        rw [dropWhile_nil.2 hs]
        rfl
theorem trimS_eq (s : List UInt8) : Lib.trimS s [32] = trimP s := by
  have e : (fun x => ([32] : List UInt8).contains x) = sp := by
    funext x
    unfold sp
    rw [Bool.eq_iff_iff]
    simp
  unfold Lib.trimS Lib.trimLeftS Lib.trimRightS
  rw [e]
  exact trim_comm s
theorem fTrim_sp {s : List UInt8} (hs : s.length ≤ 1000000) : fTrim s ([32] : List UInt8) = some (trimP s) := by
  unfold fTrim
  rw [if_pos ⟨by omega, by simp, by decide⟩, trimS_eq]

theorem dw_len (s : List UInt8) : (s.dropWhile sp).length ≤ s.length := (List.dropWhile_sublist sp).length_le
theorem trimP_len (s : List UInt8) : (trimP s).length ≤ s.length := by
  unfold trimP rdrop
  rw [List.length_reverse]
  have h1 := dw_len (s.dropWhile sp).reverse
  have h2 := dw_len s
  rw [List.length_reverse] at h1
  omega

theorem f65 (s : List UInt8) (hs : s.length ≤ 1000000) : F65 s = some (trimP s) := by
  unfold F65
  refine jn_rule (fun y => y = s.dropWhile sp) (fun next hnext => ?_) ?_
  · refine loopK_rule (fun p => p.dropWhile sp = s.dropWhile sp ∧ p.length ≤ s.length) (fun p => p.length) ⟨rfl, Nat.le_refl _⟩ rfl ?_
    rintro p again ⟨hp, hl⟩ hag
    cases p with
    | nil =>
      rw [decide_eq_false (by simp), cond_false]
      exact hnext _ (by rw [← hp]; rfl)
    | cons c r =>
      have e : List.getD (c :: r) (Int.toNat 0) 0 = c := rfl
      rw [decide_eq_true (by simp), cond_true, gd_pos (by simp), e]
      have hc : ((c.toNat : Int) = 32) ↔ sp c = true := by
        unfold sp
        rw [beq_iff_eq, ← UInt8.toNat_inj]
        show _ ↔ c.toNat = 32
        omega
      rw [List.dropWhile_cons] at hp
      cases hx : sp c
      · rw [decide_eq_false (fun h => by rw [hc, hx] at h; cases h), cond_false]
        rw [hx] at hp
        exact hnext _ hp
      · rw [decide_eq_true (hc.2 hx), cond_true, gd_pos (by simp; omega), bnd_eq]
        rw [hx] at hp
        refine hag _ ⟨by simpa using hp, by simp at hl ⊢; omega⟩ (by simp)
  · rintro y rfl
    have hl0 := dw_len s
    refine loopK_rule (fun q => rdrop q = trimP s ∧ q.length ≤ 1000000) (fun q => q.length) ⟨rfl, by omega⟩ rfl ?_
    rintro q again ⟨hq, hl⟩ hag
    rcases List.eq_nil_or_concat q with rfl | ⟨q, c, rfl⟩
    · rw [decide_eq_false (by simp), cond_false, ← hq]; rfl
    · rw [List.concat_eq_append] at hq hl hag ⊢
      simp only [List.length_append, List.length_singleton] at hl
      have hlen : ((q ++ [c]).length : Int) = (q.length : Int) + 1 := by simp
      have e : List.getD (q ++ [c]) q.length 0 = c := by simp
      have e2 : ((q.length : Int) + 1 - 1).toNat = q.length := by omega
      rw [hlen, decide_eq_true (by omega), cond_true, bnd_eq, i64_wrap (by omega), gd_pos (by omega), e2, e]
      have hc : ((c.toNat : Int) = 32) ↔ sp c = true := by
        unfold sp
        rw [beq_iff_eq, ← UInt8.toNat_inj]
        show _ ↔ c.toNat = 32
        omega
      have hr : rdrop (q ++ [c]) = if sp c then rdrop q else q ++ [c] := by
        unfold rdrop
        rw [List.reverse_append, List.reverse_singleton, List.singleton_append, List.dropWhile_cons]
        cases sp c <;> simp
      rw [hr] at hq
      cases hx : sp c
      · rw [decide_eq_false (fun h => by rw [hc, hx] at h; cases h), cond_false]
        rw [hx] at hq
        simp only [Bool.false_eq_true, if_false] at hq
        rw [hq]
      · rw [decide_eq_true (hc.2 hx), cond_true, bnd_eq, gd_pos (by omega), e2, bnd_eq]
        rw [hx] at hq
        refine hag _ ⟨by simpa using hq, by simp; omega⟩ (by simp)

/-! ### finding -/
def findN (s : List UInt8) (c : UInt8) : Nat := (s.takeWhile (fun x => !(x == c))).length
theorem findN_cons (x : UInt8) (s : List UInt8) (c : UInt8) : findN (x :: s) c = if x = c then 0 else findN s c + 1 := by
  unfold findN
  rw [List.takeWhile_cons]
  by_cases h : x = c
  · simp [h]
  · simp [h]
theorem findN_le (s : List UInt8) (c : UInt8) : findN s c ≤ s.length := by
  induction s with
  | nil => simp [findN]
  | cons x s ih => rw [findN_cons]; split <;> simp <;> omega

theorem f63 (s : List UInt8) (c : UInt8) (hs : s.length ≤ 1000000) : F63 s c = some (findN s c : Int) := by
  unfold F63
  refine loopK_rule (fun x => ∃ i : Nat, x = i ∧ i ≤ s.length ∧ findN s c = i + findN (s.drop i) c) (fun x => s.length - x.toNat) ⟨0, rfl, by omega, by simp⟩ rfl ?_
  rintro x again ⟨i, rfl, hi, hf⟩ hag
  by_cases hlt : i < s.length
  · rw [getD_cons_drop hlt, findN_cons] at hf
    rw [decide_eq_true (by omega), cond_true, gd_pos (by omega), Int.toNat_natCast]
    have hc : (((s.getD i 0).toNat : Int) = (c.toNat : Int)) ↔ s.getD i 0 = c := by
      rw [← UInt8.toNat_inj]; omega
    by_cases h : s.getD i 0 = c
    · rw [decide_eq_true (hc.2 h), cond_true]
      rw [if_pos h] at hf
      rw [hf]; rfl
    · rw [decide_eq_false (fun h' => h (hc.1 h')), cond_false, bnd_eq, i64_wrap (by omega)]
      rw [if_neg h] at hf
      exact hag _ ⟨i + 1, by simp, by omega, by omega⟩ (by omega)
  · rw [decide_eq_false (by omega), cond_false]
    rw [List.drop_eq_nil_of_le (by omega)] at hf
    have : findN s c = s.length := by rw [hf]; simp [findN]; omega
    rw [this]

theorem index_one (c : UInt8) : ∀ s : List UInt8, Lib.index s [c] = if findN s c < s.length then (findN s c : Int) else -1
  | [] => by simp [Lib.index, findN]
  | x :: s => by
    rw [Lib.index, findN_cons, index_one c s]
    by_cases h : x = c
    · subst h; simp [List.isPrefixOf]
    · have : ([c] : List UInt8).isPrefixOf (x :: s) = false := by
        simp [List.isPrefixOf]
        exact fun e => h e.symm
      rw [this, if_neg h, if_neg (by simp)]
      by_cases h2 : findN s c < s.length
      · have h3 : findN s c + 1 < (x :: s).length := by simp; omega
        have : ((findN s c : Int) == -1) = false := by rw [beq_eq_false_iff_ne]; omega
        rw [if_pos h2, if_pos h3, this]; simp
      · have h3 : ¬ findN s c + 1 < (x :: s).length := by simp; omega
        rw [if_neg h2, if_neg h3]; rfl
theorem cut_one (s : List UInt8) (c : UInt8) : Lib.cut s [c] = if findN s c < s.length then (s.take (findN s c), s.drop (findN s c + 1), true) else (s, [], false) := by
  unfold Lib.cut
  rw [index_one]
  by_cases h : findN s c < s.length
  · rw [if_pos h, if_pos h, if_pos (by omega), Int.toNat_natCast]; rfl
  · rw [if_neg h, if_neg h, if_neg (by omega)]

/-! ### pieces -/
def splitP (c : UInt8) (s : List UInt8) : List (List UInt8) := if h : findN s c < s.length then s.take (findN s c) :: splitP c (s.drop (findN s c + 1)) else [s]
termination_by s.length
decreasing_by simp; omega

theorem ba_ext (b : ByteArray) (l : List UInt8) (h : b.data.toList = l) : b = ⟨l.toArray⟩ := by
  cases b; simp at h; subst h; simp
theorem splitL_eq (c : UInt8) : ∀ (k : Nat) (s : List UInt8), s.length ≤ k → splitL s [c] = splitP c s := by
  intro k
  induction k with
  | zero =>
    intro s hs
    have : s = [] := List.eq_nil_of_length_eq_zero (by omega)
    subst this
    rw [splitP, dif_neg (by simp [findN])]
    unfold splitL
    rw [Lib.countB_miss _ _ rfl]
    rfl
  | succ k ih =>
    intro s hs
    have hi : Lib.indexB ⟨s.toArray⟩ ⟨#[c]⟩ = if findN s c < s.length then (findN s c : Int) else -1 := by
      show Lib.index _ _ = _
      simpa using index_one c s
    rw [splitP]
    by_cases h : findN s c < s.length
    · rw [dif_pos h]
      rw [if_pos h] at hi
      have hx : (⟨s.toArray⟩ : ByteArray).extract (findN s c + (⟨#[c]⟩ : ByteArray).size) (⟨s.toArray⟩ : ByteArray).size = ⟨(s.drop (findN s c + 1)).toArray⟩ := by
        apply ba_ext
        rw [ByteArray.data_extract]
        simp [ByteArray.size]
        rw [List.take_of_length_le (by simp)]
      have hy : ((⟨s.toArray⟩ : ByteArray).extract 0 (findN s c + 0)).data.toList = s.take (findN s c) := by
        rw [ByteArray.data_extract]; simp
      have ih' := ih (s.drop (findN s c + 1)) (by simp; omega)
      unfold splitL at ih' ⊢
      rw [Lib.countB_hit ⟨s.toArray⟩ ⟨#[c]⟩ _ (by show 1 ≤ (#[c] : Array UInt8).size; simp) hi, Nat.add_comm 1, Lib.splitB_hit _ _ _ _ _ hi, List.map_cons, hy, hx]
      rw [ih']
    · rw [dif_neg h]
      rw [if_neg h] at hi
      unfold splitL
      rw [Lib.countB_miss _ _ hi]
      simp [Lib.splitB]
theorem fSplit_ok {s : List UInt8} (hs : s.length ≤ 1000000) : fSplit s ([44] : List UInt8) = some (splitP 44 s) := by
  unfold fSplit
  rw [if_pos ⟨by omega, by simp⟩, splitL_eq 44 _ s (Nat.le_refl _)]
theorem fCut_ok {s : List UInt8} (hs : s.length ≤ 1000000) : fCut s ([45] : List UInt8) = some (if findN s 45 < s.length then (s.take (findN s 45), s.drop (findN s 45 + 1), true) else (s, [], false)) := by
  unfold fCut
  rw [if_pos (by omega), cut_one]
theorem split_small (c : UInt8) : ∀ (k : Nat) (s : List UInt8), s.length ≤ k → (splitP c s).length ≤ s.length + 1 ∧ ∀ t ∈ splitP c s, t.length ≤ s.length := by
  intro k
  induction k with
  | zero =>
    intro s hs
    have : s = [] := List.eq_nil_of_length_eq_zero (by omega)
    subst this
    rw [splitP, dif_neg (by simp [findN])]
    simp
  | succ k ih =>
    intro s hs
    rw [splitP]
    by_cases h : findN s c < s.length
    · rw [dif_pos h]
      obtain ⟨i1, i2⟩ := ih (s.drop (findN s c + 1)) (by simp; omega)
      simp only [List.length_drop] at i1 i2
      refine ⟨by simp only [List.length_cons]; omega, fun t ht => ?_⟩
      rcases List.mem_cons.1 ht with rfl | ht
      · simp; omega
      · have := i2 t ht; omega
    · rw [dif_neg h]; simp
end Go.Proofs.YtdffccmlfhdkpaaDoor
