/-
  Chapter 11: the reference reads a field's line. No condition.
-/
import Derived.Test.YtggdnnjabdcgjaaGreatDoorT
namespace Go.Proofs.YtggdnnjabdcgjaaGreatDoor
open Go Go.Nu

def digsR : List UInt8 → Int → Int × List UInt8
  | [], n => (n, [])
  | c :: t, n => if isD c = true ∧ n ≤ 9999 then digsR t (n * 10 + c.toNat - 48) else (n, c :: t)
theorem digsR_len : ∀ (t : List UInt8) (n : Int), (digsR t n).2.length ≤ t.length
  | [], n => Nat.le_refl _
  | c :: t, n => by
    unfold digsR
    split
    · have := digsR_len t (n * 10 + c.toNat - 48)
      simp only [List.length_cons]; omega
    · exact Nat.le_refl _
theorem digsR_run : ∀ (ds t : List UInt8) (n : Nat), ds.all isD = true → valN n ds ≤ 9999 → digsR (ds ++ 32 :: t) n = ((valN n ds : Int), 32 :: t)
  | [], t, n, _, _ => by
    show digsR (32 :: t) n = ((n : Int), 32 :: t)
    unfold digsR
    rw [if_neg]
    rintro ⟨h, _⟩
    exact absurd h (by decide)
  | c :: ds, t, n, hd, hv => by
    rw [List.all_cons, Bool.and_eq_true] at hd
    have hge := valN_ge (c :: ds) n
    have hc : 48 ≤ c.toNat ∧ c.toNat ≤ 57 := by simpa [isD] using hd.1
    rw [List.cons_append]
    unfold digsR
    rw [if_pos ⟨hd.1, by omega⟩]
    have hv' : valN n (c :: ds) = valN (n * 10 + (c.toNat - 48)) ds := rfl
    rw [hv'] at hv ⊢
    have := digsR_run ds t (n * 10 + (c.toNat - 48)) hd.2 hv
    rw [← this]
    congr 1
    omega
def subsR : Nat → List UInt8 → List Sub × Bool
  | 0, t => ([], t.isEmpty)
  | n + 1, t => match t with
    | [] => ([], true)
    | [_] => ([], false)
    | c :: d :: u => if c = 36 then ((d, (inner u).1) :: (subsR n (inner u).2).1, (subsR n (inner u).2).2) else ([], false)
theorem subsR_fuel : ∀ (n m : Nat) (t : List UInt8), t.length ≤ n → t.length ≤ m → subsR n t = subsR m t
  | 0, 0, _, _, _ => rfl
  | 0, m + 1, t, h, _ => by
    have : t = [] := List.length_eq_zero_iff.1 (by omega)
    subst this; rfl
  | n + 1, 0, t, _, h => by
    have : t = [] := List.length_eq_zero_iff.1 (by omega)
    subst this; rfl
  | n + 1, m + 1, t, h1, h2 => by
    match t with
    | [] => rfl
    | [_] => rfl
    | c :: d :: u =>
      show (if c = 36 then ((d, (inner u).1) :: (subsR n (inner u).2).1, (subsR n (inner u).2).2) else ([], false)) = if c = 36 then ((d, (inner u).1) :: (subsR m (inner u).2).1, (subsR m (inner u).2).2) else ([], false)
      have := (inner_le u).1
      simp only [List.length_cons] at h1 h2
      rw [subsR_fuel n m _ (by omega) (by omega)]
def subR (t : List UInt8) : List Sub × Bool := subsR t.length t
theorem subR_nil : subR [] = ([], true) := rfl
theorem subR_one {c : UInt8} : subR [c] = ([], false) := rfl
theorem subR_cons {c d : UInt8} {u : List UInt8} : subR (c :: d :: u) = if c = 36 then ((d, (inner u).1) :: (subR (inner u).2).1, (subR (inner u).2).2) else ([], false) := by
  unfold subR
  show (if c = 36 then ((d, (inner u).1) :: (subsR (u.length + 1) (inner u).2).1, (subsR (u.length + 1) (inner u).2).2) else ([], false)) = _
  have := (inner_le u).1
  rw [subsR_fuel (u.length + 1) (inner u).2.length _ (by omega) (Nat.le_refl _)]
theorem subR_print : ∀ {l : List Sub}, (∀ s ∈ l, codeB s.1 = true) → subR (printS l) = (l, true)
  | [], _ => rfl
  | s :: l, h => by
    have hl : ∀ x ∈ l, codeB x.1 = true := fun x hx => h x (List.mem_cons_of_mem _ hx)
    show subR (36 :: s.1 :: (repl 36 [36, 36] s.2 ++ printS l)) = _
    rw [subR_cons, if_pos rfl, inner_repl (printS_tail hl), subR_print hl]
theorem subsR_small : ∀ (n : Nat) (t : List UInt8), ∀ x ∈ (subsR n t).1, x.2.length ≤ t.length
  | 0, _, x, hx => by cases hx
  | n + 1, [], x, hx => by cases hx
  | n + 1, [_], x, hx => by cases hx
  | n + 1, c :: d :: u, x, hx => by
    have hx : x ∈ (if c = 36 then ((d, (inner u).1) :: (subsR n (inner u).2).1, (subsR n (inner u).2).2) else (([], false) : List Sub × Bool)).1 := hx
    split at hx
    · have h1 := inner_le u
      rcases List.mem_cons.1 hx with rfl | hx
      · simp only [List.length_cons]; omega
      · have := subsR_small n _ x hx
        simp only [List.length_cons]; omega
    · cases hx
def um (c : UInt8) : UInt8 := if c = 35 then 32 else c
def authR (s : List UInt8) : Int × List UInt8 := if s.getD 3 0 = 64 then digsR (s.drop 4) 0 else (0, s.drop 3)
def readP (s : List UInt8) : Field × Bool :=
  if s.length < 8 then (([], [], [], 0), false)
  else if (authR s).2.length < 4 ∨ (authR s).2.getD 0 0 ≠ 32 ∨ (authR s).2.getD 3 0 ≠ 32 ∨ (authR s).2.getD 1 0 = 32 ∨ (authR s).2.getD 2 0 = 32 then ((s.take 3, [], [], (authR s).1), false)
  else ((s.take 3, [um ((authR s).2.getD 1 0), um ((authR s).2.getD 2 0)], (subR ((authR s).2.drop 4)).1, (authR s).1), (subR ((authR s).2.drop 4)).2)
theorem um_mk {a : UInt8} (ha : a = 32 ∨ isD a = true) : um (mk a) = a := (mk_no ha).2.1
theorem readP_print {f : Field} (h : OkF f) : readP (printF f) = (f, true) := by
  have hlen := printF_pos h
  obtain ⟨a, b, hind, ha, hb⟩ := ind_len h.ind
  have htl := (tag_len h.tag).1
  have hpf : printF f = f.1 ++ (authS f.2.2.2 ++ 32 :: mk a :: mk b :: 32 :: printS f.2.2.1) := by
    rw [printF_parts, hind, repl_ind]; simp [List.append_assoc]
  have hau : authR (printF f) = (f.2.2.2, 32 :: mk a :: mk b :: 32 :: printS f.2.2.1) := by
    unfold authR
    rw [hpf]
    have e3 : ∀ x : List UInt8, (f.1 ++ x).getD 3 0 = x.getD 0 0 := fun x => by
      rw [List.getD_eq_getElem?_getD, List.getD_eq_getElem?_getD, List.getElem?_append_right (by omega), htl]
    have d3 : ∀ x : List UInt8, (f.1 ++ x).drop 3 = x := fun x => by
      rw [← htl, List.drop_left]
    have d4 : ∀ (c : UInt8) (x : List UInt8), (f.1 ++ (c :: x)).drop 4 = x := fun c x => by
      rw [show (4 : Nat) = 3 + 1 from rfl, ← List.drop_drop, d3]; rfl
    rw [e3, d3]
    by_cases h0 : f.2.2.2 = 0
    · have : authS f.2.2.2 = [] := by unfold authS; rw [if_pos h0]
      rw [this, List.nil_append, if_neg (by simp), h0]
    · have : authS f.2.2.2 = 64 :: Lib.itoa f.2.2.2 := by unfold authS; rw [if_neg h0]
      rw [this, List.cons_append, show List.getD (64 :: (Lib.itoa f.2.2.2 ++ 32 :: mk a :: mk b :: 32 :: printS f.2.2.1)) 0 0 = 64 from rfl, if_pos rfl, d4, itoa_pos h.lo]
      obtain ⟨q1, q2, q3, _⟩ := dec_digits f.2.2.2.toNat
      have hhi := h.hi
      have := digsR_run (Lib.decDigits f.2.2.2.toNat) (mk a :: mk b :: 32 :: printS f.2.2.1) 0 q1 (by rw [q2]; omega)
      rw [q2, Int.toNat_of_nonneg h.lo] at this
      exact this
  unfold readP
  rw [if_neg (by omega), hau]
  simp only [show List.getD (32 :: mk a :: mk b :: 32 :: printS f.2.2.1) 0 0 = 32 from rfl, show List.getD (32 :: mk a :: mk b :: 32 :: printS f.2.2.1) 1 0 = mk a from rfl, show List.getD (32 :: mk a :: mk b :: 32 :: printS f.2.2.1) 2 0 = mk b from rfl,
    show List.getD (32 :: mk a :: mk b :: 32 :: printS f.2.2.1) 3 0 = 32 from rfl, List.drop_succ_cons, List.drop_zero, um_mk ha, um_mk hb]
  rw [if_neg]
  · rw [subR_print fun s hs => (errS_zero (h.subs s hs)).1, ← hind]
    have : (printF f).take 3 = f.1 := by rw [hpf, ← htl, List.take_left]
    rw [this]
  · rintro (h1 | h1 | h1 | h1 | h1)
    · simp only [List.length_cons] at h1; omega
    · exact h1 rfl
    · exact h1 rfl
    · exact (mk_no ha).1 h1
    · exact (mk_no hb).1 h1

theorem drop_cons {s : List UInt8} {i : Nat} (h : i < s.length) : s.drop i = s.getD i 0 :: s.drop (i + 1) := drop_getD 0 h
theorem by64 {a : UInt8} : a.toNat = 64 ↔ a = 64 := by rw [← UInt8.toNat_inj]; rfl
theorem by35 {a : UInt8} : a.toNat = 35 ↔ a = 35 := by rw [← UInt8.toNat_inj]; rfl
theorem getD_drop0 (s : List UInt8) (i k : Nat) : (s.drop i).getD k 0 = s.getD (i + k) 0 := by
  rw [List.getD_eq_getElem?_getD, List.getD_eq_getElem?_getD, List.getElem?_drop]
theorem toNat3 (i : Nat) : ((i : Int) + 3).toNat = i + 3 := by omega
theorem toNat4 (i : Nat) : ((i : Int) + 4).toNat = i + 4 := by omega
theorem f77 (s : List UInt8) (hs : s.length ≤ 1000000) : F49 s = some (readP s) := by
  unfold F49
  by_cases h8 : s.length < 8
  · rw [dT (by omega), cond_true]
    unfold readP
    rw [if_pos h8]
  rw [dF (by omega), cond_false, gd_pos (by omega), bnd_eq]
  simp only [show Int.toNat (3 : Int) = 3 from rfl]
  have hrd : readP s = if (authR s).2.length < 4 ∨ (authR s).2.getD 0 0 ≠ 32 ∨ (authR s).2.getD 3 0 ≠ 32 ∨ (authR s).2.getD 1 0 = 32 ∨ (authR s).2.getD 2 0 = 32 then ((s.take 3, [], [], (authR s).1), false)
      else ((s.take 3, [um ((authR s).2.getD 1 0), um ((authR s).2.getD 2 0)], (subR ((authR s).2.drop 4)).1, (authR s).1), (subR ((authR s).2.drop 4)).2) := by
    unfold readP; rw [if_neg h8]
  refine jn_rule (fun y => ∃ i : Nat, y = ((i : Int), (s.take 3, [], (), (authR s).1)) ∧ i ≤ s.length ∧ (authR s).2 = s.drop i) (fun next hn => ?_) ?_
  · rw [gd_pos (by omega)]
    by_cases h64 : s.getD 3 0 = 64
    · have e64 := by64.2 h64
      have hau : authR s = digsR (s.drop 4) 0 := by unfold authR; rw [if_pos h64]
      rw [dT (by omega), cond_true, bnd_eq, show IntKind.wrap .i64 (3 + 1) = 4 from i64_wrap (by omega)]
      refine loopK_rule (fun p : Int × (List UInt8 × List UInt8 × Unit × Int) => ∃ (i : Nat) (n : Int), p = ((i : Int), (s.take 3, [], (), n)) ∧ i ≤ s.length ∧ 0 ≤ n ∧ n ≤ 99999 ∧ digsR (s.drop i) n = authR s) (fun p => s.length - p.1.toNat)
        ⟨4, 0, rfl, by omega, by omega, by omega, hau.symm⟩ (by
          rw [hrd]; split <;> rfl) ?_
      rintro _ again ⟨i, n, rfl, hi, hn0, hn1, hd⟩ hag
      simp only []
      have hstop : digsR (s.drop i) n = (n, s.drop i) → next ((i : Int), (s.take 3, [], (), n)) = some (readP s) := by
        intro e
        rw [hd] at e
        have := hn ((i : Int), (s.take 3, [], (), n)) ⟨i, by rw [e], hi, by rw [e]⟩
        exact this
      by_cases hlt : i < s.length
      · rw [dT (by omega), cond_true, gd_pos (by omega), toNat_nat, f67, bindO_some]
        rw [drop_cons hlt] at hd hstop
        cases hdg : isD (s.getD i 0) with
        | false =>
          rw [cond_false]
          refine hstop ?_
          unfold digsR
          rw [if_neg (by rw [hdg]; simp)]
        | true =>
          rw [cond_true]
          by_cases hn9 : n ≤ 9999
          · rw [dT hn9, cond_true]
            have hlt8 := UInt8.toNat_lt (s.getD i 0)
            simp only [bnd_eq]
            rw [gd_pos (by omega), i64_wrap (n := n * 10) (by omega), i64_wrap (n := ((s.getD i 0).toNat : Int)) (by omega), i64_wrap (n := n * 10 + ((s.getD i 0).toNat : Int)) (by omega), i64_wrap (n := n * 10 + ((s.getD i 0).toNat : Int) - 48) (by omega), i64_wrap (by omega)]
            unfold digsR at hd
            rw [if_pos ⟨hdg, hn9⟩] at hd
            have hr : 48 ≤ (s.getD i 0).toNat ∧ (s.getD i 0).toNat ≤ 57 := by simpa [isD] using hdg
            exact hag _ ⟨i + 1, _, rfl, by omega, by omega, by omega, hd⟩ (by simp only []; omega)
          · rw [dF hn9, cond_false]
            refine hstop ?_
            unfold digsR
            rw [if_neg (fun h => hn9 h.2)]
      · rw [dF (by omega), cond_false]
        refine hstop ?_
        rw [List.drop_eq_nil_of_le (by omega)]
        rfl
    · have e64 : ¬ (s.getD 3 0).toNat = 64 := fun e => h64 (by64.1 e)
      rw [dF (by omega), cond_false]
      have hau : authR s = (0, s.drop 3) := by unfold authR; rw [if_neg h64]
      exact hn _ ⟨3, by rw [hau]; rfl, by omega, by rw [hau]⟩
  rintro _ ⟨i, rfl, hi, hau⟩
  have hlen : (authR s).2.length = s.length - i := by rw [hau, List.length_drop]
  rw [hlen, hau] at hrd
  simp only [getD_drop0, Nat.add_zero, List.drop_drop] at hrd
  generalize (authR s).1 = n at *
  simp only [bnd_eq]
  rw [i64_wrap (n := (i : Int) + 4) (by omega), i64_wrap (n := (i : Int) + 3) (by omega), i64_wrap (n := (i : Int) + 1) (by omega), i64_wrap (n := (i : Int) + 2) (by omega)]
  simp only [toNat_nat, toNat1, toNat2, toNat3]
  by_cases c1 : s.length - i < 4
  · rw [dT (by omega), cond_true]
    rw [if_pos (.inl c1)] at hrd
    rw [hrd]
  rw [dF (by omega), cond_false, gd_pos (by omega)]
  by_cases c2' : ¬ s.getD i 0 = 32
  · have : ¬ (s.getD i 0).toNat = 32 := fun e => c2' (by32.1 e)
    rw [dF (by omega), Bool.not_false, cond_true]
    rw [if_pos (.inr (.inl c2'))] at hrd
    rw [hrd]
  have c2 : s.getD i 0 = 32 := Decidable.not_not.1 c2'
  have e2 := by32.2 c2
  rw [dT (by omega), Bool.not_true, cond_false, gd_pos (by omega)]
  by_cases c3' : ¬ s.getD (i + 3) 0 = 32
  · have : ¬ (s.getD (i + 3) 0).toNat = 32 := fun e => c3' (by32.1 e)
    rw [dF (by omega), Bool.not_false, cond_true]
    rw [if_pos (.inr (.inr (.inl c3')))] at hrd
    rw [hrd]
  have c3 : s.getD (i + 3) 0 = 32 := Decidable.not_not.1 c3'
  have e3 := by32.2 c3
  rw [dT (by omega), Bool.not_true, cond_false, gd_pos (by omega), gd_pos (by omega), gdN_self, gd_pos (by simp), gdN_self]
  generalize ha : s.getD (i + 1) 0 = a at *
  generalize hb : s.getD (i + 2) 0 = b at *
  have hsome : (some (readP s)).isSome = true := rfl
  refine loopK_rule (fun p : Int × (List UInt8 × List UInt8 × Unit × Int) × List UInt8 => (p.1 = 0 ∧ p.2.2 = [a, b]) ∨ (p.1 = 1 ∧ a ≠ 32 ∧ p.2.2 = [um a, b]) ∨ (p.1 = 2 ∧ a ≠ 32 ∧ b ≠ 32 ∧ p.2.2 = [um a, um b])) (fun p => 2 - p.1.toNat)
    (.inl ⟨rfl, rfl⟩) hsome ?_
  rintro ⟨k, junk, l⟩ again hJ hag
  simp only at hJ hag ⊢
  have w1 : IntKind.wrap .i64 (0 + 1) = 1 := i64_wrap (by omega)
  have w2 : IntKind.wrap .i64 (1 + 1) = 2 := i64_wrap (by omega)
  have i32 : UInt8.ofNat (Int.toNat (32 : Int)) = 32 := rfl
  rcases hJ with ⟨rfl, rfl⟩ | ⟨rfl, hA, rfl⟩ | ⟨rfl, hA, hB, rfl⟩
  · simp only [show Int.toNat (0 : Int) = 0 from rfl, show List.getD [a, b] 0 0 = a from rfl, w1, i32, show List.set [a, b] 0 32 = [32, b] from rfl]
    rw [dT (by omega), cond_true, gd_pos (by simp), gd_pos (by simp)]
    by_cases h35 : a = 35
    · have := by35.2 h35
      rw [dT (by omega), cond_true, gd_pos (by simp), gd_pos (by simp), gd_pos (by omega)]
      exact hag _ (.inr (.inl ⟨rfl, by rw [h35]; decide, by rw [h35]; rfl⟩)) (by simp only []; omega)
    · have : ¬ a.toNat = 35 := fun e => h35 (by35.1 e)
      rw [dF (by omega), cond_false, gd_pos (by simp), gd_pos (by simp)]
      by_cases hA : a = 32
      · have := by32.2 hA
        rw [dT (by omega), cond_true]
        rw [if_pos (.inr (.inr (.inr (.inl hA))))] at hrd
        rw [hrd]
      · have : ¬ a.toNat = 32 := fun e => hA (by32.1 e)
        rw [dF (by omega), cond_false]
        exact hag _ (.inr (.inl ⟨rfl, hA, by unfold um; rw [if_neg h35]⟩)) (by simp only []; omega)
  · simp only [show Int.toNat (1 : Int) = 1 from rfl, show List.getD [um a, b] 1 0 = b from rfl, w2, i32, show List.set [um a, b] 1 32 = [um a, 32] from rfl]
    rw [dT (by omega), cond_true, gd_pos (by simp), gd_pos (by simp)]
    by_cases h35 : b = 35
    · have := by35.2 h35
      rw [dT (by omega), cond_true, gd_pos (by simp), gd_pos (by simp), gd_pos (by omega)]
      exact hag _ (.inr (.inr ⟨rfl, hA, by rw [h35]; decide, by rw [h35]; rfl⟩)) (by simp only []; omega)
    · have : ¬ b.toNat = 35 := fun e => h35 (by35.1 e)
      rw [dF (by omega), cond_false, gd_pos (by simp), gd_pos (by simp)]
      by_cases hB : b = 32
      · have := by32.2 hB
        rw [dT (by omega), cond_true]
        rw [if_pos (.inr (.inr (.inr (.inr hB))))] at hrd
        rw [hrd]
      · have : ¬ b.toNat = 32 := fun e => hB (by32.1 e)
        rw [dF (by omega), cond_false]
        exact hag _ (.inr (.inr ⟨rfl, hA, hB, by congr 1; unfold um; rw [if_neg h35]⟩)) (by simp only []; omega)
  rw [dF (by omega), cond_false]
  rw [show gdN 0 (List.length ([] : List (UInt8 × List UInt8))) = id from funext fun x => if_pos rfl]
  simp only [id]
  rw [if_neg (by
    rintro (h1 | h1 | h1 | h1 | h1)
    · exact c1 h1
    · exact h1 c2
    · exact h1 c3
    · exact hA h1
    · exact hB h1)] at hrd
  clear hag hsome
  rw [hrd]
  refine loopK_rule (fun p : Int × (List UInt8 × List UInt8 × Unit × Int) × Field => ∃ (j : Nat) (l : List Sub), p.1 = j ∧ j ≤ s.length ∧ p.2.2 = (s.take 3, [um a, um b], l, n) ∧ l.length ≤ j ∧
      (l ++ (subR (s.drop j)).1, (subR (s.drop j)).2) = subR (s.drop (i + 4))) (fun p => s.length - p.1.toNat) ⟨i + 4, [], by simp, by omega, rfl, by simp, rfl⟩ rfl ?_
  rintro ⟨_, junk2, _⟩ again ⟨j, l, rfl, hj, rfl, hl, he⟩ hag
  simp only at hag ⊢
  by_cases hlt : j < s.length
  · rw [dT (by omega), cond_true, gd_pos (by omega), toNat_nat]
    rw [i64_wrap (n := (j : Int) + 1) (by omega), i64_wrap (n := (j : Int) + 2) (by omega)]
    by_cases h36' : ¬ s.getD j 0 = 36
    · have : ¬ (s.getD j 0).toNat = 36 := fun e => h36' (by36.1 e)
      rw [dF (by omega), Bool.not_false, cond_true]
      have e : subR (s.drop j) = ([], false) := by
        rw [drop_cons hlt]
        cases hd : s.drop (j + 1) with
        | nil => rfl
        | cons d u => rw [subR_cons, if_neg h36']
      rw [e, List.append_nil] at he
      rw [← he]
    have h36 : s.getD j 0 = 36 := Decidable.not_not.1 h36'
    have := by36.2 h36
    rw [dT (by omega), Bool.not_true, cond_false]
    by_cases hend : s.length ≤ j + 1
    · rw [dT (by omega), cond_true]
      have e : subR (s.drop j) = ([], false) := by
        rw [drop_cons hlt, List.drop_eq_nil_of_le hend]; rfl
      rw [e, List.append_nil] at he
      rw [← he]
    rw [dF (by omega), cond_false, gd_pos (by omega), toNat1]
    rw [drop_cons hlt, drop_cons (show j + 1 < s.length by omega), h36, subR_cons, if_pos rfl] at he
    have hin := inner_le (s.drop (j + 1 + 1))
    generalize hu : s.drop (j + 1 + 1) = u at *
    have hul : u.length = s.length - (j + 2) := by rw [← hu, List.length_drop]
    generalize s.getD (j + 1) 0 = d at *
    refine jn_rule (fun y => ∃ v : Nat, y = ((v : Int), d, (inner u).1) ∧ j + 2 ≤ v ∧ v ≤ s.length ∧ s.drop v = (inner u).2) (fun next hn => ?_) ?_
    · refine loopK_rule (fun q : Int × Bool × UInt8 × List UInt8 => ∃ (v : Nat) (x : List UInt8), q.1 = v ∧ q.2.2 = (d, x) ∧ j + 2 ≤ v ∧ v ≤ s.length ∧ x ++ (inner (s.drop v)).1 = (inner u).1 ∧ (inner (s.drop v)).2 = (inner u).2 ∧ x.length ≤ v ∧ (q.2.1 = false → inner (s.drop v) = ([], s.drop v)))
          (fun q => 2 * (s.length - q.1.toNat) + (if q.2.1 = true then 1 else 0)) ⟨j + 2, [], rfl, rfl, by omega, by omega, by rw [show j + 2 = j + 1 + 1 from rfl, hu]; rfl, by rw [show j + 2 = j + 1 + 1 from rfl, hu], by simp, fun h => by cases h⟩ rfl ?_
      rintro ⟨_, open_, _, _⟩ again2 ⟨v, x, rfl, hx, hv0, hv, g1, g2, g3, g4⟩ hag2
      have hx := hx.symm
      simp only [Prod.mk.injEq] at hx
      obtain ⟨rfl, rfl⟩ := hx
      simp only at g4 hag2 ⊢
      have hstop : inner (s.drop v) = ([], s.drop v) → next ((v : Int), d, x) = some ((s.take 3, [um a, um b], (subR (s.drop (i + 4))).1, n), (subR (s.drop (i + 4))).2) := by
        intro e
        rw [e] at g1 g2
        exact hn _ ⟨v, by rw [← g1, List.append_nil], hv0, hv, g2⟩
      cases open_ with
      | false =>
        rw [cond_false]
        exact hstop (g4 rfl)
      | true =>
        rw [cond_true]
        by_cases hvl : v < s.length
        · rw [dT (by omega), cond_true, gd_pos (by omega), toNat_nat]
          rw [i64_wrap (n := (v : Int) + 1) (by omega), i64_wrap (n := (v : Int) + 2) (by omega)]
          simp only [bnd_eq, toNat_nat, toNat1]
          unfold big
          by_cases hc : s.getD v 0 = 36
          · have hc2 := by36.2 hc
            rw [dT (by omega), Bool.not_true, cond_false]
            refine jn_rule (fun y => y = decide (v + 1 < s.length ∧ s.getD (v + 1) 0 = 36)) (fun next2 hn2 => ?_) ?_
            · by_cases hv1 : v + 1 < s.length
              · rw [dT (by omega), cond_true, gd_pos (by omega)]
                refine hn2 _ ?_
                rw [Bool.eq_iff_iff, decide_eq_true_eq, decide_eq_true_eq, ← by36]
                omega
              · rw [dF (by omega), cond_false]
                exact hn2 _ (dF (fun h => hv1 h.1)).symm
            rintro _ rfl
            by_cases hdd : v + 1 < s.length ∧ s.getD (v + 1) 0 = 36
            · rw [dT hdd, cond_true, gd_pos (by simp only [List.length_singleton]; omega)]
              rw [drop_cons hvl, drop_cons hdd.1, hc, hdd.2, inner_two] at g1 g2
              refine hag2 _ ⟨v + 2, x ++ [36], by simp, rfl, by omega, by omega, by rw [List.append_assoc]; exact g1, g2, by simp only [List.length_append, List.length_singleton]; omega, fun h => by cases h⟩ (by
                simp only [if_true]
                have : ((v : Int) + 2).toNat = v + 2 := by omega
                omega)
            · rw [dF hdd, cond_false]
              refine hag2 _ ⟨v, x, rfl, rfl, hv0, hv, g1, g2, g3, fun _ => ?_⟩ (by simp)
              rw [drop_cons hvl, hc]
              by_cases hv1 : v + 1 < s.length
              · rw [drop_cons hv1]
                exact inner_one (fun e => hdd ⟨hv1, e⟩) _
              · rw [List.drop_eq_nil_of_le (by omega)]; rfl
          · have hc2 : ¬ (s.getD v 0).toNat = 36 := fun e => hc (by36.1 e)
            rw [dF (by omega), Bool.not_false, cond_true, gd_pos (by omega), one_at s hvl, gd_pos (by simp only [List.length_singleton]; omega)]
            rw [drop_cons hvl, inner_cons hc] at g1 g2
            refine hag2 _ ⟨v + 1, x ++ [s.getD v 0], by simp, rfl, by omega, by omega, by rw [List.append_assoc]; exact g1, g2, by simp only [List.length_append, List.length_singleton]; omega, fun h => by cases h⟩ (by
              simp only [if_true]
              have : ((v : Int) + 1).toNat = v + 1 := by omega
              omega)
        · rw [dF (by omega), cond_false]
          refine hstop ?_
          rw [List.drop_eq_nil_of_le (by omega)]; rfl
    rintro _ ⟨v, rfl, hv0, hv, hdv⟩
    simp only [gdN_self, bnd_eq]
    unfold big
    rw [gd_pos (by simp only [List.length_singleton]; omega)]
    refine hag _ ⟨v, l ++ [(d, (inner u).1)], rfl, hv, rfl, by simp only [List.length_append, List.length_singleton]; omega, ?_⟩ (by simp only [Int.toNat_natCast]; omega)
    rw [hdv, ← he, List.append_assoc]; rfl
  · rw [dF (by omega), cond_false]
    rw [List.drop_eq_nil_of_le (by omega), subR_nil, List.append_nil] at he
    rw [← he]
theorem f52 (s : List UInt8) (hs : s.length ≤ 1000000) : F25 s = some (parseP s) := by
  unfold F25
  rw [f77 s hs, bindO_some]
  cases hb : (readP s).2 with
  | false =>
    rw [Bool.not_false, cond_true, parseP_no]
    · rfl
    · rintro ⟨f, h1, rfl⟩
      rw [readP_print (okF_of h1)] at hb
      cases hb
  | true =>
    rw [Bool.not_true, cond_false]
    have hsz : sizeS (readP s).1.2.2.1 := by
      unfold readP
      split
      · intro x hx; cases hx
      · split
        · intro x hx; cases hx
        · rename_i h8 _
          intro x hx
          have h1 := subsR_small _ _ x hx
          have h2 : (authR s).2.length ≤ s.length := by
            unfold authR
            split
            · have := digsR_len (s.drop 4) 0
              rw [List.length_drop] at this; omega
            · rw [List.length_drop]; omega
          rw [List.length_drop] at h1
          omega
    rw [f30 _ hsz, bindO_some]
    unfold printP
    by_cases he : errF (readP s).1 = 0
    · rw [if_pos he]
      dsimp only
      rw [dT rfl, Bool.not_true, cond_false]
      by_cases hp : printF (readP s).1 = s
      · rw [dT hp, Bool.not_true, cond_false]
        have := parseP_print he
        rw [hp] at this
        rw [this]
      · rw [dF hp, Bool.not_false, cond_true, parseP_no]
        · rfl
        · rintro ⟨f, h1, rfl⟩
          rw [readP_print (okF_of h1)] at hp
          exact hp rfl
    · rw [if_neg he]
      dsimp only
      rw [dF he, Bool.not_false, cond_true, parseP_no]
      · rfl
      · rintro ⟨f, h1, rfl⟩
        rw [readP_print (okF_of h1)] at he
        exact he h1
end Go.Proofs.YtggdnnjabdcgjaaGreatDoor
