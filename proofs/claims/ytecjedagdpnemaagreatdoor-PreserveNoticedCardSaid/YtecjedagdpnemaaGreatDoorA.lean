/-
  Chapter 47: digests (turned from chapter 44). No condition.
-/
import Derived.Test.YtecjedagdpnemaaGreatDoorF
import Derived.Test.YtecjedagdpnemaaGreatDoorK4
import Derived.Lib.ValidLaws
import Derived.Lib.TrimUEq
import Derived.Lib.SplitLaws
import Derived.Lib.Replace
import Derived.Lib.AtoiAll
import Derived.Lib.SlTrimSet
import Derived.Lib.ItoaNum
import Derived.Lib.IndexMore
namespace Go.Proofs.YtecjedagdpnemaaGreatDoor
open Go Go.Nu
attribute [local simp] bnd gdN_self bindO_some
def hexOf (u : Nat) : List UInt8 := if u < 16 then [dg u] else hexOf (u / 16) ++ [dg (u % 16)]
termination_by u
decreasing_by omega
theorem hexOf_lt {u : Nat} (h : u < 16) : hexOf u = [dg u] := by rw [hexOf, if_pos h]
theorem hexOf_ge {u : Nat} (h : ¬ u < 16) : hexOf u = hexOf (u / 16) ++ [dg (u % 16)] := by rw [hexOf, if_neg h]
theorem hexPad_zero : ∀ n, hexPad n 0 = List.replicate n 48
  | 0 => rfl
  | n + 1 => by
    rw [hexPad, Nat.zero_div, hexPad_zero n, List.replicate_succ']
    rfl
theorem hexPad_eq : ∀ (n u : Nat), u < 16 ^ (n + 1) → (hexOf u).length ≤ n + 1 ∧ hexPad (n + 1) u = List.replicate (n + 1 - (hexOf u).length) 48 ++ hexOf u
  | 0, u, h => by
    have h : u < 16 := by simpa using h
    rw [hexOf_lt h]
    refine ⟨by simp, ?_⟩
    simp [hexPad, Nat.mod_eq_of_lt h]
  | n + 1, u, h => by
    by_cases hu : u < 16
    · rw [hexOf_lt hu]
      refine ⟨by simp, ?_⟩
      rw [hexPad, Nat.div_eq_of_lt hu, hexPad_zero, Nat.mod_eq_of_lt hu]
      simp
    · have h2 : u / 16 < 16 ^ (n + 1) := by
        rw [Nat.pow_succ] at h
        omega
      obtain ⟨h3, h4⟩ := hexPad_eq n (u / 16) h2
      rw [hexOf_ge hu]
      refine ⟨by simp; omega, ?_⟩
      rw [hexPad, h4, List.length_append, List.append_assoc]
      simp
theorem dg_hex : ∀ n, (48 ≤ (dg n).toNat ∧ (dg n).toNat ≤ 57) ∨ (97 ≤ (dg n).toNat ∧ (dg n).toNat ≤ 102) ∨ 16 ≤ n := by
  intro n
  rcases Nat.lt_or_ge n 16 with h | h
  · have : ∀ k : Fin 16, (48 ≤ (dg k).toNat ∧ (dg k).toNat ≤ 57) ∨ (97 ≤ (dg k).toNat ∧ (dg k).toNat ≤ 102) := by decide
    rcases this ⟨n, h⟩ with h | h
    · exact .inl h
    · exact .inr (.inl h)
  · exact .inr (.inr h)
theorem and15 (u : Nat) (h : u < 18446744073709551616) : andI .u64 (u : Int) 15 = ((u % 16 : Nat) : Int) := by
  unfold andI
  have e1 : (BitVec.ofInt IntKind.u64.bits (u : Int)) = BitVec.ofNat 64 u := by simp [IntKind.bits]
  have e2 : (BitVec.ofInt IntKind.u64.bits (15 : Int)) = BitVec.ofNat 64 15 := by simp [IntKind.bits]
  rw [e1, e2]
  have e3 : (BitVec.ofNat 64 u &&& BitVec.ofNat 64 15).toNat = u % 16 := by
    rw [BitVec.toNat_and, BitVec.toNat_ofNat, BitVec.toNat_ofNat, Nat.mod_eq_of_lt (a := u) (by omega), show (15 : Nat) % 2 ^ 64 = 2 ^ 4 - 1 by decide, Nat.and_two_pow_sub_one_eq_mod]
  show IntKind.u64.wrap ((BitVec.ofNat 64 u &&& BitVec.ofNat 64 15).toNat : Int) = _
  rw [e3]
  exact u64_wrap (by omega)
theorem shr4 (u : Nat) : shrI .u64 (u : Int) 4 = ((u / 16 : Nat) : Int) := by
  unfold shrI
  show (u : Int).fdiv (2 ^ (min (4 : Int).toNat 64)) = _
  rw [show (2 : Int) ^ (min (4 : Int).toNat 64) = 16 by decide, Int.fdiv_eq_ediv_of_nonneg _ (by omega)]
  omega
theorem digs (n : Nat) (h : n < 16) : ([48, 49, 50, 51, 52, 53, 54, 55, 56, 57, 97, 98, 99, 100, 101, 102, 103, 104, 105, 106, 107, 108, 109, 110, 111, 112, 113, 114, 115, 116, 117, 118, 119, 120, 121, 122] : List UInt8).getD n 0 = dg n := by
  unfold dg
  have : ∀ k : Fin 16, ([48, 49, 50, 51, 52, 53, 54, 55, 56, 57, 97, 98, 99, 100, 101, 102, 103, 104, 105, 106, 107, 108, 109, 110, 111, 112, 113, 114, 115, 116, 117, 118, 119, 120, 121, 122] : List UInt8).getD k.val 0 = ([48, 49, 50, 51, 52, 53, 54, 55, 56, 57, 97, 98, 99, 100, 101, 102] : List UInt8).getD k.val 0 := by decide
  exact this ⟨n, h⟩
theorem drop_set {l : List UInt8} {n : Nat} {x : UInt8} (h : n < l.length) : (l.set n x).drop n = x :: l.drop (n + 1) := by
  rw [List.drop_eq_getElem_cons (by simpa using h), List.drop_set_of_lt (by omega)]
  simp
theorem f66 : F153 16 = some true := by
  unfold F153
  simp only [bnd]
  rw [i64_wrap (by omega)]
  have : andI .i64 16 (16 - 1) = 0 := by unfold andI; decide
  rw [this]
  rfl
theorem fTZ16 : fTZ 16 = some 4 := by
  unfold fTZ
  rw [if_pos (by omega)]
  rfl
set_option maxRecDepth 4000 in
theorem f54 (u0 : Nat) (hu : u0 < 18446744073709551616) : F139 [] (u0 : Int) 16 false false = some ([], hexOf u0) := by
  unfold F139
  simp only [show ¬ ((16 : Int) < 2) by omega, show ¬ ((16 : Int) = 10) by omega, show ¬ ((36 : Int) < 16) by omega, decide_false, cond_false, cond_true, jn_eq, f66, bindO_some, fTZ16, bnd]
  rw [u64_wrap (n := 16) (by omega), u64_wrap (n := 16 - 1) (by omega), fTZ16, bindO_some, u64_wrap (n := 4) (by omega)]
  refine loopK_rule (fun x => ∃ u i : Nat, x.1 = u ∧ x.2.1 = i ∧ u < 16 ^ (i - 49) ∧ 49 ≤ i ∧ i ≤ 65 ∧ x.2.2.length = 65 ∧ hexOf u0 = hexOf u ++ x.2.2.drop i)
    (fun x => x.2.1.toNat) ⟨u0, 65, rfl, rfl, hu, by omega, by omega, by simp, by simp⟩ rfl ?_
  rintro ⟨u', i', L⟩ again ⟨u, i, e1, e2, h1, h2, h3, h4, h5⟩ hag
  simp only [] at e1 e2 h4 h5 hag
  subst e1 e2
  simp only []
  have hlt : u < 18446744073709551616 := by
    have : 16 ^ (i - 49) ≤ 16 ^ 16 := Nat.pow_le_pow_right (by omega) (by omega)
    omega
  by_cases hc : 16 ≤ u
  · have hi : 50 ≤ i := by
      rcases Nat.lt_or_ge i 50 with hh | hh
      · have : i - 49 = 0 := by omega
        rw [this] at h1
        omega
      · exact hh
    have hm := digs (u % 16) (by omega)
    rw [decide_eq_true (by omega), cond_true, i64_wrap (by omega), show (16 : Int) - 1 = 15 by omega, and15 u hlt, shr4]
    rw [gd_pos (by simp; omega), gd_pos (by omega), gd_pos (by omega), gd_pos (by omega)]
    rw [show (((u % 16 : Nat) : Int)).toNat = u % 16 by omega, hm, show ((i : Int) - 1).toNat = i - 1 by omega]
    refine hag _ ⟨u / 16, i - 1, rfl, by simp; omega, ?_, by omega, by omega, by simpa using h4, ?_⟩ (by simp; omega)
    · rw [show i - 49 = i - 1 - 49 + 1 by omega, Nat.pow_succ] at h1
      omega
    · rw [drop_set (by omega), h5, hexOf_ge (by omega), show i - 1 + 1 = i by omega]
      simp
  · have hm := digs u (by omega)
    rw [decide_eq_false (by omega), cond_false, i64_wrap (by omega), gd_pos (by simp; omega), gd_pos (by omega), gd_pos (by omega)]
    rw [gd_pos (by simp; omega)]
    rw [show ((u : Int)).toNat = u by omega, hm, show ((i : Int) - 1).toNat = i - 1 by omega, drop_set (by omega), h5, hexOf_lt (by omega), show i - 1 + 1 = i by omega]
    rfl
theorem f31 (u0 : Nat) (hu : u0 < 18446744073709551616) : F104 (u0 : Int) 16 = some (hexOf u0) := by
  unfold F104 F121
  simp only [show ¬ ((16 : Int) = 10) by omega, decide_false, cond_false, f54 u0 hu, bindO_some]
theorem wrap_u64 (n : Int) : 0 ≤ IntKind.u64.wrap n ∧ IntKind.u64.wrap n < 18446744073709551616 := by rw [IntKind.wrap_u64]; omega
theorem xor_u64 (a b : Int) : 0 ≤ xorI .u64 a b ∧ xorI .u64 a b < 18446744073709551616 := by unfold xorI; exact wrap_u64 _
theorem fin_range (h : Int) : 0 ≤ fin h ∧ fin h < 18446744073709551616 := xor_u64 _ _
theorem fnv_cons (h : Int) (b : UInt8) (l : List UInt8) : fnv h (b :: l) = fnv (stp h b) l := rfl
theorem fnv_append (h : Int) (a b : List UInt8) : fnv h (a ++ b) = fnv (fnv h a) b := List.foldl_append
theorem drop_at {α : Type} {l : List α} {i : Nat} {d : α} (h : i < l.length) : l.drop i = l.getD i d :: l.drop (i + 1) := by
  rw [List.drop_eq_getElem_cons h]
  simp [List.getD_eq_getElem?_getD, h]
theorem digs16 (n : Nat) : ([48, 49, 50, 51, 52, 53, 54, 55, 56, 57, 97, 98, 99, 100, 101, 102] : List UInt8).getD n 0 = dg n := rfl
theorem f13 (l : List UInt8) (hl : l.length < 4611686018427387904) : F71 l = some (dig l) := by
  unfold F71
  refine loopK_rule (fun x => ∃ i : Nat, x.2 = i ∧ i ≤ l.length ∧ fnv x.1 (l.drop i) = fnv 14695981039346656037 l) (fun x => l.length - x.2.toNat) ⟨0, rfl, by omega, rfl⟩ rfl ?_
  rintro ⟨h, i'⟩ again ⟨i, e1, h1, h2⟩ hag
  simp only [] at e1 h2 hag
  subst e1
  simp only []
  by_cases hc : i < l.length
  · rw [decide_eq_true (by omega), cond_true, gd_pos (by omega)]
    simp only [bnd]
    rw [i64_wrap (by omega)]
    refine hag _ ⟨i + 1, by simp, by omega, ?_⟩ (by simp; omega)
    rw [drop_at (d := 0) hc, fnv_cons] at h2
    simpa [stp] using h2
  · simp only [bnd]
    rw [decide_eq_false (by omega), cond_false, gd_pos (by omega), gd_pos (by omega), gd_pos (by omega)]
    obtain rfl : i = l.length := by omega
    rw [List.drop_length] at h2
    obtain rfl : h = fnv 14695981039346656037 l := h2
    have hr := fin_range (fnv 14695981039346656037 l)
    unfold dig
    generalize hf : fnv 14695981039346656037 l = h0 at hr
    show loopK _ (fin h0, _) = _
    generalize fin h0 = u at hr
    obtain ⟨n, rfl⟩ : ∃ n : Nat, u = n := ⟨u.toNat, by omega⟩
    rw [show ((n : Int)).toNat = n by omega]
    refine loopK_rule (fun x => ∃ u i : Nat, x.1 = u ∧ x.2.2 = i ∧ u < 18446744073709551616 ∧ i ≤ 16 ∧ x.2.1.length = i ∧ hexPad (16 - i) u ++ x.2.1 = hexPad 16 n) (fun x => 16 - x.2.2.toNat)
      ⟨n, 0, rfl, rfl, by omega, by omega, rfl, by simp⟩ rfl ?_
    rintro ⟨u', b, i'⟩ again ⟨u, i, e1, e2, h1, h2, h3, h4⟩ hag
    simp only [] at e1 e2 h3 h4 hag
    subst e1 e2
    simp only []
    by_cases hc : i < 16
    · have e1 : (u : Int).tmod 16 = ((u % 16 : Nat) : Int) := by rw [Int.tmod_eq_emod_of_nonneg (by omega)]; omega
      have e2 : (u : Int).tdiv 16 = ((u / 16 : Nat) : Int) := by rw [Int.tdiv_eq_ediv_of_nonneg (by omega)]; omega
      rw [e1, e2, decide_eq_true (by omega), cond_true, gd_pos (by omega), gd_pos (by simp; omega), gdN_self, gd_pos (by simp [h3, big]; omega), gd_pos (by omega), i64_wrap (by omega)]
      rw [show (((u % 16 : Nat) : Int)).toNat = u % 16 by omega, digs16, u64_wrap (by omega)]
      refine hag _ ⟨u / 16, i + 1, rfl, by simp, by omega, by omega, by simp [h3], ?_⟩ (by simp; omega)
      rw [show 16 - i = 16 - (i + 1) + 1 by omega, hexPad] at h4
      simpa using h4
    · rw [decide_eq_false (by omega), cond_false]
      obtain rfl : i = 16 := by omega
      simpa [hexPad] using h4
theorem f25 (p : List (List UInt8)) (hp : p.length < 4611686018427387904) (hl : ∀ s ∈ p, s.length < 4611686018427387904) : F90 p = some (dig p.flatten) := by
  unfold F90
  refine loopK_rule (fun x => ∃ i : Nat, x.2 = i ∧ i ≤ p.length ∧ fnv x.1 (p.drop i).flatten = fnv 14695981039346656037 p.flatten) (fun x => p.length - x.2.toNat) ⟨0, rfl, by omega, rfl⟩ rfl ?_
  rintro ⟨h, i'⟩ again ⟨i, e1, h1, h2⟩ hag
  simp only [] at e1 h2 hag
  subst e1
  simp only []
  by_cases hc : i < p.length
  · rw [decide_eq_true (by omega), cond_true, gd_pos (by omega), show ((i : Int)).toNat = i by omega]
    rw [drop_at (d := []) hc, List.flatten_cons, fnv_append] at h2
    have hs : (p.getD i []).length < 4611686018427387904 := hl _ (by rw [List.getD_eq_getElem?_getD, List.getElem?_eq_getElem hc]; exact List.getElem_mem _)
    generalize p.getD i [] = s at h2 hs
    refine loopK_rule (fun x => ∃ k : Nat, x.2 = k ∧ k ≤ s.length ∧ fnv x.1 (s.drop k) = fnv h s) (fun x => s.length - x.2.toNat) ⟨0, rfl, by omega, rfl⟩ rfl ?_
    rintro ⟨g, k'⟩ again2 ⟨k, e1, g1, g2⟩ hag2
    simp only [] at e1 g2 hag2
    subst e1
    simp only []
    by_cases hk : k < s.length
    · rw [decide_eq_true (by omega), cond_true, gd_pos (by omega)]
      simp only [bnd]
      rw [i64_wrap (by omega)]
      refine hag2 _ ⟨k + 1, by simp, by omega, ?_⟩ (by simp; omega)
      rw [drop_at (d := 0) hk, fnv_cons] at g2
      simpa [stp] using g2
    · rw [decide_eq_false (by omega), cond_false]
      simp only [bnd]
      rw [i64_wrap (by omega)]
      refine hag _ ⟨i + 1, by simp, by omega, ?_⟩ (by simp; omega)
      obtain rfl : k = s.length := by omega
      rw [List.drop_length] at g2
      rw [show g = fnv h s from g2]
      exact h2
  · simp only [bnd]
    rw [decide_eq_false (by omega), cond_false, gd_pos (by omega), gd_pos (by omega), gd_pos (by omega)]
    obtain rfl : i = p.length := by omega
    rw [List.drop_length] at h2
    obtain rfl : h = fnv 14695981039346656037 p.flatten := h2
    have hr := fin_range (fnv 14695981039346656037 p.flatten)
    unfold dig
    generalize hf : fnv 14695981039346656037 p.flatten = h0 at hr
    show bindO (F104 (fin h0) 16) _ = _
    generalize fin h0 = u at hr
    obtain ⟨n, rfl⟩ : ∃ n : Nat, u = n := ⟨u.toNat, by omega⟩
    obtain ⟨g1, g2⟩ := hexPad_eq 15 n (by omega)
    rw [f31 n (by omega), bindO_some, i64_wrap (by omega), show ((n : Int)).toNat = n by omega, g2]
    unfold fRepeat
    rw [if_pos ⟨by omega, by omega, by simp; omega⟩, bindO_some]
    have hrep : ∀ k, Lib.repeatL [48] k = List.replicate k 48 := by
      intro k
      induction k with
      | zero => rfl
      | succ k ih => rw [Lib.repeatL, ih]; rfl
    rw [hrep, gd_pos (by simp [big]; omega), show ((16 : Int) - ((hexOf n).length : Int)).toNat = 15 + 1 - (hexOf n).length by omega]
theorem f11 (s : List UInt8) (h : s.length < 4611686018427387904) : F73 s = some (dig s) := by
  unfold F73
  rw [f25 _ (by simp) (by simpa using h)]
  simp [bindO_some]
theorem f12 (a b : List UInt8) (ha : a.length < 4611686018427387904) (hb : b.length < 4611686018427387904) : F118 a b = some (dig (49 :: (a ++ b))) := by
  unfold F118
  rw [f25 _ (by simp) (by simp; exact ⟨ha, hb⟩)]
  simp [bindO_some]
set_option maxRecDepth 10000 in
theorem hex_mem (b : UInt8) : (([48, 49, 50, 51, 52, 53, 54, 55, 56, 57, 97, 98, 99, 100, 101, 102] : List UInt8).contains b) = isHex b := by
  have : ∀ k : Fin 256, (([48, 49, 50, 51, 52, 53, 54, 55, 56, 57, 97, 98, 99, 100, 101, 102] : List UInt8).contains (UInt8.ofNat k)) = isHex (UInt8.ofNat k) := by decide
  have h := this ⟨b.toNat, b.toNat_lt⟩
  simpa using h
theorem trim_nil (l cs : List UInt8) : Lib.trimS l cs = [] ↔ l.all (cs.contains ·) = true := by
  unfold Lib.trimS Lib.trimLeftS Lib.trimRightS
  have dw : ∀ (p : UInt8 → Bool) (l : List UInt8), l.dropWhile p = [] ↔ l.all p = true := by
    intro p l
    induction l with
    | nil => simp
    | cons a l ih =>
      rw [List.dropWhile_cons]
      by_cases h : p a = true
      · simp [h, ih]
      · simp [h]
  rw [dw]
  constructor
  · intro h
    rw [List.all_reverse] at h
    rcases hq : l.reverse.dropWhile (cs.contains ·) with _ | ⟨a, q⟩
    · have := (dw _ _).1 hq
      rwa [List.all_reverse] at this
    · exfalso
      rw [hq] at h
      have h1 : cs.contains a = true := by
        simp only [List.all_cons, Bool.and_eq_true] at h
        exact h.1
      have h2 := List.head_dropWhile_not (p := (cs.contains ·)) (l := l.reverse) (by rw [hq]; simp)
      simp only [hq, List.head_cons] at h2
      rw [h1] at h2
      cases h2
  · intro h
    have : l.reverse.dropWhile (cs.contains ·) = [] := (dw _ _).2 (by rwa [List.all_reverse])
    rw [this]
    rfl
theorem f15 (d : List UInt8) : F82 d = some (isDig d) := by
  unfold F82 isDig
  by_cases h : d.length = 16
  · rw [decide_eq_true (by omega), cond_true]
    unfold fTrim
    rw [if_pos ⟨by omega, by simp, by decide⟩, bindO_some, h]
    congr 1
    rw [decide_eq_true rfl, Bool.true_and, Bool.eq_iff_iff, decide_eq_true_eq, trim_nil]
    simp only [hex_mem]
  · rw [decide_eq_false (by omega), cond_false, decide_eq_false h]
    rfl
theorem dig_isDig (s : List UInt8) : isDig (dig s) = true := by
  unfold isDig
  rw [dig_len, decide_eq_true rfl, Bool.true_and]
  unfold dig
  have : ∀ n u, (hexPad n u).all isHex = true := by
    intro n
    induction n with
    | zero => intro u; rfl
    | succ n ih =>
      intro u
      rw [hexPad, List.all_append, ih, Bool.true_and]
      have := dg_hex (u % 16)
      simp only [List.all_cons, List.all_nil, Bool.and_true]
      unfold isHex
      apply decide_eq_true
      omega
  exact this _ _
def Ok (l : List (List UInt8)) : Prop := l.length ≤ 100000 ∧ ∀ s ∈ l, s.length ≤ 100000
theorem getD_len {l : List (List UInt8)} (h : Ok l) (i : Nat) : (l.getD i []).length ≤ 100000 := by
  rw [List.getD_eq_getElem?_getD]
  cases hq : l[i]? with
  | none => simp
  | some a => exact h.2 a (List.mem_of_getElem? hq)
theorem up_ok : ∀ l, Ok l → Ok (up l)
  | [], h => h
  | [a], h => h
  | a :: b :: l, h => by
    have ih := up_ok l ⟨by have := h.1; simp at this; omega, fun s hs => h.2 s (by simp [hs])⟩
    refine ⟨by rw [up_len]; have := h.1; omega, fun s hs => ?_⟩
    rcases List.mem_cons.1 hs with rfl | hs
    · rw [join_len]; omega
    · exact ih.2 s hs
theorem f27 (l : List (List UInt8)) (h : Ok l) : F96 l = some (l.map leaf) := by
  obtain ⟨h0, h0'⟩ := h
  unfold F96
  rw [gd_pos (by simp [big]; omega)]
  refine loopK_rule (fun x => ∃ i : Nat, x.1 = i ∧ i ≤ l.length ∧ x.2.length = l.length ∧ x.2.take i = (l.take i).map leaf) (fun x => l.length - x.1.toNat) ⟨0, rfl, by omega, by simp, by simp⟩ rfl ?_
  rintro ⟨i', L⟩ again ⟨i, e1, h1, h2, h3⟩ hag
  simp only [] at e1 h2 h3 hag
  subst e1
  simp only []
  by_cases hc : i < l.length
  · have hs := getD_len ⟨h0, h0'⟩ i
    rw [decide_eq_true (by omega), cond_true, gd_pos (by omega), show ((i : Int)).toNat = i by omega, f25 _ (by simp) (by simp [-List.getD_eq_getElem?_getD]; omega), bindO_some, gd_pos (by omega), gd_pos (by omega)]
    simp only [bnd]
    rw [i64_wrap (by omega)]
    refine hag _ ⟨i + 1, by simp, by omega, by simpa using h2, ?_⟩ (by simp; omega)
    rw [List.take_add_one, List.take_add_one, List.map_append, List.take_set_of_le (Nat.le_refl _), h3]
    congr 1
    simp [List.getElem?_set, h2, hc, List.getD_eq_getElem?_getD, leaf]
  · rw [decide_eq_false (by omega), cond_false]
    obtain rfl : i = l.length := by omega
    rw [List.take_of_length_le (by omega), List.take_of_length_le (by omega)] at h3
    rw [h3]
theorem f28 (l : List (List UInt8)) (h : Ok l) : F97 l = some (up l) := by
  unfold F97
  rw [gdN_self]
  have hl := h.1
  refine loopK_rule (fun x => ∃ i : Nat, x.2 = i ∧ i ≤ l.length + 1 ∧ x.1.length ≤ i ∧ x.1 ++ up (l.drop i) = up l) (fun x => l.length + 1 - x.2.toNat) ⟨0, rfl, by omega, by simp, by simp⟩ rfl ?_
  rintro ⟨L, i'⟩ again ⟨i, e1, h1, h2, h3⟩ hag
  simp only [] at e1 h2 h3 hag
  subst e1
  simp only []
  by_cases hc : i < l.length
  · have hs := getD_len h i
    have hs1 := getD_len h (i + 1)
    simp only [bnd]
    rw [decide_eq_true (by omega), cond_true, i64_wrap (by omega), i64_wrap (by omega)]
    by_cases hd : i + 1 = l.length
    · rw [decide_eq_true (by omega), cond_true, gd_pos (by omega), gdN_self, gd_pos (by simp [big]; omega), gdN_self]
      refine hag _ ⟨i + 2, by simp, by omega, by simp; omega, ?_⟩ (by simp; omega)
      rw [drop_at (d := []) hc, List.drop_of_length_le (show l.length ≤ i + 1 by omega)] at h3
      rw [List.drop_of_length_le (by omega), show ((i : Int)).toNat = i by omega]
      simpa [up] using h3
    · rw [decide_eq_false (by omega), cond_false, gd_pos (by omega), gd_pos (by omega), show ((i : Int)).toNat = i by omega, show ((i : Int) + 1).toNat = i + 1 by omega, f12 _ _ (by omega) (by omega), bindO_some, gdN_self, gd_pos (by simp [big]; omega), gdN_self]
      refine hag _ ⟨i + 2, by simp, by omega, by simp; omega, ?_⟩ (by simp; omega)
      rw [drop_at (d := []) hc, drop_at (d := []) (show i + 1 < l.length by omega), up] at h3
      simpa [join] using h3
  · rw [decide_eq_false (by omega), cond_false]
    rw [List.drop_of_length_le (by omega)] at h3
    simpa [up] using h3
theorem top_one {l : List (List UInt8)} (h : l.length ≤ 1) : top l = l.getD 0 [] := by rw [top, if_pos h]
theorem top_up {l : List (List UInt8)} (h : ¬ l.length ≤ 1) : top l = top (up l) := by rw [top, if_neg h]
theorem leaf_ok {l : List (List UInt8)} (h : Ok l) : Ok (l.map leaf) := by
  refine ⟨by rw [List.length_map]; exact h.1, fun s hs => ?_⟩
  obtain ⟨a, _, rfl⟩ := List.mem_map.1 hs
  rw [leaf, dig_len]
  omega
theorem f18 (l : List (List UInt8)) (h : Ok l) : F78 l = some (root l) := by
  unfold F78 root
  by_cases h0 : l.length = 0
  · rw [decide_eq_true (by omega), cond_true, f11 _ (by simp), bindO_some, if_pos h0]
  · rw [decide_eq_false (by omega), cond_false, f27 l h, bindO_some, if_neg h0]
    refine loopK_rule (fun x => x.length ≠ 0 ∧ Ok x ∧ top x = top (l.map leaf)) (fun x => x.length) ⟨by simpa using h0, leaf_ok h, rfl⟩ rfl ?_
    rintro x again ⟨h1, h2, h3⟩ hag
    by_cases hc : 1 < x.length
    · rw [decide_eq_true (by omega), cond_true, f28 x h2, bindO_some]
      exact hag _ ⟨by rw [up_len]; omega, up_ok x h2, by rw [← h3, top_up (l := x) (by omega)]⟩ (by rw [up_len]; omega)
    · rw [decide_eq_false (by omega), cond_false, gd_pos (by omega), ← h3, top_one (by omega)]
      rfl
end Go.Proofs.YtecjedagdpnemaaGreatDoor
