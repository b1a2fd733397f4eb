/-
  Chapter 44: split, the reference's Verify, same. No condition.
-/
import Derived.Test.YthpgkpcnajookaaGreatDoorT
namespace Go.Proofs.YthpgkpcnajookaaGreatDoor
open Go Go.Nu

def splitP (t : List UInt8) : Int × List UInt8 × Bool :=
  if (Lib.cut t [32]).2.2 = true then ((numP (Lib.cut t [32]).1).1, (Lib.cut t [32]).2.1, (numP (Lib.cut t [32]).1).2) else (0, [], false)
theorem g47 (s : List UInt8) (hs : s.length ≤ 1000000) : F47 s = some (splitP s) := by
  unfold F47 splitP
  rw [cut_one]
  have hfl := findN_le s 32
  refine loopK_rule (fun p : Int => ∃ i : Nat, p = i ∧ i ≤ s.length ∧ i + findN (s.drop i) 32 = findN s 32) (fun p => s.length - p.toNat) ⟨0, rfl, by omega, by simp⟩ (by split <;> rfl) ?_
  rintro _ again ⟨i, rfl, hi, he⟩ hag
  by_cases hlt : i < s.length
  · rw [dT (by omega), cond_true, gd_pos (by omega), toNat_nat]
    rw [drop_cons hlt, findN_cons] at he
    by_cases hc : s.getD i 0 = 32
    · have h10 : (s.getD i 0).toNat = 32 := by rw [hc]; rfl
      rw [dT (by omega), cond_true, gd_pos (by omega), bnd_eq, f76, bindO_some, bnd_eq, i64_wrap (by omega), gd_pos (by omega), bnd_eq, toNat1]
      rw [if_pos hc] at he
      have hk : findN s 32 = i := by omega
      rw [hk, if_pos hlt, if_pos rfl]
    · have h10 : ¬ (s.getD i 0).toNat = 32 := fun e => hc (by rw [← UInt8.toNat_inj]; exact e)
      rw [dF (by omega), cond_false, bnd_eq, i64_wrap (by omega)]
      rw [if_neg hc] at he
      exact hag _ ⟨i + 1, by omega, by omega, by omega⟩ (by omega)
  · rw [dF (by omega), cond_false]
    have hi2 : i = s.length := by omega
    subst hi2
    have hf0 : findN (s.drop s.length) 32 = 0 := by rw [List.drop_length]; rfl
    rw [hf0] at he
    rw [if_neg (show ¬ findN s 32 < s.length by omega)]
    rfl

/-! ### the lines of a manifest -/
theorem isDig_no {d : List UInt8} (h : isDig d = true) : d.length = 16 ∧ (32 : UInt8) ∉ d ∧ (10 : UInt8) ∉ d := by
  unfold isDig at h
  rw [Bool.and_eq_true, decide_eq_true_eq] at h
  exact ⟨h.1, not_mem_of h.2 rfl, not_mem_of h.2 rfl⟩
theorem path_ne {p : List UInt8} (h : pathB p = true) : p ≠ [] ∧ p.length ≤ 60 := by
  unfold pathB at h
  rw [Bool.and_eq_true, decide_eq_true_eq] at h
  refine ⟨?_, h.1⟩
  rintro rfl
  have h2 := h.2
  rw [segs_no (by simp)] at h2
  simp [partB] at h2
/-- A line that holds a digest, a space and a path, seen by places or by the first space. -/
theorem line_two (t : List UInt8) : (18 ≤ t.length ∧ isDig (t.take 16) = true ∧ t.getD 16 0 = 32 ∧ pathB (t.drop 17) = true) ↔ ((Lib.cut t [32]).2.2 = true ∧ isDig (Lib.cut t [32]).1 = true ∧ pathB (Lib.cut t [32]).2.1 = true) := by
  constructor
  · rintro ⟨h1, h2, h3, h4⟩
    have e : t = t.take 16 ++ 32 :: t.drop 17 := by
      conv => lhs; rw [← List.take_append_drop 16 t, drop_getD 0 (show 16 < t.length by omega), h3]
    rw [e, cut_at (isDig_no h2).2.1]
    exact ⟨rfl, h2, h4⟩
  · rintro ⟨h1, h2, h3⟩
    have e := (cut_true h1).1
    generalize (Lib.cut t [32]).1 = a at *
    generalize (Lib.cut t [32]).2.1 = b at *
    have ha := (isDig_no h2).1
    have hb : 0 < b.length := List.length_pos_iff.2 (path_ne h3).1
    subst e
    have e1 : (a ++ 32 :: b).take 16 = a := by rw [← ha, List.take_left]
    have e2 : (a ++ 32 :: b).drop 17 = b := by
      rw [show a ++ 32 :: b = (a ++ [32]) ++ b by simp, show 17 = (a ++ [(32 : UInt8)]).length by simp [ha], List.drop_left]
    have e3 : (a ++ 32 :: b).getD 16 0 = 32 := by
      rw [List.getD_eq_getElem?_getD, List.getElem?_append_right (by omega), ha]; rfl
    rw [e1, e2, e3]
    exact ⟨by rw [List.length_append, List.length_cons]; omega, h2, rfl, h3⟩
theorem line_parts {t : List UInt8} (h : isDig (t.take 16) = true ∧ t.getD 16 0 = 32) (hl : 18 ≤ t.length) : (Lib.cut t [32]).1 = t.take 16 ∧ (Lib.cut t [32]).2.1 = t.drop 17 := by
  have e : t = t.take 16 ++ 32 :: t.drop 17 := by
    conv => lhs; rw [← List.take_append_drop 16 t, drop_getD 0 (show 16 < t.length by omega), h.2]
  have := cut_at (b := t.drop 17) (isDig_no h.1).2.1
  rw [← e] at this
  rw [this]
  exact ⟨rfl, rfl⟩

def lastP (l : List File) : List UInt8 := (l.getD (l.length - 1) ([], [])).2
theorem lastP_app (l : List File) (x : File) : lastP (l ++ [x]) = x.2 := by
  unfold lastP
  rw [List.length_append, List.length_singleton, Nat.add_sub_cancel, List.getD_eq_getElem?_getD, List.getElem?_append_right (Nat.le_refl _), Nat.sub_self]; rfl
theorem less_nil {p : List UInt8} (h : p ≠ []) : (Op.bytesLess p [] || decide (p = [])) = false := by
  rw [dF h, Bool.or_false]
  cases p <;> rfl
def entsR (s : List UInt8) : List File × Bool := match entsP s with | some m => (m, true) | none => ([], false)

theorem g37 (s : List UInt8) (hs : s.length ≤ 1000000) : F37 s = some (entsR s) := by
  unfold F37
  rw [jn_eq]
  simp only []
  rw [gdN_rfl]
  refine loopK_rule (fun p : List File × Int => ∃ (l : List File) (a k : Nat), p = (l, (a : Int)) ∧ a ≤ s.length ∧ l.length ≤ a ∧ s.length - a < k ∧ entsP s = (entsG k (s.drop a) (lastP l)).map fun x => l ++ x) (fun p => s.length - p.2.toNat)
    ⟨[], 0, s.length + 1, rfl, by omega, by simp, by omega, by unfold entsP; simp [lastP]⟩ rfl ?_
  rintro _ again ⟨l, a, k, rfl, ha, hla, hk, he⟩ hag
  simp only []
  obtain ⟨k, rfl⟩ : ∃ k', k = k' + 1 := ⟨k - 1, by omega⟩
  have hdl : (s.drop a).length = s.length - a := List.length_drop
  by_cases hlt : a < s.length
  · rw [dT (by omega), cond_true, f50 s a ha hs, bindO_some]
    simp only []
    have hne : s.drop a ≠ [] := fun e => by rw [e] at hdl; simp at hdl; omega
    have hcl := cut_len (s.drop a) 10
    have hct := @cut_true (s.drop a) 10
    have hcr := cut_rest (s := s) ha
    unfold entsG at he
    rw [if_neg hne] at he
    generalize hc : Lib.cut (s.drop a) [10] = c at *
    have h12 := line_two c.1
    have h12p := @line_parts c.1
    generalize Lib.cut c.1 [32] = e at *
    have hno : (c.2.2 = false ∨ e.2.2 = false ∨ isDig e.1 = false ∨ pathB e.2.1 = false) → entsR s = ([], false) := by
      intro h
      rw [if_pos (by rcases h with h | h | h | h <;> simp [h])] at he
      unfold entsR; rw [he]; rfl
    have hno2 : ¬ (18 ≤ c.1.length ∧ isDig (c.1.take 16) = true ∧ c.1.getD 16 0 = 32 ∧ pathB (c.1.drop 17) = true) → entsR s = ([], false) := by
      intro h
      refine hno ?_
      rw [h12] at h
      cases h1 : e.2.2 <;> cases h2 : isDig e.1 <;> cases h3 : pathB e.2.1 <;> simp_all
    by_cases h0 : c.2.2 = true
    · rw [h0, Bool.not_true, cond_false]
      have hcte := (hct h0).1
      by_cases h18 : 18 ≤ c.1.length
      · rw [dF (by omega), cond_false, gd_pos (by omega), bnd_eq, f16, bindO_some]
        simp only [show Int.toNat (16 : Int) = 16 from rfl, show Int.toNat (17 : Int) = 17 from rfl]
        by_cases hd : isDig (c.1.take 16) = true
        · rw [hd, Bool.not_true, cond_false, gd_pos (by omega)]
          by_cases h32 : c.1.getD 16 0 = 32
          · rw [show decide (((c.1.getD 16 0).toNat : Int) = 32) = true from dT (by rw [h32]; rfl), Bool.not_true, cond_false, gd_pos (by omega), bnd_eq, g30 _ (by rw [List.length_drop]; omega), bindO_some]
            by_cases hp : pathB (c.1.drop 17) = true
            · rw [hp, Bool.not_true, cond_false, gd_pos (by omega), bnd_eq, gd_pos (by omega), bnd_eq]
              obtain ⟨q1, q2, q3⟩ := h12.1 ⟨h18, hd, h32, hp⟩
              obtain ⟨e1, e2⟩ := h12p ⟨hd, h32⟩ h18
              have hpn := (path_ne hp).1
              rw [e1, e2] at he
              refine jn_rule (fun _ => (Op.bytesLess (c.1.drop 17) (lastP l) || decide (c.1.drop 17 = lastP l)) = false) ?_ ?_
              · intro next hn
                by_cases hl0 : 0 < l.length
                · rw [dT (by omega), cond_true, bnd_eq, i64_wrap (by omega), gd_pos (by omega), show ((l.length : Int) - 1).toNat = l.length - 1 by omega]
                  show cond (Op.bytesLess (c.1.drop 17) (lastP l) || decide (c.1.drop 17 = lastP l)) _ _ = _
                  cases hb : Op.bytesLess (c.1.drop 17) (lastP l) || decide (c.1.drop 17 = lastP l)
                  · rw [cond_false]; exact hn () hb
                  · rw [cond_true]
                    rw [if_pos (by rw [hb]; simp)] at he
                    unfold entsR; rw [he]; rfl
                · rw [dF (by omega), cond_false]
                  refine hn () ?_
                  have : l = [] := List.length_eq_zero_iff.1 (by omega)
                  subst this
                  exact less_nil hpn
              · rintro - hb
                rw [gdN_rfl, gd_pos (by unfold big; (try simp only [List.length_cons, List.length_nil]); omega), bnd_eq, gdN_rfl]
                have hlc : (s.drop a).length = c.1.length + (c.2.1.length + 1) := by conv => lhs; rw [hcte]; rw [List.length_append, List.length_cons]
                refine hag _ ⟨l ++ [(c.1.take 16, c.1.drop 17)], s.length - c.2.1.length, k, rfl, by omega, by rw [List.length_append, List.length_singleton]; omega, by omega, ?_⟩ (by simp only []; omega)
                rw [he, hcr, lastP_app, if_neg (by rw [h0, q1, hd, hp, hb]; simp), Option.map_map]
                congr 1
                funext x
                simp
            · rw [Bool.eq_false_iff.2 hp, Bool.not_false, cond_true, hno2 (fun h => hp h.2.2.2)]
          · rw [show decide (((c.1.getD 16 0).toNat : Int) = 32) = false from dF (fun h => h32 (by rw [← UInt8.toNat_inj]; show _ = 32; omega)), Bool.not_false, cond_true, hno2 (fun h => h32 h.2.2.1)]
        · rw [Bool.eq_false_iff.2 hd, Bool.not_false, cond_true, hno2 (fun h => hd h.2.1)]
      · rw [dT (by omega), cond_true, hno2 (fun h => h18 h.1)]
    · rw [Bool.eq_false_iff.2 h0, Bool.not_false, cond_true, hno (.inl (Bool.eq_false_iff.2 h0))]
  · rw [dF (by omega), cond_false]
    have : s.drop a = [] := List.drop_eq_nil_of_le (by omega)
    unfold entsR
    rw [he, this]
    unfold entsG
    rw [if_pos rfl]
    simp

theorem entsG_len : ∀ (k : Nat) (s last : List UInt8) (m : List File), entsG k s last = some m → m.length ≤ s.length
  | 0, _, _, _, h => by cases h
  | k + 1, s, last, m, h => by
    unfold entsG at h
    split at h
    · cases h; simp
    · rename_i hs
      split at h
      · cases h
      · rename_i hc
        rw [Option.map_eq_some_iff] at h
        obtain ⟨x, hx, rfl⟩ := h
        have := entsG_len k _ _ x hx
        have h1 : (Lib.cut s [10]).2.2 = true := by
          cases h : (Lib.cut s [10]).2.2
          · exact absurd (.inl h) hc
          · rfl
        have := congrArg List.length (cut_true h1).1
        rw [List.length_append, List.length_cons] at this
        rw [List.length_cons]; omega
theorem entsP_len {s : List UInt8} {m : List File} (h : entsP s = some m) : m.length ≤ s.length := entsG_len _ _ _ _ h

theorem sumOf_cons (x : File) (m : List File) (p : List UInt8) : sumOf (x :: m) p = if x.2 = p then some x.1 else sumOf m p := rfl
theorem g38 (m : List File) (f : File) (hm : m.length ≤ 1000000) (hf : f.2.length ≤ 1000000) : F38 m f = some (matchB m f) := by
  unfold F38
  refine loopK_rule (fun p : Int => ∃ i : Nat, p = i ∧ i ≤ m.length ∧ sumOf m f.1 = sumOf (m.drop i) f.1) (fun p => m.length - p.toNat) ⟨0, rfl, by omega, by simp⟩ rfl ?_
  rintro _ again ⟨i, rfl, hi, he⟩ hag
  by_cases hlt : i < m.length
  · rw [dT (by omega), cond_true, gd_pos (by omega), toNat_nat]
    rw [drop_getD ([], []) hlt, sumOf_cons] at he
    by_cases hc : (m.getD i ([], [])).2 = f.1
    · rw [dT hc, cond_true, gd_pos (by omega), f13 _ (by omega), bindO_some]
      rw [if_pos hc] at he
      unfold matchB
      rw [he]
    · rw [dF hc, cond_false, bnd_eq, i64_wrap (by omega)]
      rw [if_neg hc] at he
      exact hag _ ⟨i + 1, by omega, by omega, he⟩ (by omega)
  · rw [dF (by omega), cond_false]
    rw [List.drop_eq_nil_of_le (by omega)] at he
    unfold matchB
    rw [he]; rfl
theorem any_step {α : Type} (P : α → Bool) (l : List α) (d : α) {i : Nat} (h : i < l.length) : (l.take (i + 1)).any P = ((l.take i).any P || P (l.getD i d)) := by
  have : l.take (i + 1) = l.take i ++ [l.getD i d] := by
    rw [List.take_succ_eq_append_getElem h, List.getD_eq_getElem?_getD, List.getElem?_eq_getElem h]; rfl
  rw [this, List.any_append, List.any_cons, List.any_nil, Bool.or_false]
theorem any_at {α : Type} (P : α → Bool) (l : List α) (d : α) {i : Nat} (h : i < l.length) (hp : P (l.getD i d) = true) : l.any P = true :=
  List.any_eq_true.2 ⟨_, getD_mem d h, hp⟩
theorem g39 (m l : List File) (hm : m.length ≤ 1000000) (hl : l.length ≤ 1000000) : F39 m l = some (surplusB m l) := by
  unfold F39
  refine loopK_rule (fun p : Int => ∃ i : Nat, p = i ∧ i ≤ m.length ∧ ((m.take i).any fun x => !(l.any fun f => decide (f.1 = x.2))) = false) (fun p => m.length - p.toNat) ⟨0, rfl, by omega, by simp⟩ rfl ?_
  rintro _ again ⟨i, rfl, hi, he⟩ hag
  by_cases hlt : i < m.length
  · rw [dT (by omega), cond_true]
    refine loopK_rule (fun p : Bool × Int => ∃ k : Nat, p = ((l.take k).any fun f => decide (f.1 = (m.getD i ([], [])).2), (k : Int)) ∧ k ≤ l.length) (fun p => l.length - p.2.toNat) ⟨0, rfl, by omega⟩ rfl ?_
    rintro _ again2 ⟨k, rfl, hk⟩ hag2
    simp only []
    have hst := any_step (fun f : File => decide (f.1 = (m.getD i ([], [])).2)) l ([], []) (i := k)
    by_cases hlk : k < l.length
    · rw [dT (by omega), cond_true, i64_wrap (by omega), toNat_nat, toNat_nat]
      have hst := hst hlk
      cases hb : (l.take k).any fun f => decide (f.1 = (m.getD i ([], [])).2)
      · rw [cond_false, gd_pos (by omega), gd_pos (by omega), bnd_eq]
        refine hag2 _ ⟨k + 1, ?_, by omega⟩ (by simp only []; omega)
        rw [hst, hb]; rfl
      · rw [cond_true, bnd_eq]
        refine hag2 _ ⟨k + 1, ?_, by omega⟩ (by simp only []; omega)
        rw [hst, hb]; rfl
    · rw [dF (by omega), cond_false, List.take_of_length_le (by omega)]
      cases hb : l.any fun f => decide (f.1 = (m.getD i ([], [])).2)
      · rw [Bool.not_false, cond_true]
        congr 1
        exact (any_at _ m ([], []) hlt (by rw [hb]; rfl)).symm
      · rw [Bool.not_true, cond_false, bnd_eq, i64_wrap (by omega)]
        refine hag _ ⟨i + 1, by omega, by omega, ?_⟩ (by omega)
        rw [any_step _ m ([], []) hlt, he, hb]; rfl
  · rw [dF (by omega), cond_false]
    rw [List.take_of_length_le (by omega)] at he
    congr 1
    exact he.symm

def heldR (r : List File × Bool) (f : File) : Bool := r.2 && matchB r.1 f
theorem missL_step (g : File → Bool) (l : List File) {i : Nat} (h : i < l.length) : missL g i (l.drop i) = (if g (l.getD i ([], [])) = true then [] else [(i : Int)]) ++ missL g ((i : Int) + 1) (l.drop (i + 1)) := by
  rw [drop_getD ([], []) h]; rfl
theorem fVerify_pos {l : List File} {s : List UInt8} (hl : Fit l) (hs : s.length ≤ 1000000) : fVerify l s = some (verifyP l s) := by
  unfold fVerify
  refine if_pos ⟨hl.1, hs, ?_⟩
  rw [List.all_eq_true]
  intro f hf
  have := hl.2 f hf
  rw [dT this.1, dT this.2]; rfl
theorem g21 (l : List File) (s : List UInt8) (hl : Fit l) (hs : s.length ≤ 1000000) : F21 l s = some (verifyP l s) := by
  unfold F21
  rw [g37 s hs, bindO_some, gdN_rfl]
  have hl1 := hl.1
  have hml : (entsR s).1.length ≤ 1000000 := by
    unfold entsR
    split
    · rename_i h; have := entsP_len h; simp only []; omega
    · simp
  have hv : verifyP l s = missL (heldR (entsR s)) 0 l ++ (if (!(entsR s).2 || surplusB (entsR s).1 l) = true then [(l.length : Int)] else []) := by
    unfold verifyP entsR
    cases hm : entsP s with
    | none =>
      show missL (fun _ => false) 0 l ++ _ = missL (fun f => false && matchB [] f) 0 l ++ _
      simp
    | some m =>
      show missL (matchB m) 0 l ++ _ = missL (fun f => true && matchB m f) 0 l ++ _
      simp only [Bool.true_and, Bool.not_true, Bool.false_or]
  rw [hv]
  generalize entsR s = r at *
  generalize hgd : heldR r = g
  refine loopK_rule (fun p : List Int × Int => ∃ (o : List Int) (i : Nat), p = (o, (i : Int)) ∧ i ≤ l.length ∧ o.length ≤ i ∧ missL g 0 l = o ++ missL g i (l.drop i)) (fun p => l.length - p.2.toNat) ⟨[], 0, rfl, by omega, by simp, by simp⟩ rfl ?_
  rintro _ again ⟨o, i, rfl, hi, ho, he⟩ hag
  simp only []
  by_cases hlt : i < l.length
  · rw [dT (by omega), cond_true]
    have hst := missL_step g l hlt
    have hf := fit_at hl i
    have hyes : g (l.getD i ([], [])) = true → again (o, (i : Int) + 1) = some (missL g 0 l ++ (if (!r.2 || surplusB r.1 l) = true then [(l.length : Int)] else [])) := by
      intro h
      refine hag _ ⟨o, i + 1, rfl, by omega, by omega, ?_⟩ (by simp only []; omega)
      rw [he, hst, if_pos h]; rfl
    have hno : g (l.getD i ([], [])) = false → again (o ++ [(i : Int)], (i : Int) + 1) = some (missL g 0 l ++ (if (!r.2 || surplusB r.1 l) = true then [(l.length : Int)] else [])) := by
      intro h
      refine hag _ ⟨o ++ [(i : Int)], i + 1, rfl, by omega, by rw [List.length_append, List.length_singleton]; omega, ?_⟩ (by simp only []; omega)
      rw [he, hst, if_neg (by rw [h]; simp), List.append_assoc]; rfl
    cases hr : r.2
    · rw [Bool.not_false, cond_true, gdN_rfl, gd_pos (by unfold big; (try simp only [List.length_cons, List.length_nil]); omega), bnd_eq, bnd_eq, i64_wrap (by omega), gdN_rfl]
      refine (hno ?_).trans ?_
      · rw [← hgd]
        unfold heldR
        rw [hr]; rfl
      · rw [hr]; rfl
    · rw [Bool.not_true, cond_false, gd_pos (by omega), getD_nat, g38 _ _ hml (by omega), bindO_some]
      have hg : g (l.getD i ([], [])) = matchB r.1 (l.getD i ([], [])) := by
        rw [← hgd]
        unfold heldR
        rw [hr]; rfl
      rw [hg] at hyes hno
      rw [hr] at hyes hno
      cases hb : matchB r.1 (l.getD i ([], []))
      · rw [Bool.not_false, cond_true, gdN_rfl, gd_pos (by unfold big; (try simp only [List.length_cons, List.length_nil]); omega), bnd_eq, bnd_eq, i64_wrap (by omega), gdN_rfl]
        exact hno hb
      · rw [Bool.not_true, cond_false, bnd_eq, i64_wrap (by omega), gdN_rfl]
        exact hyes hb
  · rw [dF (by omega), cond_false]
    rw [List.drop_eq_nil_of_le (by omega)] at he
    have he : missL g 0 l = o := by rw [he]; exact List.append_nil o
    rw [he]
    refine jn_rule (fun b : Bool => b = (!r.2 || surplusB r.1 l)) ?_ ?_
    · intro next hn
      cases hr : r.2
      · rw [Bool.not_false, cond_true]
        rw [hr] at hn
        exact hn true rfl
      · rw [Bool.not_true, cond_false, g39 _ _ hml (by omega), bindO_some]
        rw [hr] at hn
        exact hn _ rfl
    · rintro _ rfl
      cases hb : !r.2 || surplusB r.1 l
      · rw [cond_false]
        simp
      · rw [cond_true, gdN_rfl, gd_pos (by unfold big; (try simp only [List.length_cons, List.length_nil]); omega), bnd_eq]
        rfl

theorem g19 (a b : List Int) (ha : a.length ≤ 1000000) (hb : b.length ≤ 1000000) : F19 a b = some (decide (a = b)) := by
  unfold F19
  by_cases hl : a.length = b.length
  · rw [dT (by omega), Bool.not_true, cond_false]
    refine loopK_rule (fun p : Int => ∃ i : Nat, p = i ∧ i ≤ a.length ∧ a.take i = b.take i) (fun p => a.length - p.toNat) ⟨0, rfl, by omega, by simp⟩ rfl ?_
    rintro _ again ⟨i, rfl, hi, he⟩ hag
    by_cases hlt : i < a.length
    · rw [dT (by omega), cond_true, gd_pos (by omega), gd_pos (by omega), toNat_nat]
      by_cases hc : a.getD i 0 = b.getD i 0
      · rw [dT hc, Bool.not_true, cond_false, bnd_eq, i64_wrap (by omega)]
        refine hag _ ⟨i + 1, by omega, by omega, ?_⟩ (by omega)
        have h1 : a.take (i + 1) = a.take i ++ [a.getD i 0] := by
          rw [List.take_succ_eq_append_getElem hlt, List.getD_eq_getElem?_getD, List.getElem?_eq_getElem hlt]; rfl
        have h2 : b.take (i + 1) = b.take i ++ [b.getD i 0] := by
          rw [List.take_succ_eq_append_getElem (hl ▸ hlt), List.getD_eq_getElem?_getD, List.getElem?_eq_getElem (hl ▸ hlt)]; rfl
        rw [h1, h2, he, hc]
      · rw [dF hc, Bool.not_false, cond_true, dF (fun e => hc (by rw [e]))]
    · rw [dF (by omega), cond_false]
      rw [List.take_of_length_le (by omega), List.take_of_length_le (by omega)] at he
      rw [dT he]
  · rw [dF (by omega), Bool.not_false, cond_true, dF (fun e => hl (by rw [e]))]
end Go.Proofs.YthpgkpcnajookaaGreatDoor
