/-
  Chapter 11: the program's checks of fields and records. No condition.
-/
import Derived.Test.YtnhjoplleldbfaaDoorC
import Derived.Test.YtnhjoplleldbfaaDoorF
namespace Go.Proofs.YtnhjoplleldbfaaDoor
open Go Go.Nu

theorem toNat_nat (n : Nat) : ((n : Int)).toNat = n := Int.toNat_natCast n
theorem f50 (s : List UInt8) (hs : s.length ≤ 9223372036854775807) : F50 s = some (s.all isD) := by
  unfold F50 fTrim
  rw [if_pos ⟨hs, by simp, by decide⟩, bindO_some]
  congr 1
  rw [Bool.eq_iff_iff, decide_eq_true_eq]
  exact trim_digs s
theorem f70 (c : UInt8) : F70 c = some (codeB c) := by
  unfold F70 codeB isD
  have := UInt8.toNat_lt c
  by_cases h1 : 97 ≤ c.toNat
  · rw [decide_eq_true (by omega), cond_true]
    by_cases h2 : c.toNat ≤ 122
    · rw [decide_eq_true (by omega), cond_true, decide_eq_true (show 97 ≤ c.toNat ∧ c.toNat ≤ 122 by omega), Bool.or_true]
    · rw [decide_eq_false (by omega), cond_false, decide_eq_true (by omega), cond_true, decide_eq_false (by omega), decide_eq_false (show ¬ (48 ≤ c.toNat ∧ c.toNat ≤ 57) by omega), decide_eq_false (show ¬ (97 ≤ c.toNat ∧ c.toNat ≤ 122) by omega)]
      rfl
  · rw [decide_eq_false (by omega), cond_false, decide_eq_false (show ¬ (97 ≤ c.toNat ∧ c.toNat ≤ 122) by omega), Bool.or_false]
    by_cases h2 : 48 ≤ c.toNat
    · rw [decide_eq_true (by omega), cond_true]
      congr 1
      rw [Bool.eq_iff_iff, decide_eq_true_eq, decide_eq_true_eq]
      omega
    · rw [decide_eq_false (by omega), cond_false, decide_eq_false (by omega)]

/-- The characters from a place on. -/
theorem f71 (s : List UInt8) (hs : s.length ≤ 9223372036854775807) : F71 s = some (validT s) := by
  unfold F71 fVal
  rw [if_pos hs, bindO_some]
  -- a text that is valid by the rest of it
  have key : ∀ (n : Nat) (l : List UInt8), l.length ≤ n → validT l = true → Lib.validD l = true := by
    intro n
    induction n with
    | zero =>
      intro l hl _
      have : l = [] := List.length_eq_zero_iff.1 (by omega)
      subst this; rfl
    | succ n ih =>
      intro l hl hv
      by_cases hne : l = []
      · subst hne; rfl
      · rw [validT_step hne, dec0_eq hne] at hv
        have hw := Lib.decodeL_width l
        have hpos : 0 < l.length := List.length_pos_iff.2 hne
        by_cases hd : Lib.decodeL l = (65533, 1) ∨ ¬ okC (Lib.decodeL l).1
        · rw [if_pos hd, if_pos rfl] at hv; cases hv
        · rw [if_neg hd, if_neg (by omega)] at hv
          rw [Lib.validD_step l hne, if_neg]
          · exact ih _ (by rw [List.length_drop]; omega) hv
          · rintro ⟨h1, h2⟩
            exact hd (.inl (Prod.ext h1 h2))
  cases hv : Lib.validD s with
  | false =>
    have : validT s = false := by
      cases h : validT s with
      | false => rfl
      | true => rw [key _ s (Nat.le_refl _) h] at hv; cases hv
    rw [this]; rfl
  | true =>
    rw [Bool.not_true, cond_false]
    refine loopK_rule (fun p : List UInt8 × Nat => p.1 = s ∧ p.2 ≤ s.length ∧ Lib.validD (s.drop p.2) = true ∧ validT (s.drop p.2) = validT s) (fun p => s.length - p.2) ⟨rfl, Nat.zero_le _, hv, rfl⟩ rfl ?_
    rintro ⟨l, pos⟩ again ⟨hl, hp, hd, ht⟩ hag
    simp only at hl hp hd ht
    subst hl
    simp only []
    by_cases hlt : pos < l.length
    · rw [decide_eq_true hlt, cond_true]
      have hne : l.drop pos ≠ [] := by
        intro e
        have := congrArg List.length e
        rw [List.length_drop] at this
        simp at this; omega
      have hdec : Utf8.decode ⟨l.toArray⟩ pos = Lib.decodeL (l.drop pos) := by
        rw [← Lib.decodeL_drop]
      rw [hdec]
      have hw := Lib.decodeL_width (l.drop pos)
      have hle := Lib.decodeL_le (l.drop pos) hne
      rw [List.length_drop] at hle
      rw [Lib.validD_step _ hne] at hd
      by_cases hbad : (Lib.decodeL (l.drop pos)).1 = 65533 ∧ (Lib.decodeL (l.drop pos)).2 = 1
      · rw [if_pos hbad] at hd; cases hd
      rw [if_neg hbad, List.drop_drop] at hd
      rw [validT_step hne, dec0_eq hne] at ht
      generalize hc : Lib.decodeL (l.drop pos) = c at *
      have hnb : ¬ c = (65533, 1) := fun e => hbad (by rw [e]; exact ⟨rfl, rfl⟩)
      by_cases hok : okC c.1
      · have hnot : ¬ (c = (65533, 1) ∨ ¬ okC c.1) := fun h => h.elim hnb fun h => h hok
        rw [if_neg hnot, if_neg (by omega), List.drop_drop] at ht
        have hgo := hag (l, pos + c.2) ⟨rfl, by omega, hd, ht⟩ (by simp only; omega)
        unfold okC at hok
        rw [decide_eq_false (by omega), cond_false]
        by_cases h127 : 127 ≤ c.1
        · rw [decide_eq_true (by omega), cond_true, decide_eq_false (by omega), cond_false, decide_eq_false (by omega), cond_false]
          exact hgo
        · rw [decide_eq_false (by omega), cond_false, decide_eq_false (by omega), cond_false]
          exact hgo
      · have hyes : c = (65533, 1) ∨ ¬ okC c.1 := .inr hok
        rw [if_pos hyes, if_pos rfl] at ht
        rw [← ht]
        unfold okC at hok
        by_cases h32 : c.1 < 32
        · rw [decide_eq_true (by omega), cond_true]
        · rw [decide_eq_false (by omega), cond_false]
          by_cases h127 : 127 ≤ c.1
          · rw [decide_eq_true (by omega), cond_true]
            by_cases h159 : c.1 ≤ 159
            · rw [decide_eq_true (by omega), cond_true]
            · rw [decide_eq_false (by omega), cond_false, decide_eq_true (by omega), cond_true]
          · rw [decide_eq_false (by omega), cond_false, decide_eq_true (by omega), cond_true]
    · rw [decide_eq_false hlt, cond_false]
      have : l.drop pos = [] := List.drop_eq_nil_of_le (by omega)
      rw [this] at ht
      rw [← ht]; rfl

theorem f52 (x : Sub) (hs : x.2.length ≤ 9223372036854775807) : F52 x = some (errS x) := by
  unfold F52 errS
  rw [f70, bindO_some]
  cases h1 : codeB x.1 with
  | false => rfl
  | true =>
    rw [Bool.not_true, cond_false, if_neg (by simp)]
    by_cases h2 : x.2 = []
    · rw [decide_eq_true h2, cond_true, if_pos h2]
    · rw [decide_eq_false h2, cond_false, if_neg h2, f71 _ hs, bindO_some]
      cases h3 : validT x.2 with
      | false => rfl
      | true =>
        rw [Bool.not_true, cond_false, if_neg (by simp)]
        by_cases h4 : 200 < x.2.length
        · rw [decide_eq_true (by omega), cond_true, if_pos h4]
        · rw [decide_eq_false (by omega), cond_false, if_neg h4]

/-- The values of a field are not too long for a machine. -/
def sizeS (l : List Sub) : Prop := ∀ s ∈ l, s.2.length ≤ 1000000
theorem errL_drop {l : List Sub} {i : Nat} (h : i < l.length) : errL (l.drop i) = if errS (l.getD i (0, [])) ≠ 0 then errS (l.getD i (0, [])) else errL (l.drop (i + 1)) := by
  rw [drop_getD (0, []) h]; rfl
theorem ltag {a b c : UInt8} (ha : isD a = true) (hb : isD b = true) (hc : isD c = true) : Op.bytesLess [a, b, c] [48, 49, 48] = decide (a = 48 ∧ b = 48) := by
  unfold isD at ha hb hc
  simp only [decide_eq_true_eq] at ha hb hc
  simp only [Op.bytesLess, Bool.or_false, Bool.and_false]
  rw [Bool.eq_iff_iff]
  simp only [Bool.or_eq_true, Bool.and_eq_true, decide_eq_true_eq, beq_iff_eq, UInt8.lt_iff_toNat_lt, ← UInt8.toNat_inj]
  show (a.toNat < 48 ∨ a.toNat = 48 ∧ (b.toNat < 49 ∨ b.toNat = 49 ∧ c.toNat < 48)) ↔ (a.toNat = 48 ∧ b.toNat = 48)
  omega
theorem repl_digits {a b : UInt8} : (repl 32 [48] [a, b]).all isD = ((decide (a = 32) || isD a) && (decide (b = 32) || isD b)) := by
  unfold repl
  simp only [List.flatMap_cons, List.flatMap_nil, List.append_nil]
  have h48 : isD 48 = true := by decide
  by_cases ha : a = 32 <;> by_cases hb : b = 32 <;> simp [ha, hb, h48]
theorem f35 (f : Field) (hs : sizeS f.2.2.1) : F35 f = some (errF f) := by
  obtain ⟨tag, ind, subs, auth⟩ := f
  unfold F35 errF
  simp only [] at hs ⊢
  refine jn_rule (fun b => b = !tagB tag) (fun next hn => ?_) ?_
  · by_cases h : tag.length = 3
    · rw [decide_eq_true (by omega), Bool.not_true, cond_false, f50 _ (by omega), bindO_some]
      have ht : tagB tag = (tag.all isD && !decide (tag.getD 0 0 = 48 ∧ tag.getD 1 0 = 48)) := by
        unfold tagB; rw [decide_eq_true h, Bool.true_and]
      cases hd : tag.all isD with
      | false =>
        rw [Bool.not_false, cond_true]
        exact hn _ (by rw [ht, hd]; rfl)
      | true =>
        rw [Bool.not_true, cond_false]
        refine hn _ ?_
        rw [ht, hd, Bool.true_and, Bool.not_not]
        match tag, h, hd with
        | [a, b, c], _, hd =>
          simp only [List.all_cons, List.all_nil, Bool.and_true, Bool.and_eq_true] at hd
          exact ltag hd.1 hd.2.1 hd.2.2
    · rw [decide_eq_false (by omega), Bool.not_false, cond_true]
      exact hn _ (by unfold tagB; rw [decide_eq_false h]; rfl)
  rintro _ rfl
  cases htag : tagB tag with
  | false => rfl
  | true =>
  rw [Bool.not_true, cond_false, if_neg (by simp)]
  refine jn_rule (fun b => b = !indB ind) (fun next hn => ?_) ?_
  · by_cases h : ind.length = 2
    · rw [decide_eq_true (by omega), Bool.not_true, cond_false]
      match ind, h with
      | [a, b], _ =>
        unfold fRepl
        rw [if_pos ⟨by simp, by simp, by simp⟩, bindO_some, repl_all (by decide), f50 _ (by unfold repl; simp only [List.flatMap_cons, List.flatMap_nil, List.append_nil]; split <;> split <;> simp), bindO_some]
        refine hn _ ?_
        rw [repl_digits]
        unfold indB
        simp only [List.length_cons, List.length_nil, List.all_cons, List.all_nil, Bool.and_true, decide_true, Bool.true_and]
    · rw [decide_eq_false (by omega), Bool.not_false, cond_true]
      exact hn _ (by unfold indB; rw [decide_eq_false h]; rfl)
  rintro _ rfl
  cases hind : indB ind with
  | false => rfl
  | true =>
  rw [Bool.not_true, cond_false, if_neg (by simp)]
  by_cases h3 : subs = []
  · subst h3; rfl
  have h3' : subs.length ≠ 0 := fun e => h3 (List.length_eq_zero_iff.1 e)
  rw [decide_eq_false (by omega), cond_false, if_neg h3]
  by_cases h4 : 16 < subs.length
  · rw [decide_eq_true (by omega), cond_true, if_pos h4]
  rw [decide_eq_false (by omega), cond_false, if_neg h4]
  refine loopK_rule (fun p : Int => ∃ i : Nat, p = i ∧ i ≤ subs.length ∧ errL (subs.drop i) = errL subs) (fun p => subs.length - p.toNat) ⟨0, rfl, Nat.zero_le _, rfl⟩ rfl ?_
  rintro _ again ⟨i, rfl, hi, he⟩ hag
  by_cases hlt : i < subs.length
  · rw [decide_eq_true (by omega), cond_true, gd_pos (by omega), toNat_nat]
    rw [errL_drop hlt] at he
    rw [f52 _ (by
      have : subs.getD i (0, []) ∈ subs := by
        rw [List.getD_eq_getElem?_getD, List.getElem?_eq_getElem hlt]
        exact List.getElem_mem hlt
      have := hs _ this
      omega), bindO_some]
    by_cases hz : errS (subs.getD i (0, [])) = 0
    · rw [decide_eq_true hz, Bool.not_true, cond_false, bnd_eq, i64_wrap (by omega)]
      rw [if_neg (not_not_intro hz)] at he
      exact hag _ ⟨i + 1, by omega, by omega, he⟩ (by omega)
    · rw [decide_eq_false hz, Bool.not_false, cond_true]
      rw [if_pos hz] at he
      rw [he, if_pos (by rw [← he]; exact hz)]
  · rw [decide_eq_false (by omega), cond_false]
    rw [List.drop_eq_nil_of_le (by omega)] at he
    rw [← he, if_neg (by simp [errL])]
    by_cases ha : auth < 0
    · rw [decide_eq_true ha, cond_true, if_pos (.inl ha)]
    · rw [decide_eq_false ha, cond_false]
      by_cases hb : 9999 < auth
      · rw [decide_eq_true hb, cond_true, if_pos (.inr hb)]
      · rw [decide_eq_false hb, cond_false, if_neg (by omega)]
end Go.Proofs.YtnhjoplleldbfaaDoor
