/-
  Chapter 10: what is encoded is decoded and imported as it was. No condition beyond what each line says.
-/
import Derived.Test.YtnhjoplleldbfaaDoorY
namespace Go.Proofs.YtnhjoplleldbfaaDoor
open Go Go.Nu

/-! ### texts have no control characters -/
theorem decR_cases (n b0 b1 b2 : Nat) : (decR n b0 b1 b2).2 = 0 ∨ ((decR n b0 b1 b2).2 = 1 ∧ 32 ≤ b0) ∨ ((decR n b0 b1 b2).2 = 2 ∧ 194 ≤ b0 ∧ 1 < n ∧ 128 ≤ b1) ∨ ((decR n b0 b1 b2).2 = 3 ∧ 224 ≤ b0 ∧ 2 < n ∧ 128 ≤ b1 ∧ 128 ≤ b2) := by
  unfold decR
  generalize (b0 - 192) * 64 + (b1 - 128) = x
  generalize (b0 - 224) * 4096 + (b1 - 128) * 64 + (b2 - 128) = y
  by_cases c1 : 32 ≤ b0 ∧ b0 < 127
  · rw [if_pos c1]; exact .inr (.inl ⟨rfl, c1.1⟩)
  rw [if_neg c1]
  by_cases c2 : 194 ≤ b0 ∧ b0 < 224 ∧ 1 < n ∧ 128 ≤ b1 ∧ b1 < 192
  · rw [if_pos c2]
    by_cases c3 : 160 ≤ x
    · rw [if_pos c3]; exact .inr (.inr (.inl ⟨rfl, by omega, by omega, by omega⟩))
    · rw [if_neg c3]; exact .inl rfl
  rw [if_neg c2]
  by_cases c3 : 224 ≤ b0 ∧ b0 < 240 ∧ 2 < n ∧ 128 ≤ b1 ∧ b1 < 192 ∧ 128 ≤ b2 ∧ b2 < 192
  · rw [if_pos c3]
    by_cases c4 : 2048 ≤ y ∧ (y < 55296 ∨ 57343 < y)
    · rw [if_pos c4]; exact .inr (.inr (.inr ⟨rfl, by omega, by omega, by omega, by omega⟩))
    · rw [if_neg c4]; exact .inl rfl
  · rw [if_neg c3]; exact .inl rfl
theorem dec0_lo {l : List UInt8} (h : dec0 l ≠ 0) : ∀ c ∈ l.take (dec0 l), 32 ≤ c.toNat := by
  have hc := decR_cases l.length (l.getD 0 0).toNat (l.getD 1 0).toNat (l.getD 2 0).toNat
  unfold dec0 at h ⊢
  generalize hk : (decR l.length (l.getD 0 0).toNat (l.getD 1 0).toNat (l.getD 2 0).toNat).2 = k at *
  intro c hm
  have hget : ∃ j, j < k ∧ j < l.length ∧ c = l.getD j 0 := by
    obtain ⟨j, hj, he⟩ := List.getElem_of_mem hm
    rw [List.length_take] at hj
    refine ⟨j, by omega, by omega, ?_⟩
    rw [← he, List.getElem_take, List.getD_eq_getElem?_getD, List.getElem?_eq_getElem (by omega)]; rfl
  obtain ⟨j, hj, hjl, rfl⟩ := hget
  rcases hc with hc | ⟨hc, h0⟩ | ⟨hc, h0, hn, h1⟩ | ⟨hc, h0, hn, h1, h2⟩
  · exact (h hc).elim
  · obtain rfl : j = 0 := by omega
    omega
  · rcases (by omega : j = 0 ∨ j = 1) with rfl | rfl
    · omega
    · omega
  · rcases (by omega : j = 0 ∨ j = 1 ∨ j = 2) with rfl | rfl | rfl
    · omega
    · omega
    · omega
theorem valid_lo : ∀ (n : Nat) {l : List UInt8}, l.length ≤ n → validT l = true → ∀ c ∈ l, 32 ≤ c.toNat
  | 0, l, hl, _ => by
    have : l = [] := List.length_eq_zero_iff.1 (by omega)
    subst this; intro c hc; cases hc
  | n + 1, l, hl, hv => by
    by_cases hne : l = []
    · subst hne; intro c hc; cases hc
    · rw [validT_step hne] at hv
      have hpos : 0 < l.length := List.length_pos_iff.2 hne
      by_cases h0 : dec0 l = 0
      · rw [if_pos h0] at hv; cases hv
      · rw [if_neg h0] at hv
        have ih := valid_lo n (l := l.drop (dec0 l)) (by rw [List.length_drop]; omega) hv
        intro c hc
        rw [← List.take_append_drop (dec0 l) l, List.mem_append] at hc
        rcases hc with h | h
        · exact dec0_lo h0 _ h
        · exact ih _ h
theorem sub_lo {s : Sub} (h : errS s = 0) : ∀ c ∈ s.1 :: s.2, 32 ≤ c.toNat := by
  obtain ⟨h1, _, h3, _⟩ := errS_zero h
  intro c hc
  rcases List.mem_cons.1 hc with rfl | hc
  · unfold codeB at h1
    simp only [Bool.or_eq_true, decide_eq_true_eq] at h1
    rcases h1 with h1 | h1
    · have := (isD_iff _).1 h1; omega
    · omega
  · exact valid_lo _ (Nat.le_refl _) h3 c hc
theorem lo_31 {l : List UInt8} (h : ∀ c ∈ l, 32 ≤ c.toNat) : (31 : UInt8) ∉ l := fun hm => by
  have h1 := h _ hm
  have h2 : (31 : UInt8).toNat = 31 := rfl
  omega

/-! ### subfields -/
def partS (s : Sub) : List UInt8 := s.1 :: s.2
theorem split_subs : ∀ (l : List Sub), (∀ s ∈ l, errS s = 0) → ∀ a : List UInt8, (31 : UInt8) ∉ a → Lib.splitK [31] 0 l.length (a ++ subsE l) = a :: l.map partS
  | [], _, a, ha => by
    show Lib.splitK [31] 0 0 (a ++ []) = _
    rw [List.append_nil, split_no ha]
    rfl
  | s :: l, h, a, ha => by
    have ih := split_subs l (fun x hx => h x (List.mem_cons_of_mem _ hx)) (partS s) (lo_31 (sub_lo (h s (by simp))))
    rw [show subsE (s :: l) = 31 :: (partS s ++ subsE l) from rfl, List.length_cons, split_at ha, ih]
    rfl
theorem count_subs : ∀ (l : List Sub), (∀ s ∈ l, errS s = 0) → (subsE l).count 31 = l.length
  | [], _ => rfl
  | s :: l, h => by
    rw [show subsE (s :: l) = 31 :: (partS s ++ subsE l) from rfl, List.count_cons_self, List.count_append, count_subs l (fun x hx => h x (List.mem_cons_of_mem _ hx)), List.count_eq_zero.2 (lo_31 (sub_lo (h s (by simp))) : (31 : UInt8) ∉ partS s)]
    simp
theorem trim_30 (a : List UInt8) : Lib.trimSuffix (a ++ [30]) [30] = a := by
  unfold Lib.trimSuffix Lib.hasSuffix
  rw [if_pos (by rw [List.isSuffixOf_iff_suffix]; exact ⟨a, rfl⟩)]
  simp

theorem seg {a b c : List UInt8} (i n : Nat) (ha : a.length = i) (hb : b.length = n) : List.drop i (List.take (i + n) (a ++ (b ++ c))) = b := by
  subst ha
  subst hb
  rw [← List.append_assoc, ← List.length_append, List.take_left, List.drop_left]
theorem cutAt {s a b c : List UInt8} {i n : Nat} (hs : s = a ++ (b ++ c)) (ha : a.length = i) (hb : b.length = n) (hl : s.length ≤ 1000000000) : F30 s (i : Int) (n : Int) = some (some b) := by
  rw [f30 s i n hl]
  subst hs
  rw [if_pos (by simp only [List.length_append]; omega), seg i n ha hb]

theorem f41 {f : Field} (h : OkF f) : F41 f.1 (fieldE f) = some (some f) := by
  obtain ⟨tag, ind, subs, auth⟩ := f
  have hind : ind.length = 2 := by
    have := h.ind
    unfold indB at this
    rw [Bool.and_eq_true] at this
    exact of_decide_eq_true this.1
  have hlo := h.lo
  have hhi := h.hi
  have hsub := h.subs
  have hlen := h.len
  simp only at hlo hhi hsub hlen
  have hfl := fieldE_len h
  obtain ⟨n, rfl⟩ : ∃ n : Nat, auth = n := ⟨auth.toNat, by omega⟩
  have hn : n < 10 ^ 4 := by
    rw [show (10 : Nat) ^ 4 = 10000 by decide]; omega
  have hE : fieldE (tag, ind, subs, (n : Int)) = ind ++ (numX n 4 ++ (subsE subs ++ [30])) := by
    unfold fieldE
    simp only [Int.toNat_natCast]
    rw [numW4 (by rw [show (10 : Nat) ^ 4 = 10000 by decide] at hn; exact hn), List.append_assoc]
  have hx := numX_len 4 n
  have c1 : F30 (fieldE (tag, ind, subs, (n : Int))) (0 : Int) (2 : Int) = some (some ind) := cutAt (i := 0) (n := 2) (a := []) (by rw [hE]; rfl) rfl hind (by omega)
  have c2 : F30 (fieldE (tag, ind, subs, (n : Int))) (2 : Int) (4 : Int) = some (some (numX n 4)) := cutAt (i := 2) (n := 4) (a := ind) hE hind hx (by omega)
  unfold F41
  simp only
  rw [c1, caseO_some, c2, caseO_some, f29X n 4 hn (by omega), caseO_some]
  have hlen6 : 6 ≤ (fieldE (tag, ind, subs, (n : Int))).length := by rw [hE]; simp only [List.length_append]; omega
  rw [gd_pos ⟨by omega, by omega⟩, bnd_eq]
  have hd : List.drop (Int.toNat (6 : Int)) (fieldE (tag, ind, subs, (n : Int))) = subsE subs ++ [30] := by
    rw [hE, ← List.append_assoc]
    exact List.drop_left' (by rw [List.length_append]; omega)
  rw [hd]
  have hsl : (subsE subs).length ≤ 20000 := by
    have := congrArg List.length hE
    simp only [List.length_append] at this
    omega
  unfold fTrimS
  rw [if_pos (by rw [List.length_append, List.length_singleton]; omega), bindO_some, trim_30]
  unfold fSplit
  rw [if_pos ⟨by omega, by simp⟩, bindO_some, Lib.count_one, count_subs subs hsub]
  have hsp := split_subs subs hsub [] (by simp)
  rw [List.nil_append] at hsp
  rw [hsp]
  rw [show ∀ x : Option (Option (List UInt8 × List UInt8 × List Sub × Int)), gdN 0 ([] : List Sub).length x = x from fun x => gdN_self]
  refine loopK_rule (fun p : Int × Field => ∃ i : Nat, p.1 = i ∧ i ≤ subs.length + 1 ∧ p.2 = (tag, ind, subs.take (i - 1), (n : Int))) (fun p => subs.length + 1 - p.1.toNat) ⟨0, rfl, by omega, by simp⟩ rfl ?_
  rintro ⟨_, _⟩ again ⟨i, rfl, hi, rfl⟩ hag
  simp only [gdN_self]
  have hpl : (([] : List UInt8) :: subs.map partS).length = subs.length + 1 := by simp
  by_cases hlt : i < subs.length + 1
  · rw [dT (by rw [hpl]; omega), cond_true, gd_pos ⟨by omega, by rw [hpl]; omega⟩]
    by_cases hz : 0 < i
    · obtain ⟨j, rfl⟩ : ∃ j, i = j + 1 := ⟨i - 1, by omega⟩
      have hj : j < subs.length := by omega
      have hp : List.getD (([] : List UInt8) :: subs.map partS) (((j + 1 : Nat) : Int).toNat) [] = partS (subs.getD j (0, [])) := by
        rw [Int.toNat_natCast, List.getD_cons_succ, List.getD_eq_getElem?_getD, List.getElem?_map, List.getElem?_eq_getElem hj, List.getD_eq_getElem?_getD, List.getElem?_eq_getElem hj]
        rfl
      have hs := hsub _ (getD_mem (0, []) hj)
      rw [dT (by omega), cond_true, hp]
      have hv := (errS_zero hs).2.2.2
      generalize hx : subs.getD j (0, []) = x at *
      obtain ⟨c, v⟩ := x
      have c3 : F30 (partS (c, v)) (0 : Int) (1 : Int) = some (some [c]) := cutAt (i := 0) (n := 1) (a := []) (c := v) rfl rfl rfl (by simp only [partS, List.length_cons]; simp only at hv; omega)
      rw [c3, caseO_some, gd_pos ⟨by omega, by simp only [List.length_singleton]; omega⟩, gd_pos (by simp only [partS, List.length_cons]; omega), bnd_eq]
      have htl : subs.take (j + 1) = subs.take j ++ [(c, v)] := by rw [take_succ' (0, []) hj, hx]
      have hsz : (subs.take j).length ≤ 16 := by rw [List.length_take]; omega
      unfold big
      rw [show j + 1 - 1 = j by omega, gd_pos (by simp only [List.length_singleton]; omega), bnd_eq, bnd_eq, i64_wrap (by omega)]
      refine hag _ ⟨j + 2, by omega, by omega, ?_⟩ (by simp only; omega)
      rw [show j + 2 - 1 = j + 1 by omega, htl]
      rfl
    · obtain rfl : i = 0 := by omega
      rw [dF (by omega), cond_false, bnd_eq, i64_wrap (by omega)]
      exact hag _ ⟨1, by omega, by omega, rfl⟩ (by simp only; omega)
  · rw [dF (by rw [hpl]; omega), cond_false, List.take_of_length_le (by omega)]
end Go.Proofs.YtnhjoplleldbfaaDoor
