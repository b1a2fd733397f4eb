/-
  Chapter 11: whole texts of records: Parse, ParseAll, PrintAll; what is printed is read back. No condition.
-/
import Derived.Test.YtbkaenpcmbplpaaDoorX
namespace Go.Proofs.YtbkaenpcmbplpaaDoor
open Go Go.Nu

theorem linesG_n : ∀ (k : Nat) (s : List UInt8) (fs : List Field) (n : Int), n + 1 ≤ (linesG k s fs n).2.2.1 ∧ (linesG k s fs n).2.2.1 ≤ n + s.length + 1 ∧
    ((linesG k s fs n).2.2.2 = 0 → (linesG k s fs n).2.2.1 + (linesG k s fs n).2.1.length ≤ n + s.length)
  | 0, s, fs, n => by
    unfold linesG
    exact ⟨by simp only []; omega, by simp only []; omega, fun h => by cases h⟩
  | k + 1, s, fs, n => by
    unfold linesG
    split
    · split
      · rename_i h
        have := congrArg List.length (cut_true h).1
        rw [List.length_append, List.length_cons] at this
        refine ⟨by simp only []; omega, by simp only []; omega, fun _ => by simp only []; omega⟩
      · exact ⟨by simp only []; omega, by simp only []; omega, fun h => by cases h⟩
    · rename_i hne
      split
      · exact ⟨by simp only []; omega, by simp only []; omega, fun h => by cases h⟩
      · split
        · rename_i h
          have := congrArg List.length (cut_true h.1).1
          rw [List.length_append, List.length_cons] at this
          have hp : 0 < (Lib.cut s [10]).1.length := List.length_pos_iff.2 hne
          obtain ⟨i1, i2, i3⟩ := linesG_n k (Lib.cut s [10]).2.1 (fs ++ [(parseP (Lib.cut s [10]).1).1]) (n + 1)
          refine ⟨by omega, by omega, fun h => ?_⟩
          have := i3 h
          omega
        · exact ⟨by simp only []; omega, by simp only []; omega, fun h => by cases h⟩
theorem nextP_n (s : List UInt8) : 1 ≤ (nextP s).2.2.1 ∧ (nextP s).2.2.1 ≤ s.length + 1 ∧ ((nextP s).2.2.2 = 0 → (nextP s).2.2.1 + (nextP s).2.1.length ≤ s.length ∧ (nextP s).2.1.length < s.length) := by
  unfold nextP
  split
  · exact ⟨by simp only []; omega, by simp only []; omega, fun h => by cases h⟩
  · split
    · rename_i h
      have := congrArg List.length (cut_true h).1
      rw [List.length_append, List.length_cons] at this
      obtain ⟨i1, i2, i3⟩ := linesG_n ((Lib.cut s [10]).2.1.length + 1) (Lib.cut s [10]).2.1 [] 1
      have hl : linesP (Lib.cut s [10]).2.1 [] 1 = linesG ((Lib.cut s [10]).2.1.length + 1) (Lib.cut s [10]).2.1 [] 1 := rfl
      rw [← hl] at i1 i2 i3
      split
      · rename_i h0
        have := i3 h0
        exact ⟨by simp only []; omega, by simp only []; omega, fun _ => ⟨by simp only []; omega, by simp only []; omega⟩⟩
      · rename_i h0
        exact ⟨by simp only []; omega, by simp only []; omega, fun h => (h0 h).elim⟩
    · exact ⟨by simp only []; omega, by simp only []; omega, fun h => by cases h⟩
noncomputable def parseR (s : List UInt8) : Rec × Int × Int :=
  if (nextP s).2.2.2 ≠ 0 then (zeroR, (nextP s).2.2.1, (nextP s).2.2.2) else if (nextP s).2.1 ≠ [] then (zeroR, (nextP s).2.2.1 + 1, 3) else ((nextP s).1, 0, 0)
theorem f13 (s : List UInt8) (hs : s.length ≤ 1000000) : F5 s = some (parseR s) := by
  unfold F5 parseR
  rw [f31 s hs, bindO_some]
  have hn := nextP_n s
  by_cases h0 : (nextP s).2.2.2 = 0
  · rw [dT h0, Bool.not_true, cond_false, if_neg (not_not_intro h0)]
    by_cases h1 : (nextP s).2.1 = []
    · rw [dT h1, Bool.not_true, cond_false, if_neg (not_not_intro h1)]
    · rw [dF h1, Bool.not_false, cond_true, if_pos h1, bnd_eq, i64_wrap (by omega)]; rfl
  · rw [dF h0, Bool.not_false, cond_true, if_pos h0]; rfl
/-! ### many records -/
noncomputable def allG : Nat → List UInt8 → List Rec → Int → List Rec × Int × Int
  | 0, _, _, d => ([], d + 1, 3)
  | k + 1, s, l, d => if s = [] then (l, 0, 0) else if 64 ≤ l.length then ([], d + 1, 13)
    else if (nextP s).2.2.2 = 0 then allG k (nextP s).2.1 (l ++ [(nextP s).1]) (d + (nextP s).2.2.1) else ([], d + (nextP s).2.2.1, (nextP s).2.2.2)
theorem allG_fuel : ∀ (k m : Nat) (s : List UInt8) (l : List Rec) (d : Int), s.length < k → s.length < m → allG k s l d = allG m s l d
  | 0, _, _, _, _, h, _ => by omega
  | _ + 1, 0, _, _, _, _, h => by omega
  | k + 1, m + 1, s, l, d, h1, h2 => by
    unfold allG
    split
    · rfl
    · split
      · rfl
      · split
        · rename_i h0
          have := ((nextP_n s).2.2 h0).2
          exact allG_fuel k m _ _ _ (by omega) (by omega)
        · rfl
noncomputable def allP (s : List UInt8) (l : List Rec) (d : Int) : List Rec × Int × Int := allG (s.length + 1) s l d
theorem allP_step (s : List UInt8) (l : List Rec) (d : Int) : allP s l d = if s = [] then (l, 0, 0) else if 64 ≤ l.length then ([], d + 1, 13)
    else if (nextP s).2.2.2 = 0 then allP (nextP s).2.1 (l ++ [(nextP s).1]) (d + (nextP s).2.2.1) else ([], d + (nextP s).2.2.1, (nextP s).2.2.2) := by
  unfold allP
  conv => lhs; unfold allG
  split
  · rfl
  · split
    · rfl
    · split
      · rename_i h0
        have := ((nextP_n s).2.2 h0).2
        exact allG_fuel _ _ _ _ _ (by omega) (by omega)
      · rfl
noncomputable def parseAllP (s : List UInt8) : List Rec × Int × Int := if 65536 < s.length then ([], 0, 4) else allP s [] 0
theorem f16 (s : List UInt8) (hs : s.length ≤ 1000000) : F7 s = some (parseAllP s) := by
  unfold F7 parseAllP
  rw [jn_eq]
  dsimp only
  by_cases h6 : 65536 < s.length
  · rw [dT (by omega), cond_true, if_pos h6]
  rw [dF (by omega), cond_false, if_neg h6, gdN_self]
  generalize hQ : allP s [] 0 = Q
  refine loopK_rule (fun p : List UInt8 × List Rec × Int => allP p.1 p.2.1 p.2.2 = Q ∧ p.1.length ≤ 65536 ∧ p.2.1.length ≤ 64 ∧ 0 ≤ p.2.2 ∧ p.2.2 + p.1.length ≤ 65536) (fun p => p.1.length) ⟨hQ, by simp only []; omega, by simp, by simp only []; omega, by simp only []; omega⟩ rfl ?_
  rintro ⟨t, l, d⟩ again ⟨he, ht, hl, hd0, hd1⟩ hag
  simp only at he ht hl hd0 hd1 hag ⊢
  unfold big
  rw [allP_step] at he
  by_cases h0 : t = []
  · rw [dT h0, Bool.not_true, cond_false]
    rw [if_pos h0] at he
    rw [he]
  rw [dF h0, Bool.not_false, cond_true]
  rw [if_neg h0] at he
  by_cases h64 : 64 ≤ l.length
  · rw [if_pos h64] at he
    rw [dT (by omega), cond_true, bnd_eq, i64_wrap (by omega), he]
  rw [if_neg h64] at he
  have hn := nextP_n t
  rw [dF (by omega), cond_false, f31 t (by omega), bindO_some]
  by_cases hz : (nextP t).2.2.2 = 0
  · rw [if_pos hz] at he
    have hn2 := hn.2.2 hz
    rw [dT hz, Bool.not_true, cond_false, gdN_self, gd_pos (by simp only [List.length_singleton]; omega)]
    simp only [bnd_eq, gdN_self]
    rw [i64_wrap (by omega)]
    exact hag _ ⟨he, by simp only []; omega, by simp only [List.length_append, List.length_singleton]; omega, by simp only []; omega, by simp only []; omega⟩ (by simp only []; omega)
  · rw [if_neg hz] at he
    rw [dF hz, Bool.not_false, cond_true, bnd_eq, i64_wrap (by omega), he]
/-! ### what is printed is read back -/
theorem decR_cases (n b0 b1 b2 : Nat) : (decR n b0 b1 b2).2 = 0 ∨ ((decR n b0 b1 b2).2 = 1 ∧ 32 ≤ b0) ∨ ((decR n b0 b1 b2).2 = 2 ∧ 194 ≤ b0 ∧ 1 < n ∧ 128 ≤ b1) ∨ ((decR n b0 b1 b2).2 = 3 ∧ 224 ≤ b0 ∧ 2 < n ∧ 128 ≤ b1 ∧ 128 ≤ b2) := by
  unfold decR
  generalize (b0 - 192) * 64 + (b1 - 128) = x
  generalize (b0 - 224) * 4096 + (b1 - 128) * 64 + (b2 - 128) = y
  by_cases c1 : 32 ≤ b0 ∧ b0 < 127
  · rw [if_pos c1]; exact .inr (.inl ⟨rfl, c1.1⟩)
  rw [if_neg c1]
  by_cases c2 : 194 ≤ b0 ∧ b0 < 224 ∧ 1 < n ∧ 128 ≤ b1 ∧ b1 < 192
  · rw [if_pos c2]
    by_cases c3 : 160 ≤ x
    · rw [if_pos c3]; exact .inr (.inr (.inl ⟨rfl, by omega, by omega, by omega⟩))
    · rw [if_neg c3]; exact .inl rfl
  rw [if_neg c2]
  by_cases c3 : 224 ≤ b0 ∧ b0 < 240 ∧ 2 < n ∧ 128 ≤ b1 ∧ b1 < 192 ∧ 128 ≤ b2 ∧ b2 < 192
  · rw [if_pos c3]
    by_cases c4 : 2048 ≤ y ∧ (y < 55296 ∨ 57343 < y)
    · rw [if_pos c4]; exact .inr (.inr (.inr ⟨rfl, by omega, by omega, by omega, by omega⟩))
    · rw [if_neg c4]; exact .inl rfl
  · rw [if_neg c3]; exact .inl rfl
theorem dec0_no {l : List UInt8} (h : dec0 l ≠ 0) : ∀ c ∈ l.take (dec0 l), c ≠ 10 := by
  have key : ∀ (x : UInt8), x.toNat ≠ 10 → x ≠ 10 := fun x hx e => hx (by rw [e]; rfl)
  have hc := decR_cases l.length (l.getD 0 0).toNat (l.getD 1 0).toNat (l.getD 2 0).toNat
  unfold dec0 at h ⊢
  generalize hk : (decR l.length (l.getD 0 0).toNat (l.getD 1 0).toNat (l.getD 2 0).toNat).2 = k at *
  intro c hm
  have hget : ∃ j, j < k ∧ j < l.length ∧ c = l.getD j 0 := by
    obtain ⟨j, hj, he⟩ := List.getElem_of_mem hm
    rw [List.length_take] at hj
    refine ⟨j, by omega, by omega, ?_⟩
    rw [← he, List.getElem_take, List.getD_eq_getElem?_getD, List.getElem?_eq_getElem (by omega)]; rfl
  obtain ⟨j, hj, hjl, rfl⟩ := hget
  rcases hc with hc | ⟨hc, h0⟩ | ⟨hc, h0, hn, h1⟩ | ⟨hc, h0, hn, h1, h2⟩
  · exact (h hc).elim
  · obtain rfl : j = 0 := by omega
    exact key _ (by omega)
  · rcases (by omega : j = 0 ∨ j = 1) with rfl | rfl
    · exact key _ (by omega)
    · exact key _ (by omega)
  · rcases (by omega : j = 0 ∨ j = 1 ∨ j = 2) with rfl | rfl | rfl
    · exact key _ (by omega)
    · exact key _ (by omega)
    · exact key _ (by omega)
theorem valid_no : ∀ (n : Nat) {l : List UInt8}, l.length ≤ n → validT l = true → (10 : UInt8) ∉ l
  | 0, l, hl, _ => by
    have : l = [] := List.length_eq_zero_iff.1 (by omega)
    subst this; simp
  | n + 1, l, hl, hv => by
    by_cases hne : l = []
    · subst hne; simp
    · rw [validT_step hne] at hv
      have hpos : 0 < l.length := List.length_pos_iff.2 hne
      by_cases h0 : dec0 l = 0
      · rw [if_pos h0] at hv; cases hv
      · rw [if_neg h0] at hv
        have ih := valid_no n (l := l.drop (dec0 l)) (by rw [List.length_drop]; omega) hv
        rw [← List.take_append_drop (dec0 l) l, List.mem_append]
        rintro (h | h)
        · exact dec0_no h0 _ h rfl
        · exact ih h
theorem repl_no10 {s : List UInt8} (h : (10 : UInt8) ∉ s) : (10 : UInt8) ∉ repl 36 [36, 36] s := by
  unfold repl
  rw [List.mem_flatMap]
  rintro ⟨x, hx, hm⟩
  split at hm
  · simp at hm
  · simp only [List.mem_singleton] at hm
    subst hm; exact h hx
theorem printS_no : ∀ {l : List Sub}, (∀ s ∈ l, errS s = 0) → (10 : UInt8) ∉ printS l
  | [], _ => by simp [printS]
  | s :: l, h => by
    have h1 := errS_zero (h s (by simp))
    have h2 := printS_no (l := l) fun x hx => h x (List.mem_cons_of_mem _ hx)
    simp only [printS, List.mem_cons, List.mem_append]
    rintro (e | e | e | e)
    · exact absurd e (by decide)
    · exact code_ne h1.1 (by decide) e.symm
    · exact repl_no10 (valid_no _ (Nat.le_refl _) h1.2.2.1) e
    · exact h2 e
theorem printF_no {f : Field} (h : OkF f) : (10 : UInt8) ∉ printF f := by
  rw [printF_parts, List.mem_append]
  rintro (e | e)
  · exact head_no h (by decide) (by decide) e
  rw [List.mem_cons, List.mem_append, List.mem_cons] at e
  rcases e with e | e | e | e
  · exact absurd e (by decide)
  · exact (mid_no h).2.2.2 e
  · exact absurd e (by decide)
  · exact printS_no h.subs e
theorem headR_no {r : Rec} (h : OkH r) : (10 : UInt8) ∉ headR r := by
  unfold headR headH
  simp only [List.mem_cons, List.mem_append]
  have hk : (10 : UInt8) ∉ kindS r.2.2.1 := by
    have := h.k0; have := h.k1
    have : r.2.2.1 = 1 ∨ r.2.2.1 = 2 ∨ r.2.2.1 = 3 ∨ r.2.2.1 = 4 := by omega
    rcases this with e | e | e | e <;> rw [e] <;> decide
  rintro (e | e | e | e | e | e | e | e)
  · exact absurd e (by decide)
  · exact not_mem_of (itoa_digs h.id0).1 (by decide) e
  · exact absurd e (by decide)
  · exact not_mem_of (itoa_digs (by have := h.v0; omega)).1 (by decide) e
  · exact absurd e (by decide)
  · exact hk e
  · exact absurd e (by decide)
  · exact lang_no h.lang (by decide) e
theorem lines_print (t : List UInt8) : ∀ (fs gs : List Field) (n : Int), (∀ f ∈ fs, errF f = 0) → gs.length + fs.length ≤ 64 → linesP (linesF fs ++ 10 :: t) gs n = (gs ++ fs, t, n + fs.length + 1, 0)
  | [], gs, n, _, _ => by
    rw [linesP_step]
    have : Lib.cut (linesF [] ++ 10 :: t) [10] = ([], t, true) := cut_at (a := []) (by simp)
    rw [this, if_pos rfl, if_pos rfl, List.append_nil]
    simp
  | f :: fs, gs, n, h, hl => by
    have ok := okF_of (h f (by simp))
    simp only [List.length_cons] at hl
    rw [linesP_step]
    have : Lib.cut (linesF (f :: fs) ++ 10 :: t) [10] = (printF f, linesF fs ++ 10 :: t, true) := by
      have e : linesF (f :: fs) ++ 10 :: t = printF f ++ 10 :: (linesF fs ++ 10 :: t) := by simp only [linesF]; simp [List.append_assoc]
      rw [e]
      exact cut_at (printF_no ok)
    rw [this]
    dsimp only
    have hne : printF f ≠ [] := fun e => by
      have := printF_pos ok
      rw [e] at this; simp at this
    rw [if_neg hne, if_neg (by omega), parseP_print (h f (by simp)), if_pos ⟨rfl, rfl⟩, lines_print t fs (gs ++ [f]) (n + 1) (fun x hx => h x (List.mem_cons_of_mem _ hx)) (by simp only [List.length_append, List.length_singleton]; omega)]
    refine Prod.ext (by simp) (Prod.ext rfl (Prod.ext ?_ rfl))
    simp only [List.length_cons]; omega
theorem nextP_print {r : Rec} (h : OkR r) (t : List UInt8) : nextP (printR r ++ t) = (r, t, (r.2.2.2.2.length : Int) + 2, 0) := by
  unfold nextP
  have e : printR r ++ t = headR r ++ 10 :: (linesF r.2.2.2.2 ++ 10 :: t) := by unfold printR; simp [List.append_assoc]
  rw [e, cut_at (headR_no h.toOkH)]
  have hh : headR r = headR (r.1, r.2.1, r.2.2.1, r.2.2.2.1, []) := rfl
  dsimp only
  rw [hh, hdrP_print (okH_nil h.toOkH) rfl]
  simp only [if_true]
  rw [lines_print t r.2.2.2.2 [] 1 h.fields (by have := h.len; simp only [List.length_nil]; omega)]
  simp only [if_true]
  refine Prod.ext rfl (Prod.ext rfl (Prod.ext ?_ rfl))
  simp only []; omega
theorem lines_ok : ∀ (k : Nat) (s : List UInt8) (gs : List Field) (n : Int), gs.length ≤ 64 → (linesG k s gs n).2.2.2 = 0 →
    ∃ fs, (linesG k s gs n).1 = gs ++ fs ∧ (∀ f ∈ fs, errF f = 0) ∧ s = linesF fs ++ 10 :: (linesG k s gs n).2.1 ∧ gs.length + fs.length ≤ 64
  | 0, s, gs, n, _, h => by
    unfold linesG at h; cases h
  | k + 1, s, gs, n, hg, h => by
    unfold linesG at h ⊢
    by_cases h1 : (Lib.cut s [10]).1 = []
    · rw [if_pos h1] at h ⊢
      by_cases h2 : (Lib.cut s [10]).2.2 = true
      · rw [if_pos h2]
        have := (cut_true h2).1
        rw [h1] at this
        exact ⟨[], by simp, by simp, this, by simpa using hg⟩
      · rw [if_neg h2] at h; cases h
    · rw [if_neg h1] at h ⊢
      by_cases h3 : 64 ≤ gs.length
      · rw [if_pos h3] at h; cases h
      · rw [if_neg h3] at h ⊢
        by_cases h4 : (Lib.cut s [10]).2.2 = true ∧ (parseP (Lib.cut s [10]).1).2 = 0
        · rw [if_pos h4] at h ⊢
          obtain ⟨fs, i1, i2, i3, i4⟩ := lines_ok k _ _ _ (by simp only [List.length_append, List.length_singleton]; omega) h
          obtain ⟨p1, p2⟩ := parseP_ok h4.2
          refine ⟨(parseP (Lib.cut s [10]).1).1 :: fs, by rw [i1]; simp, ?_, ?_, by simp only [List.length_append, List.length_singleton, List.length_cons] at i4 ⊢; omega⟩
          · intro f hf
            rcases List.mem_cons.1 hf with rfl | hf
            · exact p1
            · exact i2 f hf
          · have hs := (cut_true h4.1).1
            conv => lhs; rw [hs]
            simp only [linesF, p2]
            rw [List.append_assoc, List.cons_append, ← i3]
        · rw [if_neg h4] at h; cases h
theorem nextP_ok {s : List UInt8} (h : (nextP s).2.2.2 = 0) : OkR (nextP s).1 ∧ s = printR (nextP s).1 ++ (nextP s).2.1 := by
  unfold nextP at h ⊢
  cases hh : hdrP (Lib.cut s [10]).1 with
  | none => rw [hh] at h; cases h
  | some q =>
    rw [hh] at h
    simp only [] at h ⊢
    obtain ⟨q1, q2, q3⟩ := hdrP_some hh
    by_cases h2 : (Lib.cut s [10]).2.2 = true
    · rw [if_pos h2] at h ⊢
      by_cases h3 : (linesP (Lib.cut s [10]).2.1 [] 1).2.2.2 = 0
      · rw [if_pos h3]
        obtain ⟨fs, i1, i2, i3, i4⟩ := lines_ok _ _ _ _ (by simp) h3
        have e1 : (linesP (Lib.cut s [10]).2.1 [] 1).1 = fs := by unfold linesP; rw [i1]; rfl
        simp only []
        rw [e1]
        refine ⟨⟨⟨q1.id0, q1.id1, q1.v0, q1.v1, q1.k0, q1.k1, q1.lang⟩, by show fs.length ≤ 64; simpa using i4, i2⟩, ?_⟩
        have hs := (cut_true h2).1
        conv => lhs; rw [hs, ← q2, i3]
        unfold printR
        show _ = headR q ++ 10 :: (linesF fs ++ [10]) ++ (linesP (Lib.cut s [10]).2.1 [] 1).2.1
        unfold linesP
        simp [List.append_assoc]
      · rw [if_neg h3] at h
        exact (h3 h).elim
    · rw [if_neg h2] at h; cases h
end Go.Proofs.YtbkaenpcmbplpaaDoor
