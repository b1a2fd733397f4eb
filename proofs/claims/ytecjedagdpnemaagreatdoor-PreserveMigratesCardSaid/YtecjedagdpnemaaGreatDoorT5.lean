/-
  Chapter 47: formats that are right; the law on migrations. No condition.
-/
import Derived.Test.YtecjedagdpnemaaGreatDoorT4
import Derived.Test.YtecjedagdpnemaaGreatDoorFa
namespace Go.Proofs.YtecjedagdpnemaaGreatDoor
open Go Go.Nu
set_option linter.unusedVariables false
theorem c58 (s : List UInt8) (hs : s.length ≤ maxLen) : ∃ b, F58 s = some b := by
  have key : Fate (τ := Empty) (fun _ : Bool => True) (fun _ => False) (fun _ => F58 s) := by
    unfold F58
    refine Fate.loop (fun p : Int => ∃ i : Nat, p = (i : Int) ∧ i ≤ s.length) (fun p => s.length - p.toNat) ⟨0, rfl, by omega⟩ ?_
    rintro _ ⟨i, rfl, hi⟩
    dsimp only
    have hs : s.length ≤ 9223372036854775807 := hs
    refine Fate.cnd (fun h => ?_) (fun h => ?_)
    · rw [decide_eq_true_eq] at h
      have step : ∀ {V : Bool → Prop}, Fate V (LoopY (fun _ : Empty => False) (fun p : Int => ∃ i : Nat, p = (i : Int) ∧ i ≤ s.length) (fun p => s.length - p.toNat) (i : Int)) (fun ag => bnd (IntKind.wrap .i64 ((i : Int) + 1)) fun x => ag (.inr x)) := by
        intro V
        rw [i64_wrap (by omega)]
        exact Fate.on (t := Sum.inr ((i : Int) + 1)) (LoopY.inr ⟨⟨i + 1, by omega, by omega⟩, by omega⟩)
      refine Fate.gd (by omega) ?_
      repeat' (first | exact step | exact Fate.val trivial | refine Fate.cnd (fun _ => ?_) (fun _ => ?_))
    · repeat' (first | exact Fate.val trivial | refine Fate.cnd (fun _ => ?_) (fun _ => ?_))
  obtain ⟨v, _, h⟩ := key.whole
  exact ⟨v, h⟩
def GoodM (f : Fmt) : Prop := idB f.1 = true ∧ f.2.2.2.2.2.1.length ≤ 16
theorem asc_low (l : List Int) (h1 : ∀ j, 1 ≤ j → j < l.length → l.getD (j - 1) 0 < l.getD j 0) (h2 : ∀ j, j < l.length → 1 ≤ l.getD j 0 ∧ l.getD j 0 ≤ 9999) : l.length ≤ 10000 := by
  have key : ∀ j : Nat, j < l.length → (j : Int) < l.getD j 0 := by
    intro j
    induction j with
    | zero => intro hj; have := (h2 0 hj).1; omega
    | succ j ih =>
      intro hj
      have a := ih (by omega)
      have b := h1 (j + 1) (by omega) hj
      rw [Nat.add_sub_cancel] at b
      omega
  rcases Nat.eq_zero_or_pos l.length with h | h
  · omega
  · have a := key (l.length - 1) (by omega)
    have b := (h2 (l.length - 1) (by omega)).2
    omega
set_option maxHeartbeats 2000000 in
theorem c22 (l : List Fmt) (hn : ∀ f ∈ l, f.2.2.2.2.1.length ≤ maxLen ∧ f.2.2.2.2.2.2.length ≤ maxLen) : ∃ v, (v = 0 → ∀ f ∈ l, idB f.1 = true ∧ f.2.2.2.2.2.1.length ≤ 16 ∧ f.2.2.2.2.2.2.length ≤ 10000) ∧ F22 l = some v := by
  refine Fate.whole (V := fun v : Int => v = 0 → ∀ f ∈ l, idB f.1 = true ∧ f.2.2.2.2.2.1.length ≤ 16 ∧ f.2.2.2.2.2.2.length ≤ 10000) ?_
  unfold F22
  refine Fate.cnd (fun h => Fate.val (fun h => absurd h (by decide))) (fun h16 => ?_)
  have h16 : l.length ≤ 16 := by rw [decide_eq_false_iff_not] at h16; omega
  refine Fate.loop (fun p : Int => ∃ i : Nat, p = (i : Int) ∧ i ≤ l.length ∧ ∀ j, j < i → GoodM (l.getD j M0)) (fun p => l.length - p.toNat) ⟨0, rfl, by omega, fun j hj => absurd hj (Nat.not_lt_zero _)⟩ ?_
  rintro _ ⟨i, rfl, hi, hg⟩
  dsimp only
  refine Fate.cnd (fun h => ?_) (fun h => ?_)
  · rw [decide_eq_true_eq] at h
    have hlt : i < l.length := by omega
    have hmem : l.getD i M0 ∈ l := by rw [List.getD_eq_getElem?_getD, List.getElem?_eq_getElem hlt]; exact List.getElem_mem hlt
    obtain ⟨b58, e58⟩ := c58 _ (hn _ hmem).1
    simp only [jn_eq, toNat_nat]
    refine Fate.gd (by omega) ?_
    have step : GoodM (l.getD i M0) → Fate (fun v : Int => v = 0 → ∀ f ∈ l, idB f.1 = true ∧ f.2.2.2.2.2.1.length ≤ 16 ∧ f.2.2.2.2.2.2.length ≤ 10000) (LoopY (fun _ : Empty => False) (fun p : Int => ∃ i : Nat, p = (i : Int) ∧ i ≤ l.length ∧ ∀ j, j < i → GoodM (l.getD j M0)) (fun p => l.length - p.toNat) (i : Int)) (fun ag => bnd (IntKind.wrap .i64 ((i : Int) + 1)) fun x => ag (.inr x)) := by
      intro hx
      rw [i64_wrap (by omega)]
      refine Fate.on (t := Sum.inr ((i : Int) + 1)) (LoopY.inr ⟨⟨i + 1, by omega, by omega, fun j hj => ?_⟩, by omega⟩)
      by_cases hji : j = i
      · subst hji; exact hx
      · exact hg j (by omega)
    have e0 : IntKind.wrap .i64 ((i : Int) - 1) = (i : Int) - 1 := i64_wrap (by omega)
    simp only [e0]
    generalize l.getD i M0 = x at *
    repeat' (first
      | exact Fate.val (fun h => absurd h (by decide))
      | refine Fate.bind e58 ?_
      | refine Fate.cnd (fun hc => ?_) (fun hc => ?_)
      | exact step ⟨dT (by simp only [decide_eq_false_iff_not, decide_eq_true_eq] at *; omega), by simp only [decide_eq_false_iff_not, decide_eq_true_eq] at *; omega⟩
      | refine Fate.gd (by simp only [decide_eq_false_iff_not, decide_eq_true_eq] at *; omega) ?_
      | refine Fate.bnd ?_)
  have hie : i = l.length := by rw [decide_eq_false_iff_not] at h; omega
  subst hie
  clear h hi
  have hall : ∀ f ∈ l, GoodM f := fun f hf => by
    obtain ⟨j, hj, rfl⟩ := List.getElem_of_mem hf
    have := hg j hj
    rwa [List.getD_eq_getElem?_getD, List.getElem?_eq_getElem hj] at this
  -- the names and the beginnings differ
  refine Fate.loop (fun p : Int => ∃ i : Nat, p = (i : Int) ∧ i ≤ l.length) (fun p => l.length - p.toNat) ⟨0, rfl, by omega⟩ ?_
  rintro _ ⟨i, rfl, hi⟩
  dsimp only
  refine Fate.cnd (fun h => ?_) (fun h => ?_)
  · rw [decide_eq_true_eq] at h
    refine Fate.loop (fun p : Int => ∃ k : Nat, p = (k : Int) ∧ k ≤ i) (fun p => i - p.toNat) ⟨0, rfl, by omega⟩ ?_
    rintro _ ⟨k, rfl, hk⟩
    dsimp only
    refine Fate.cnd (fun h2 => ?_) (fun h2 => ?_)
    · rw [decide_eq_true_eq] at h2
      rw [i64_wrap (n := (k : Int) + 1) (by omega)]
      refine Fate.gd (by omega) (Fate.gd (by omega) (Fate.cnd (fun _ => Fate.val (fun h => absurd h (by decide))) (fun _ => Fate.gd (by omega) (Fate.gd (by omega) (Fate.cnd (fun _ => Fate.val (fun h => absurd h (by decide))) (fun _ => Fate.bnd ?_))))))
      exact Fate.on (t := Sum.inr ((k : Int) + 1)) (LoopY.inr ⟨⟨k + 1, by omega, by omega⟩, by omega⟩)
    · rw [i64_wrap (n := (i : Int) + 1) (by omega)]
      refine Fate.bnd ?_
      exact Fate.on (t := Sum.inl (Sum.inr ((i : Int) + 1))) (LoopY.inl (LoopY.inr ⟨⟨i + 1, by omega, by omega⟩, by omega⟩))
  clear h hi
  -- what they may be turned into
  refine Fate.loop (fun p : Int => ∃ i : Nat, p = (i : Int) ∧ i ≤ l.length ∧ ∀ j, j < i → (l.getD j M0).2.2.2.2.2.2.length ≤ 10000) (fun p => l.length - p.toNat) ⟨0, rfl, by omega, fun j hj => absurd hj (Nat.not_lt_zero _)⟩ ?_
  rintro _ ⟨i, rfl, hi, hlen⟩
  dsimp only
  refine Fate.cnd (fun h => ?_) (fun h => ?_)
  · rw [decide_eq_true_eq] at h
    have hlt : i < l.length := by omega
    have hmem : l.getD i M0 ∈ l := by rw [List.getD_eq_getElem?_getD, List.getElem?_eq_getElem hlt]; exact List.getElem_mem hlt
    have hT : (l.getD i M0).2.2.2.2.2.2.length ≤ 9223372036854775807 := (hn _ hmem).2
    have step : (l.getD i M0).2.2.2.2.2.2.length ≤ 10000 → ((∃ k : Nat, (i : Int) + 1 = (k : Int) ∧ k ≤ l.length ∧ ∀ j, j < k → (l.getD j M0).2.2.2.2.2.2.length ≤ 10000) ∧ l.length - ((i : Int) + 1).toNat < l.length - ((i : Int)).toNat) := by
      intro hx
      refine ⟨⟨i + 1, by omega, by omega, fun j hj => ?_⟩, by omega⟩
      by_cases hji : j = i
      · subst hji; exact hx
      · exact hlen j (by omega)
    simp only [toNat_nat]
    generalize l.getD i M0 = x at *
    obtain ⟨T, hTe⟩ : ∃ T, T = x.2.2.2.2.2.2 := ⟨_, rfl⟩
    rw [← hTe] at hT step
    simp only [← hTe]
    refine Fate.gd (by omega) ?_
    refine Fate.loop (fun p : Int => ∃ k : Nat, p = (k : Int) ∧ 1 ≤ k ∧ (k ≤ T.length ∨ k = 1) ∧ ∀ j, 1 ≤ j → j < k → T.getD (j - 1) 0 < T.getD j 0) (fun p => T.length - p.toNat) ⟨1, rfl, by omega, by omega, fun j h1 h2 => by omega⟩ ?_
    rintro _ ⟨k, rfl, hk1, hk, hasc⟩
    dsimp only
    refine Fate.cnd (fun h2 => ?_) (fun h2 => ?_)
    · rw [decide_eq_true_eq] at h2
      have e0 : IntKind.wrap .i64 ((k : Int) - 1) = (k : Int) - 1 := i64_wrap (by omega)
      have e1 : IntKind.wrap .i64 ((k : Int) + 1) = (k : Int) + 1 := i64_wrap (by omega)
      have e2 : ((k : Int) - 1).toNat = k - 1 := by omega
      simp only [e0, e1, toNat_nat]
      refine Fate.gd (by omega) (Fate.bnd (Fate.gd (by omega) (Fate.cnd (fun _ => Fate.val (fun h => absurd h (by decide))) (fun hc => Fate.bnd ?_))))
      rw [decide_eq_false_iff_not, e2] at hc
      refine Fate.on (t := Sum.inr ((k : Int) + 1)) (LoopY.inr ⟨⟨k + 1, by omega, by omega, by omega, fun j j1 j2 => ?_⟩, by omega⟩)
      by_cases hjk : j = k
      · subst hjk; omega
      · exact hasc j j1 (by omega)
    · have hkT : T.length ≤ k := by rw [decide_eq_false_iff_not] at h2; omega
      refine Fate.loop (fun p : Int => ∃ q : Nat, p = (q : Int) ∧ q ≤ T.length ∧ ∀ j, j < q → 1 ≤ T.getD j 0 ∧ T.getD j 0 ≤ 9999) (fun p => T.length - p.toNat) ⟨0, rfl, by omega, fun j hj => absurd hj (Nat.not_lt_zero _)⟩ ?_
      rintro _ ⟨q, rfl, hq, hin⟩
      dsimp only
      refine Fate.cnd (fun h3 => ?_) (fun h3 => ?_)
      · rw [decide_eq_true_eq] at h3
        have e1 : IntKind.wrap .i64 ((q : Int) + 1) = (q : Int) + 1 := i64_wrap (by omega)
        simp only [e1, toNat_nat]
        refine Fate.gd (by omega) (Fate.gd (by omega) (Fate.cnd (fun _ => Fate.val (fun h => absurd h (by decide))) (fun _ => Fate.gd (by omega) (Fate.bind (c59 l _ (by omega)) ?_))))
        refine Fate.cnd (fun _ => Fate.val (fun h => absurd h (by decide))) (fun hc => Fate.bnd ?_)
        refine Fate.on (t := Sum.inr ((q : Int) + 1)) (LoopY.inr ⟨⟨q + 1, by omega, by omega, fun j hj => ?_⟩, by omega⟩)
        by_cases hjq : j = q
        · subst hjq
          have hg2 : (getG l (T.getD j 0)).2 = true := by simpa using hc
          cases hgf : getF l (T.getD j 0) with
          | none => unfold getG at hg2; rw [hgf] at hg2; cases hg2
          | some f =>
            have hm := List.mem_of_find?_eq_some (show l.find? (fun f => decide (f.1 = T.getD j 0)) = some f from hgf)
            have hp := List.find?_some (show l.find? (fun f => decide (f.1 = T.getD j 0)) = some f from hgf)
            rw [decide_eq_true_eq] at hp
            have hid := (hall f hm).1
            unfold idB at hid
            rw [decide_eq_true_eq] at hid
            omega
        · exact hin j (by omega)
      · have hqT : q = T.length := by rw [decide_eq_false_iff_not] at h3; omega
        subst hqT
        rw [i64_wrap (n := (i : Int) + 1) (by omega)]
        refine Fate.bnd ?_
        exact Fate.on (t := Sum.inl (Sum.inl (Sum.inr ((i : Int) + 1)))) (LoopY.inl (LoopY.inl (LoopY.inr (step (asc_low T (fun j j1 j2 => hasc j j1 (by omega)) hin)))))
  · have hie : i = l.length := by rw [decide_eq_false_iff_not] at h; omega
    subst hie
    refine Fate.val fun _ f hf => ⟨(hall f hf).1, (hall f hf).2, ?_⟩
    obtain ⟨j, hj, rfl⟩ := List.getElem_of_mem hf
    have := hlen j hj
    rwa [List.getD_eq_getElem?_getD, List.getElem?_eq_getElem hj] at this
theorem rightL_all : ∀ (l : List File) (q : Option (List UInt8)), rightL q l = 0 → ∀ f ∈ l, f.1.length ≤ 60 ∧ f.2.length ≤ 2000
  | [], q, _, f, hf => by cases hf
  | x :: l, q, h, f, hf => by
    have hs : rightL q (x :: l) = if pathB x.1 = false then 3 else if badO q x.1 = true then 7 else if 2000 < x.2.length then 4 else rightL (some x.1) l := rfl
    rw [hs] at h
    split at h
    · cases h
    rename_i h1
    split at h
    · cases h
    split at h
    · cases h
    rename_i h3
    rcases List.mem_cons.1 hf with rfl | hf
    · have h1 : pathB f.1 = true := by simpa using h1
      unfold pathB at h1
      rw [Bool.and_eq_true, decide_eq_true_eq] at h1
      exact ⟨h1.1, by omega⟩
    · exact rightL_all l _ h f hf
theorem right_fit {l : List File} (h : rightP l = 0) : Fit l := by
  unfold rightP at h
  split at h
  · cases h
  split at h
  · cases h
  exact ⟨by omega, fun f hf => by have := rightL_all l _ h f hf; omega⟩
theorem fit_migrate {o : Obj} {l : List Fmt} {tg d : Int} (h : FitO o) : (migrateP o l tg d).2 = 0 → FitO (migrateP o l tg d).1 := by
  intro h0
  obtain ⟨t, r, a0, a1, a2, a3, a4, e0⟩ := migrate_ok h0
  rw [e0]
  refine FitO.add (o := (o.1, o.2.1, o.2.2.1 ++ [(tg, (o.2.2.1.length : Int) - 1, d, rootP r, r)], o.2.2.2.1, o.2.2.2.2)) ⟨?_, h.h, fun x hx => ?_, h.hl⟩ (by show o.2.2.2.1.length + 1 ≤ 1000; omega) (by rw [root_len]; omega)
  · show (o.2.2.1 ++ [_]).length ≤ 1000
    rw [List.length_append, List.length_singleton]; omega
  · rcases List.mem_append.1 (show x ∈ o.2.2.1 ++ [(tg, (o.2.2.1.length : Int) - 1, d, rootP r, r)] from hx) with hx | hx
    · exact h.el x hx
    · rw [List.mem_singleton] at hx
      subst hx
      exact ⟨by show (rootP r).length ≤ 1000; rw [root_len]; omega, right_fit a3⟩
theorem migrate_err {o : Obj} {l : List Fmt} {tg d : Int} (h : (migrateP o l tg d).2 ≠ 0) : (migrateP o l tg d).1 = O0 := by
  unfold migrateP at h ⊢
  split
  · rfl
  rename_i h1
  rw [if_neg h1] at h
  split
  · rfl
  rename_i h2
  rw [if_neg h2] at h
  cases hq : getF l (lastE o).1 with
  | none => rfl
  | some f =>
    cases hq2 : getF l tg with
    | none => rfl
    | some t =>
      rw [hq, hq2] at h
      dsimp only at h ⊢
      split
      · rfl
      rename_i h3
      rw [if_neg h3] at h
      split
      · rfl
      rename_i h4
      rw [if_neg h4] at h
      cases hc : convsP f t (lastE o).2.2.2.2 with
      | none => rfl
      | some r =>
        rw [hc] at h
        dsimp only at h ⊢
        split
        · rfl
        rename_i h5
        rw [if_neg h5] at h
        split
        · rfl
        rename_i h6
        rw [if_neg h6] at h
        exact absurd rfl h
theorem law5 (o : Obj) (p : List Fmt × Int × Int) (hn : ∀ f ∈ p.1, f.2.2.2.2.1.length ≤ maxLen ∧ f.2.2.2.2.2.2.length ≤ maxLen) : F5 o p = some true := by
  unfold F5
  rw [f10, bindO_some, Bool.not_true, cond_false, c16, bindO_some]
  cases hs : smallO o
  · rfl
  rw [Bool.not_true, cond_false]
  by_cases h16 : 16 < p.1.length
  · rw [dT (by omega), cond_true]
  obtain ⟨v, hv, e22⟩ := c22 p.1 hn
  rw [dF (by omega), cond_false, e22, bindO_some]
  by_cases hv0 : v = 0
  rotate_left
  · rw [dF hv0, Bool.not_false, cond_true]
  have hg := hv hv0
  rw [dT hv0, Bool.not_true, cond_false]
  have hf := smallO_fit hs
  obtain ⟨s1, s2, s3, s4⟩ := smallO_all hs
  have hM : FitM o p.1 := ⟨hf, fun x hx => smallF_fit (s3 x hx).1, by omega, fun f hf => by have := hg f hf; omega⟩
  have hMb : fitM o p.1 = true := by
    unfold fitM fitF
    rw [Bool.and_eq_true, Bool.and_eq_true, Bool.and_eq_true, decide_eq_true_eq, List.all_eq_true, List.all_eq_true]
    refine ⟨fitO_small hs, fun x hx => ?_, by omega, fun f hf => by rw [decide_eq_true_eq]; have := hg f hf; omega⟩
    unfold fitC
    rw [Bool.and_eq_true, decide_eq_true_eq, List.all_eq_true]
    have hc := smallF_fit (s3 x hx).1
    exact ⟨hc.1, fun f hf => by rw [decide_eq_true_eq]; exact hc.2 f hf⟩
  have e1 : fMigrate o p.1 p.2.1 p.2.2 = some (migrateP o p.1 p.2.1 p.2.2) := by unfold fMigrate; rw [if_pos hMb]
  have hr := fun h => migrate_right (o := o) (l := p.1) (tg := p.2.1) (d := p.2.2) (fun t ht => by
    have hm := getF_mem ht
    have hp := List.find?_some (show p.1.find? (fun f => decide (f.1 = p.2.1)) = some t from ht)
    rw [decide_eq_true_eq] at hp
    rw [← hp]
    exact (hg t hm).1) h
  have hf2 : FitO (migrateP o p.1 p.2.1 p.2.2).1 := by
    by_cases h : (migrateP o p.1 p.2.1 p.2.2).2 = 0
    · exact fit_migrate hf h
    · rw [migrate_err h]; exact fit_O0
  rw [e1, bindO_some, c24 _ _ _ _ hM, bindO_some]
  generalize migrateP o p.1 p.2.1 p.2.2 = r at *
  rw [dT rfl, cond_true, c14 _ hf2.len, bindO_some, cond_true]
  by_cases h : r.2 = 0
  · rw [dT h, Bool.not_true, cond_false, c15 _ hf2, bindO_some, dT (hr h).to]
  · rw [dF h, Bool.not_false, cond_true]
theorem rd_fmt {H : Type} {x : Fmt} {ds : List (DataW H)} (h : RdL Tryz.prog shFmt x ds) : x.2.2.2.2.1.length ≤ maxLen ∧ x.2.2.2.2.2.2.length ≤ maxLen := by
  obtain ⟨ps, _, d1, r1, _, q1, d2, r2, _, q2, d3, r3, _, q3, d4, r4, _, q4, d5, r5, _, q5, d6, r6, _, q6, q7⟩ := h
  refine ⟨q5.2, ?_⟩
  rcases q7 with ⟨_, hn⟩ | ⟨els, sp, _, _, hl⟩
  · have hn : x.2.2.2.2.2.2 = [] := hn
    rw [hn]; exact Nat.zero_le _
  · exact hl
theorem rd_fmts {H : Type} : ∀ {l : List Fmt} {els : List (DataW H)}, All2 (fun x d => RdL Tryz.prog shFmt x [d]) l els → ∀ x ∈ l, x.2.2.2.2.1.length ≤ maxLen ∧ x.2.2.2.2.2.2.length ≤ maxLen
  | [], _, _, x, hx => by cases hx
  | y :: l, [], h, x, hx => h.elim
  | y :: l, d :: els, h, x, hx => by
    rcases List.mem_cons.1 hx with rfl | hx
    · exact rd_fmt h.1
    · exact rd_fmts h.2 x hx
theorem law5_of {H : Type} (o : Obj) (p : List Fmt × Int × Int) {t : TypeId} {ds : List (DataW H)} (h : RdLs Tryz.prog [shObj, .agg t (.pair (.sl 72 shFmt) (.pair (.int .i64) (.int .i64)))] (o, p) ds) : F5 o p = some true := by
  obtain ⟨d, r, _, _, h2⟩ := h
  refine law5 o p ?_
  obtain ⟨ps, _, e1, s1, _, q1, _⟩ := h2
  rcases q1 with ⟨_, hn⟩ | ⟨els, sp, _, ha, _⟩
  · have hn : p.1 = [] := hn
    rw [hn]
    intro x hx
    cases hx
  · exact rd_fmts ha
end Go.Proofs.YtecjedagdpnemaaGreatDoor
