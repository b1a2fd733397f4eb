/-
  bag.Verify: the plain facts on the maps that it makes. No condition beyond what each line says.
-/
import Derived.Test.YthpgkpcnajookaaGreatDoorH1
namespace Go.Proofs.YthpgkpcnajookaaGreatDoor
open Go Go.Nu Go.RowKit Go.Sort Go.Maps
set_option linter.unusedVariables false

/-! ### the order of texts -/
theorem less_self : ∀ a : List UInt8, Op.bytesLess a a = false
  | [] => rfl
  | x :: a => by
    show (decide (x < x) || (x == x && Op.bytesLess a a)) = false
    rw [less_self a]
    simp
theorem less_tri : ∀ a b : List UInt8, Op.bytesLess a b = false → a ≠ b → Op.bytesLess b a = true
  | [], [], _, h => absurd rfl h
  | [], _ :: _, h, _ => by cases h
  | _ :: _, [], _, _ => rfl
  | x :: a, y :: b, h, hn => by
    replace h : (decide (x < y) || (x == y && Op.bytesLess a b)) = false := h
    show (decide (y < x) || (y == x && Op.bytesLess b a)) = true
    simp only [Bool.or_eq_false_iff, decide_eq_false_iff_not] at h
    by_cases e : x = y
    · subst e
      have h2 := h.2
      simp only [beq_self_eq_true, Bool.true_and] at h2 ⊢
      rw [less_tri a b h2 (fun e => hn (by rw [e]))]
      simp
    · have : y < x := by
        have h1 := h.1
        rw [UInt8.lt_iff_toNat_lt] at h1 ⊢
        have : x.toNat ≠ y.toNat := fun h => e (UInt8.toNat_inj.1 h)
        omega
      rw [dT this]; rfl
theorem less_trans : ∀ a b c : List UInt8, Op.bytesLess a b = true → Op.bytesLess b c = true → Op.bytesLess a c = true
  | a, [], _, h, _ => by cases a <;> cases h
  | _, _ :: _, [], _, h => by cases h
  | [], _ :: _, _ :: _, _, _ => rfl
  | x :: a, y :: b, z :: c, h1, h2 => by
    replace h1 : (decide (x < y) || (x == y && Op.bytesLess a b)) = true := h1
    replace h2 : (decide (y < z) || (y == z && Op.bytesLess b c)) = true := h2
    show (decide (x < z) || (x == z && Op.bytesLess a c)) = true
    simp only [Bool.or_eq_true, decide_eq_true_eq, Bool.and_eq_true, beq_iff_eq] at h1 h2 ⊢
    rcases h1 with h1 | ⟨rfl, h1⟩
    · rcases h2 with h2 | ⟨rfl, h2⟩
      · left
        rw [UInt8.lt_iff_toNat_lt] at *
        omega
      · exact .inl h1
    · rcases h2 with h2 | ⟨rfl, h2⟩
      · exact .inl h2
      · exact .inr ⟨rfl, less_trans a b c h1 h2⟩
theorem not_le {p q : List UInt8} (h : (Op.bytesLess p q || decide (p = q)) = false) : Op.bytesLess q p = true := by
  rw [Bool.or_eq_false_iff, decide_eq_false_iff_not] at h
  exact less_tri p q h.1 h.2
theorem less_ne {p q : List UInt8} (h : Op.bytesLess p q = true) : p ≠ q := by
  rintro rfl
  rw [less_self] at h
  cases h

/-- The paths stand in order, all behind 'last'. -/
theorem entsG_order : ∀ (k : Nat) (s last : List UInt8) (m : List File), entsG k s last = some m → (∀ x ∈ m, Op.bytesLess last x.2 = true) ∧ m.Pairwise fun x y => Op.bytesLess x.2 y.2 = true
  | 0, _, _, _, h => by cases h
  | k + 1, s, last, m, h => by
    rw [entsG_step] at h
    split at h
    · cases h; exact ⟨by simp, .nil⟩
    · split at h
      · cases h
      · rename_i hc
        rw [Option.map_eq_some_iff] at h
        obtain ⟨x, hx, rfl⟩ := h
        have ih := entsG_order k _ _ x hx
        have hl : Op.bytesLess last (Lib.cut (Lib.cut s [10]).1 [32]).2.1 = true := not_le (by
          cases hb : (Op.bytesLess (Lib.cut (Lib.cut s [10]).1 [32]).2.1 last || decide ((Lib.cut (Lib.cut s [10]).1 [32]).2.1 = last))
          · rfl
          · exact absurd (.inr (.inr (.inr (.inr hb)))) hc)
        refine ⟨fun y hy => ?_, .cons ih.1 ih.2⟩
        rcases List.mem_cons.1 hy with rfl | hy
        · exact hl
        · exact less_trans _ _ _ hl (ih.1 y hy)
def Keys (m : List File) : Prop := m.Pairwise fun x y => x.2 ≠ y.2
theorem entsP_keys {s : List UInt8} {m : List File} (h : entsP s = some m) : Keys m := (entsG_order _ _ _ _ h).2.imp less_ne

/-! ### the map of a manifest, read -/
theorem sum_none {m : List File} {p : List UInt8} : sumOf m p = none ↔ ∀ x ∈ m, x.2 ≠ p := by
  induction m with
  | nil => simp [sumOf]
  | cons x m ih =>
    rw [sumOf_cons]
    by_cases h : x.2 = p
    · rw [if_pos h]; simp [h]
    · rw [if_neg h, ih]; simp [h]
theorem lit_key (p : List UInt8) : WideAt.IsKeyLit (.string p) := trivial
theorem lit_ne {p q : List UInt8} (h : p ≠ q) : Lit.string p ≠ Lit.string q := fun e => h (by injection e)
def foldM (D : DataW Unit) (m : List File) : DataW Unit := m.foldl (fun D x => D.put (.string x.2) (.lit (.string x.1))) D
theorem fold_has : ∀ (m : List File) (D : DataW Unit) (p : List UInt8), IsMap D → Maps.has (foldM D m) (.string p) = (Maps.has D (.string p) || (sumOf m p).isSome)
  | [], D, p, _ => by simp [foldM, sumOf]
  | x :: m, D, p, h => by
    show Maps.has (foldM (D.put (.string x.2) (.lit (.string x.1))) m) (.string p) = _
    rw [fold_has m _ p (h.put _ _), sumOf_cons]
    by_cases e : x.2 = p
    · subst e
      rw [has_put_same h (lit_key _), if_pos rfl]; simp
    · rw [has_put_other (lit_ne (Ne.symm e)), if_neg e]
theorem fold_at : ∀ (m : List File) (D : DataW Unit) (p : List UInt8) (z : DataW Unit), IsMap D → Keys m → (foldM D m).atKey (.string p) z = match sumOf m p with | some d => .lit (.string d) | none => D.atKey (.string p) z
  | [], D, p, z, _, _ => rfl
  | x :: m, D, p, z, h, hk => by
    show (foldM (D.put (.string x.2) (.lit (.string x.1))) m).atKey (.string p) z = _
    obtain ⟨hk1, hk2⟩ := List.pairwise_cons.1 hk
    rw [fold_at m _ p z (h.put _ _) hk2, sumOf_cons]
    by_cases e : x.2 = p
    · subst e
      rw [if_pos rfl, sum_none.2 (fun y hy => (hk1 y hy).symm)]
      exact atKey_put_same h (lit_key _) _ _
    · rw [if_neg e, atKey_put_other (lit_ne (Ne.symm e))]
theorem fold_size : ∀ (m : List File) (D : DataW Unit), Tidy D → Keys m → (∀ x ∈ m, Maps.has D (.string x.2) = false) → Maps.size (foldM D m) = Maps.size D + m.length
  | [], D, _, _, _ => rfl
  | x :: m, D, h, hk, hn => by
    show Maps.size (foldM (D.put (.string x.2) (.lit (.string x.1))) m) = _
    obtain ⟨hk1, hk2⟩ := List.pairwise_cons.1 hk
    rw [fold_size m _ (h.put (lit_key _) _) hk2 (fun y hy => by rw [has_put_other (lit_ne (hk1 y hy).symm)]; exact hn y (List.mem_cons_of_mem _ hy)), size_put h, hn x List.mem_cons_self, List.length_cons]
    simp; omega
theorem MD_has (m : List File) (p : List UInt8) : Maps.has (MD m) (.string p) = (sumOf m p).isSome := by
  have := fold_has m (.map []) p isMap_empty
  rw [show Maps.has (DataW.map ([] : List (Lit × DataW Unit))) (.string p) = false from rfl, Bool.false_or] at this
  exact this
theorem MD_at {m : List File} (hk : Keys m) (p : List UInt8) (z : DataW Unit) : (MD m).atKey (.string p) z = match sumOf m p with | some d => .lit (.string d) | none => z := fold_at m (.map []) p z isMap_empty hk
theorem MD_size {m : List File} (hk : Keys m) : Maps.size (MD m) = m.length := by
  have := fold_size m (.map []) tidy_empty hk (fun _ _ => rfl)
  rw [show Maps.size (DataW.map ([] : List (Lit × DataW Unit))) = 0 from rfl, Nat.zero_add] at this
  exact this

/-! ### the map of what was met -/
structure MetI (m l : List File) (i : Nat) (D : DataW Unit) : Prop where
  td : Tidy D
  hs : ∀ p, Maps.has D (.string p) = ((sumOf m p).isSome && (l.take i).any fun f => decide (f.1 = p))
  sz : Maps.size D = (m.filter fun x => Maps.has D (.string x.2)).length
theorem MetI.start (m l : List File) : MetI m l 0 (.map []) := ⟨tidy_empty, fun p => by rw [List.take_zero, List.any_nil, Bool.and_false]; rfl, by
  rw [List.filter_eq_nil_iff.2 (fun x _ => by rw [show Maps.has (DataW.map ([] : List (Lit × DataW Unit))) (.string x.2) = false from rfl]; simp)]; rfl⟩
theorem MetI.skip {m l : List File} {i : Nat} {D : DataW Unit} (h : MetI m l i D) (hi : i < l.length) (hn : sumOf m (l.getD i ([], [])).1 = none) : MetI m l (i + 1) D := by
  refine ⟨h.td, fun p => ?_, h.sz⟩
  rw [h.hs p, any_step _ l ([], []) hi]
  by_cases e : (l.getD i ([], [])).1 = p
  · rw [← e, hn]; rfl
  · rw [dF e, Bool.or_false]
theorem filter_put {m : List File} {k : List UInt8} (P : List UInt8 → Bool) (hk : Keys m) (hP : P k = false) (hx : ∃ x ∈ m, x.2 = k) : (m.filter fun x => decide (x.2 = k) || P x.2).length = (m.filter fun x => P x.2).length + 1 := by
  induction m with
  | nil => obtain ⟨x, hx, _⟩ := hx; cases hx
  | cons y m ih =>
    obtain ⟨hk1, hk2⟩ := List.pairwise_cons.1 hk
    by_cases e : y.2 = k
    · have hrest : (m.filter fun x => decide (x.2 = k) || P x.2) = m.filter fun x => P x.2 := by
        refine List.filter_congr fun z hz => ?_
        rw [dF (fun h => hk1 z hz (e.trans h.symm)), Bool.false_or]
      rw [List.filter_cons, List.filter_cons, dT e, Bool.true_or, if_pos rfl, hrest, if_neg (by rw [e, hP]; simp), List.length_cons]
    · obtain ⟨x, hx, hxk⟩ := hx
      have hx2 : ∃ x ∈ m, x.2 = k := by
        rcases List.mem_cons.1 hx with rfl | hx
        · exact absurd hxk e
        · exact ⟨x, hx, hxk⟩
      rw [List.filter_cons, List.filter_cons, dF e, Bool.false_or]
      split
      · rw [List.length_cons, List.length_cons, ih hk2 hx2]
      · exact ih hk2 hx2
theorem MetI.put {m l : List File} {i : Nat} {D : DataW Unit} (h : MetI m l i D) (hk : Keys m) (hi : i < l.length) {d : List UInt8} (hd : sumOf m (l.getD i ([], [])).1 = some d) (v : DataW Unit) : MetI m l (i + 1) (D.put (.string (l.getD i ([], [])).1) v) := by
  generalize hf : l.getD i ([], []) = f at *
  have hhas : ∀ p, Maps.has (D.put (.string f.1) v) (.string p) = (decide (p = f.1) || Maps.has D (.string p)) := by
    intro p
    by_cases e : p = f.1
    · rw [e, has_put_same h.td.isMap (lit_key _), dT rfl, Bool.true_or]
    · rw [has_put_other (lit_ne e), dF e, Bool.false_or]
  refine ⟨h.td.put (lit_key _) _, fun p => ?_, ?_⟩
  · rw [hhas p, h.hs p, any_step _ l ([], []) hi, hf]
    by_cases e : p = f.1
    · subst e
      rw [hd]; simp
    · rw [dF e, dF (Ne.symm e)]; simp
  · rw [size_put h.td]
    cases hb : Maps.has D (.string f.1) with
    | true =>
      rw [if_pos rfl, h.sz]
      congr 1
      refine List.filter_congr fun x _ => ?_
      rw [hhas x.2]
      by_cases e : x.2 = f.1
      · rw [e, hb]; simp
      · rw [dF e, Bool.false_or]
    | false =>
      rw [if_neg (by simp), h.sz]
      have hx : ∃ x ∈ m, x.2 = f.1 := by
        cases hs : (m.any fun x => decide (x.2 = f.1)) with
        | true =>
          obtain ⟨x, hx, e⟩ := List.any_eq_true.1 hs
          exact ⟨x, hx, by simpa using e⟩
        | false =>
          have this : sumOf m f.1 = none := sum_none.2 (fun x hx e => by
            have := List.any_eq_false.1 hs x hx
            simp [e] at this)
          rw [this] at hd
          cases hd
      rw [← filter_put (fun p => Maps.has D (.string p)) hk hb hx]
      congr 1
      refine List.filter_congr fun x _ => ?_
      rw [hhas x.2]
theorem MetI.fin {m l : List File} {D : DataW Unit} (h : MetI m l l.length D) (hk : Keys m) : surplusB m l = decide (Maps.size D < Maps.size (MD m)) := by
  rw [MD_size hk, h.sz, Bool.eq_iff_iff, decide_eq_true_eq, List.length_filter_lt_length_iff_exists]
  unfold surplusB
  rw [List.any_eq_true]
  constructor
  · rintro ⟨x, hx, hn⟩
    refine ⟨x, hx, ?_⟩
    rw [h.hs x.2, List.take_length]
    simp only [Bool.not_eq_true'] at hn
    rw [hn]; simp
  · rintro ⟨x, hx, hn⟩
    refine ⟨x, hx, ?_⟩
    rw [h.hs x.2, List.take_length] at hn
    have : (sumOf m x.2).isSome = true := by
      cases hs : sumOf m x.2 with
      | none => exact absurd rfl (sum_none.1 hs x hx)
      | some _ => rfl
    rw [this, Bool.true_and] at hn
    show (!(l.any fun f => decide (f.1 = x.2))) = true
    rw [Bool.eq_false_iff.2 hn]; rfl
end Go.Proofs.YthpgkpcnajookaaGreatDoor
