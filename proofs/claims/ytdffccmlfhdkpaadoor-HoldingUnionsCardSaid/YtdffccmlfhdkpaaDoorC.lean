/-
  Chapter 17: the sets of the code are the spans of the chapter.
-/
import Derived.Test.YtdffccmlfhdkpaaDoorB
namespace Go.Proofs.YtdffccmlfhdkpaaDoor
open Go Go.Nu

abbrev St17 := List Bool × Bool
def putS (has : List Bool) (a : Nat) (v : Bool) : Nat → List Bool
  | 0 => has
  | k + 1 => (putS has a v k).set (a + k) v
theorem putS_len {has : List Bool} {a : Nat} {v : Bool} : ∀ k, (putS has a v k).length = has.length
  | 0 => rfl
  | k + 1 => by rw [putS, List.length_set, putS_len k]
theorem putS_at {has : List Bool} {a : Nat} {v : Bool} {n : Nat} (hn : n < has.length) : ∀ k, (putS has a v k).getD n false = if a ≤ n ∧ n < a + k then v else has.getD n false
  | 0 => by rw [putS, if_neg (by omega)]
  | k + 1 => by
    rw [putS, List.getD_eq_getElem?_getD, List.getElem?_set, putS_len]
    have ih := putS_at (a := a) (v := v) hn k
    rw [List.getD_eq_getElem?_getD] at ih
    by_cases h : a + k = n
    · rw [if_pos h, if_pos (by omega), if_pos (by omega)]; rfl
    · rw [if_neg h, ih]
      by_cases h2 : a ≤ n ∧ n < a + k
      · rw [if_pos h2, if_pos (by omega)]
      · rw [if_neg h2, if_neg (by omega)]

def toE (b : Int) : Int := if b = 0 then 9999 else b
theorem f48 (s : St17) (a b : Int) (v : Bool) (hs : s.1.length = 10000) (ha : 0 ≤ a ∧ a ≤ 10000) (hb : 0 ≤ toE b ∧ toE b ≤ 9999) : F48 s a b v = some ((), putS s.1 a.toNat v (toE b + 1 - a).toNat, s.2) := by
  unfold F48
  simp only [jn_eq, bnd_eq]
  have key : ∀ t : Int, 0 ≤ t ∧ t ≤ 9999 → (loopK (σ := Int × List Bool × Bool) (fun p4 againp4 =>
    cond (decide (p4.1 < IntKind.i64.wrap (IntKind.i64.wrap (t - a) + 1)))
      (gd (0 ≤ IntKind.i64.wrap (a + p4.1) ∧ IntKind.i64.wrap (a + p4.1) < (List.length p4.2.1 : Int)) <|
      gd ((Int.toNat (IntKind.i64.wrap (a + p4.1))) < List.length p4.2.1) <|
      againp4 (IntKind.i64.wrap (p4.1 + (1 : Int)), ((List.set p4.2.1 (Int.toNat (IntKind.i64.wrap (a + p4.1))) v), p4.2.2)))
      (some ((), p4.2))) ((0 : Int), s)) = some ((), putS s.1 a.toNat v (t + 1 - a).toNat, s.2) := by
    intro t ht
    rw [i64_wrap (n := t - a) (by omega), i64_wrap (n := t - a + 1) (by omega)]
    refine loopK_rule (fun x => ∃ k : Nat, x = ((k : Int), putS s.1 a.toNat v k, s.2) ∧ k ≤ (t + 1 - a).toNat) (fun x => (t + 1 - a).toNat - x.1.toNat) ⟨0, rfl, by omega⟩ rfl ?_
    rintro x again ⟨k, rfl, hk⟩ hag
    simp only []
    by_cases hlt : (k : Int) < t - a + 1
    · rw [decide_eq_true hlt, cond_true, i64_wrap (by omega), i64_wrap (by omega), gd_pos (by rw [putS_len]; omega), gd_pos (by rw [putS_len]; omega)]
      have e : (a + (k : Int)).toNat = a.toNat + k := by omega
      rw [e]
      exact hag _ ⟨k + 1, by simp [putS], by omega⟩ (by simp; omega)
    · rw [decide_eq_false hlt, cond_false]
      have : k = (t + 1 - a).toNat := by omega
      rw [this]
  unfold toE at hb ⊢
  by_cases h0 : b = 0
  · rw [decide_eq_true h0, cond_true, if_pos h0]
    exact key 9999 (by omega)
  · rw [decide_eq_false h0, cond_false, if_neg h0]
    rw [if_neg h0] at hb
    exact key b hb

def okS (p : Sp) : Prop := 1 ≤ p.1 ∧ p.1 ≤ 9999 ∧ (p.2 = 0 ∨ p.1 ≤ p.2 ∧ p.2 ≤ 9999)
def addS (s : St17) (p : Sp) : St17 := (putS s.1 p.1.toNat true (toE p.2 + 1 - p.1).toNat, s.2 || decide (p.2 = 0))
def none17 : St17 := (List.replicate 10000 false, false)
theorem none17_len : none17.1.length = 10000 := List.length_replicate
theorem none17_at (n : Nat) : none17.1.getD n false = false := by
  show (List.replicate 10000 false).getD n false = false
  rw [List.getD_eq_getElem?_getD, List.getElem?_replicate]
  split <;> rfl

structure reps (s : St17) (M : Int → Prop) : Prop where
  len : s.1.length = 10000
  has : ∀ n : Nat, 1 ≤ n → n ≤ 9999 → (s.1.getD n false = true ↔ M n)
  op : s.2 = true ↔ M 10000

theorem okS_to {p : Sp} (h : okS p) : 0 ≤ toE p.2 ∧ toE p.2 ≤ 9999 ∧ p.1 ≤ toE p.2 := by
  obtain ⟨h1, h2, h3⟩ := h
  unfold toE
  split <;> omega
theorem reps_add {s : St17} {M : Int → Prop} {p : Sp} (h : reps s M) (hp : okS p) : reps (addS s p) fun n => M n ∨ ((endS p).1 ≤ n ∧ n ≤ (endS p).2) := by
  have ht := okS_to hp
  obtain ⟨h1, h2, h3⟩ := hp
  refine ⟨by show (putS _ _ _ _).length = _; rw [putS_len, h.len], fun n hn1 hn2 => ?_, ?_⟩
  · show (putS _ _ _ _).getD n false = true ↔ _
    rw [putS_at (by rw [h.len]; omega)]
    unfold toE at ht ⊢
    unfold endS
    have := h.has n hn1 hn2
    by_cases h0 : p.2 = 0
    · simp only [h0, if_true] at ht ⊢
      by_cases hc : p.1.toNat ≤ n ∧ n < p.1.toNat + ((9999 : Int) + 1 - p.1).toNat
      · rw [if_pos hc]; simp only [true_iff]; right; omega
      · rw [if_neg hc, this]
        constructor
        · exact .inl
        · rintro (h | h)
          · exact h
          · omega
    · simp only [h0, if_false] at ht ⊢
      by_cases hc : p.1.toNat ≤ n ∧ n < p.1.toNat + (p.2 + 1 - p.1).toNat
      · rw [if_pos hc]; simp only [true_iff]; right; omega
      · rw [if_neg hc, this]
        constructor
        · exact .inl
        · rintro (h | h)
          · exact h
          · omega
  · show (s.2 || decide (p.2 = 0)) = true ↔ _
    rw [Bool.or_eq_true, h.op, decide_eq_true_eq]
    unfold endS
    by_cases h0 : p.2 = 0
    · simp only [h0, if_true, or_true, true_iff]; right; omega
    · simp only [h0, if_false, or_false]
      constructor
      · exact .inl
      · rintro (h | h)
        · exact h
        · omega
theorem reps_iff {s : St17} {M M' : Int → Prop} (h : reps s M) (he : ∀ n, M n ↔ M' n) : reps s M' := ⟨h.len, fun n h1 h2 => (h.has n h1 h2).trans (he _), h.op.trans (he _)⟩
theorem reps_fold : ∀ {l : List Sp} {s : St17} {M : Int → Prop}, reps s M → (∀ p ∈ l, okS p) → reps (l.foldl addS s) fun n => M n ∨ mem n (ends l)
  | [], s, M, h, _ => reps_iff h fun n => by simp [ends, mem]
  | p :: l, s, M, h, hp => by
    have := reps_fold (l := l) (reps_add h (hp p (by simp))) fun q hq => hp q (List.mem_cons_of_mem _ hq)
    refine reps_iff this fun n => ?_
    show _ ↔ M n ∨ (((endS p).1 ≤ n ∧ n ≤ (endS p).2) ∨ mem n (ends l))
    rw [or_assoc]
theorem reps_none : reps none17 fun n => mem n [] :=
  ⟨none17_len, fun n _ _ => by rw [none17_at]; simp [mem], by show false = true ↔ _; simp [mem]⟩
theorem fold_len : ∀ {l : List Sp} {s : St17}, (l.foldl addS s).1.length = s.1.length
  | [], _ => rfl
  | p :: l, s => by rw [List.foldl_cons, fold_len]; exact putS_len _

theorem take_fold {l : List Sp} {s : St17} {i : Nat} (h : i < l.length) : (l.take (i + 1)).foldl addS s = addS ((l.take i).foldl addS s) (l.getD i (0, 0)) := by
  rw [List.take_succ_eq_append_getElem h, List.foldl_append, List.getD_eq_getElem?_getD, List.getElem?_eq_getElem h]
  rfl

theorem f40 (l : List Sp) (hl : l.length ≤ 1000000) (hp : ∀ p ∈ l, okS p) : F40 l = some (l.foldl addS none17) := by
  unfold F40
  refine loopK_rule (fun x => ∃ i : Nat, x = ((i : Int), (l.take i).foldl addS none17) ∧ i ≤ l.length) (fun x => l.length - x.1.toNat) ⟨0, rfl, by omega⟩ rfl ?_
  rintro x again ⟨i, rfl, hi⟩ hag
  simp only []
  by_cases hlt : i < l.length
  · have hok := hp _ (getD_mem' hlt)
    have hlen : ((l.take i).foldl addS none17).1.length = 10000 := by rw [fold_len]; exact none17_len
    have hto := okS_to hok
    have hnext : again ((i : Int) + 1, (l.take (i + 1)).foldl addS none17) = some (l.foldl addS none17) := hag _ ⟨i + 1, by simp, by omega⟩ (by simp; omega)
    rw [take_fold hlt] at hnext
    rw [decide_eq_true (by omega), cond_true, gd_pos (by omega), Int.toNat_natCast, f48 _ _ _ _ hlen ⟨by have := hok.1; omega, by have := hok.2.1; omega⟩ ⟨by omega, by omega⟩, bindO_some, putS_len, gdN_self, bnd_eq, i64_wrap (by omega)]
    generalize (l.take i).foldl addS none17 = S at hnext hlen ⊢
    obtain ⟨hh, oo⟩ := S
    cases oo <;> exact hnext
  · rw [decide_eq_false (by omega), cond_false, List.take_of_length_le (by omega)]

/-! ### spans -/
def capS (p : Sp) : Sp := (p.1, min p.2 9999)
theorem cap_fin : ∀ {l : List Sp} {m : Int}, good m l → (mem 10000 l → 0 < l.length ∧ (l.map capS).set (l.length - 1) (((l.map capS).getD (l.length - 1) (0, 0)).1, 0) = l.map finS) ∧ (¬ mem 10000 l → l.map capS = l.map finS)
  | [], m, _ => ⟨fun h => h.elim, fun _ => rfl⟩
  | [p], m, h => by
    obtain ⟨h1, h2, h3, h4, _⟩ := h
    refine ⟨fun hm => ?_, fun hm => ?_⟩
    · have : p.2 = 10000 := by
        rcases hm with hm | hm
        · omega
        · exact hm.elim
      refine ⟨by simp, ?_⟩
      simp [capS, finS, this]
    · have : p.2 ≠ 10000 := fun e => hm (.inl ⟨by omega, by omega⟩)
      simp only [List.map_cons, List.map_nil, capS, finS, if_neg this]
      rw [show min p.2 9999 = p.2 by omega]
  | p :: q :: r, m, h => by
    obtain ⟨h1, h2, h3, h4, h5⟩ := h
    have hq := h5
    obtain ⟨g1, g2, g3, g4, _⟩ := hq
    obtain ⟨i1, i2⟩ := cap_fin h5
    have e1 : capS p = finS p := by
      unfold capS finS
      rw [if_neg (by omega), show min p.2 9999 = p.2 by omega]
    refine ⟨fun hm => ?_, fun hm => ?_⟩
    · have hm' : mem 10000 (q :: r) := by
        rcases hm with hm | hm
        · omega
        · exact hm
      obtain ⟨_, i3⟩ := i1 hm'
      refine ⟨by simp, ?_⟩
      simp only [List.length_cons, Nat.add_sub_cancel] at i3 ⊢
      show (capS p :: (q :: r).map capS).set (r.length + 1) (((capS p :: (q :: r).map capS).getD (r.length + 1) (0, 0)).1, 0) = finS p :: (q :: r).map finS
      rw [List.set_cons_succ, List.getD_cons_succ, i3, e1]
    · show capS p :: (q :: r).map capS = finS p :: (q :: r).map finS
      rw [e1, i2 fun h => hm (.inr h)]

theorem f41 (s : St17) (L : List Sp) (hL : good 1 L) (hlen : L.length ≤ 1000000) (h : reps s fun n => mem n L) : F41 s = some (finish L, s) := by
  unfold F41
  simp only [jn_eq, gdN_self]
  refine loopK_rule (fun x => ∃ i n : Nat, x = ((L.take i).map capS, (n : Int)) ∧ i ≤ L.length ∧ 1 ≤ n ∧ n ≤ 10000 ∧ good n (L.drop i) ∧ ∀ m : Int, n ≤ m → m ≤ 9999 → (mem m L ↔ mem m (L.drop i))) (fun x => 10001 - x.2.toNat)
    ⟨0, 1, rfl, by omega, by omega, by omega, hL, fun m _ _ => Iff.rfl⟩ rfl ?_
  rintro x again ⟨i, n, rfl, hi, hn1, hn2, hg, hm⟩ hag
  simp only []
  have hol : ((L.take i).map capS).length = i := by simp; omega
  by_cases hlt : n ≤ 9999
  · have hat := h.has n hn1 hlt
    rw [hm n (by omega) (by omega)] at hat
    rw [decide_eq_true (by omega), cond_true, gd_pos (by rw [h.len]; omega), Int.toNat_natCast, gd_pos (by rw [h.len]; omega)]
    by_cases hv : s.1.getD n false = true
    · rw [hv, Bool.not_true, cond_false]
      have hmem := hat.1 hv
      have hil : i < L.length := by
        rcases Nat.lt_or_ge i L.length with h | h
        · exact h
        · rw [List.drop_eq_nil_of_le h] at hmem; exact hmem.elim
      rw [drop_getD (0, 0) hil] at hg hmem
      have hcat := take_map_succ capS (0, 0) hil
      obtain ⟨p, hp⟩ : ∃ p : Sp, L.getD i (0, 0) = p := ⟨_, rfl⟩
      rw [hp] at hg hmem hcat
      obtain ⟨g1, g2, g3, g4, g5⟩ := hg
      have hp1 : p.1 = n := by
        rcases hmem with hx | hx
        · omega
        · exact absurd hx (mem_low g5 (by omega))
      have hmd : ∀ m : Int, n ≤ m → m ≤ 9999 → (s.1.getD m.toNat false = true ↔ (p.1 ≤ m ∧ m ≤ p.2) ∨ mem m (L.drop (i + 1))) := by
        intro m hm1 hm2
        have e : ((m.toNat : Nat) : Int) = m := by omega
        have := h.has m.toNat (by omega) (by omega)
        rw [e, hm m hm1 hm2, drop_getD (0, 0) hil, hp] at this
        exact this
      have hb : i + 1 ≤ big := by unfold big; omega
      have hnext : again ((L.take (i + 1)).map capS, min p.2 9999 + 1) = some (finish L, s) := by
        refine hag _ ⟨i + 1, (min p.2 9999 + 1).toNat, ?_, by omega, by omega, by omega, good_mono g5 (by omega), fun m hm1 hm2 => ?_⟩ (by simp only []; omega)
        · rw [show (((min p.2 9999 + 1).toNat : Nat) : Int) = min p.2 9999 + 1 by omega]
        · rw [hm m (by omega) hm2, drop_getD (0, 0) hil, hp]
          constructor
          · rintro (hx | hx)
            · omega
            · exact hx
          · exact .inr
      rw [hcat] at hnext
      refine loopK_rule (fun j => (n : Int) ≤ j ∧ j ≤ min p.2 9999) (fun j => 10000 - j.toNat) ⟨by omega, by omega⟩ rfl ?_
      rintro j again2 ⟨j1, j2⟩ hag2
      have hend : j = min p.2 9999 → (gd (((L.take i).map capS).length + List.length [((n : Int), j)] ≤ big) <| bnd ((L.take i).map capS ++ [((n : Int), j)]) fun l8 => bnd (IntKind.wrap .i64 (j + (1 : Int))) fun x9 => again (l8, x9)) = some (finish L, s) := by
        rintro rfl
        rw [gd_pos (by rw [hol]; exact hb), bnd_eq, bnd_eq, i64_wrap (by omega)]
        unfold capS at hnext ⊢
        rw [hp1] at hnext
        exact hnext
      by_cases hj : j < 9999
      · rw [decide_eq_true hj, cond_true, bnd_eq, i64_wrap (by omega), gd_pos (by rw [h.len]; omega), gd_pos (by rw [h.len]; omega)]
        have := hmd (j + 1) (by omega) (by omega)
        by_cases hj2 : j + 1 ≤ p.2
        · rw [this.2 (.inl ⟨by omega, hj2⟩), cond_true, bnd_eq]
          exact hag2 _ ⟨by omega, by omega⟩ (by omega)
        · have hf : s.1.getD (j + 1).toNat false = false := by
            rw [Bool.eq_false_iff]
            intro hx
            rcases this.1 hx with hx | hx
            · omega
            · exact mem_low g5 (by omega) hx
          rw [hf, cond_false]
          have h9 := hend (by omega)
          rw [i64_wrap (by omega)] at h9
          exact h9
      · rw [decide_eq_false hj, cond_false]
        exact hend (by omega)
    · have hv' : s.1.getD n false = false := by simpa using hv
      rw [hv', Bool.not_false, cond_true, bnd_eq, i64_wrap (by omega)]
      have hno : ¬ mem n (L.drop i) := fun hx => hv (hat.2 hx)
      refine hag _ ⟨i, n + 1, by simp, hi, by omega, by omega, ?_, fun m h1 h2 => hm m (by omega) h2⟩ (by simp; omega)
      revert hg hno
      generalize L.drop i = D
      intro hg hno
      cases D with
      | nil => trivial
      | cons p r =>
        obtain ⟨g1, g2, g3, g4, g5⟩ := hg
        have : p.1 ≠ n := fun e => hno (.inl ⟨by omega, by omega⟩)
        exact ⟨by omega, g2, g3, g4, g5⟩
  · rw [decide_eq_false (by omega), cond_false]
    have hd : L.drop i = [] := by
      revert hg
      generalize L.drop i = D
      intro hg
      cases D with
      | nil => rfl
      | cons p r => obtain ⟨g1, g2, g3, g4, g5⟩ := hg; omega
    have hil : i = L.length := by
      have := congrArg List.length hd
      simp at this
      omega
    subst hil
    rw [List.take_length]
    obtain ⟨c1, c2⟩ := cap_fin hL
    have hfin : ∀ l' : List Sp, l' = L.map finS → (cond (decide ((32 : Int) < (List.length l' : Int))) (some ((([] : List (Int × Int)), (13 : Int)), s)) (some ((l', (0 : Int)), s))) = some (finish L, s) := by
      rintro _ rfl
      unfold finish
      rw [List.length_map]
      by_cases h32 : 32 < L.length
      · rw [decide_eq_true (by omega), cond_true, if_pos h32]
      · rw [decide_eq_false (by omega), cond_false, if_neg h32]
    cases ho : s.2 with
    | true =>
      obtain ⟨c3, c4⟩ := c1 (h.op.1 ho)
      rw [cond_true, gd_pos (by rw [List.length_map]; exact c3), bnd_eq, i64_wrap (by rw [List.length_map]; omega), List.length_map]
      have e : ((L.length : Int) - 1).toNat = L.length - 1 := by omega
      rw [e, gd_pos (by omega), gd_pos (by omega), gd_pos (by omega)]
      exact hfin _ c4
    | false =>
      rw [cond_false]
      exact hfin _ (c2 fun hx => by have := h.op.2 hx; rw [ho] at this; cases this)

/-! ### changes -/
theorem right_ok {l : List Sp} (h : rightP l = true) : l.length ≤ 32 ∧ good 1 (ends l) ∧ (ends l).map finS = l ∧ ∀ p ∈ l, okS p := by
  unfold rightP at h
  rw [Bool.and_eq_true, decide_eq_true_eq] at h
  obtain ⟨h1, h2⟩ := h
  obtain ⟨g1, g2⟩ := good_ends (by omega) h2
  refine ⟨h1, g1, g2, fun p hp => ?_⟩
  have := good_mod (by omega) g1 (endS p) (List.mem_map_of_mem hp)
  rw [← g2] at hp
  obtain ⟨q, hq, rfl⟩ := List.mem_map.1 hp
  have hq' := good_mod (by omega) g1 q hq
  unfold okS finS
  split
  · exact ⟨by simp only []; omega, by simp only []; omega, .inl rfl⟩
  · exact ⟨by omega, by omega, .inr ⟨by omega, by omega⟩⟩
theorem reps_of {l : List Sp} (h : ∀ p ∈ l, okS p) : reps (l.foldl addS none17) fun n => mem n (ends l) :=
  reps_iff (reps_fold reps_none h) fun n => by simp [mem]

def addP (l : List Sp) (a b : Int) : List Sp × Int := if rightP l = false then ([], 1) else if rangeB a b = false then ([], 2) else finish (putGo (ends l) (a, if b = 0 then 10000 else b) false)
def remP (l : List Sp) (a b : Int) : List Sp × Int := if rightP l = false then ([], 1) else if rangeB a b = false then ([], 2) else finish (cutL (ends l) (a, if b = 0 ∨ b = 9999 then 10000 else b))
theorem range_ok {a b : Int} (h : rangeB a b = true) : okS (a, b) := by
  unfold rangeB at h
  rw [decide_eq_true_eq] at h
  exact h
theorem put_len : ∀ {l : List Sp} {x : Sp} {d : Bool}, (putGo l x d).length ≤ l.length + 1
  | [], x, d => by cases d <;> simp [putGo]
  | y :: r, x, d => by
    rw [putGo]
    have h1 := put_len (l := r) (x := x) (d := d)
    have h2 := put_len (l := r) (x := x) (d := true)
    have h3 := put_len (l := r) (x := (min x.1 y.1, max x.2 y.2)) (d := d)
    cases d
    · split
      · simp; omega
      · split
        · simp
          have : ∀ {r : List Sp} {x : Sp}, (putGo r x true).length ≤ r.length := by
            intro r
            induction r with
            | nil => intro x; simp [putGo]
            | cons y r ih =>
              intro x
              rw [putGo]
              have a1 := ih (x := x)
              have a2 := ih (x := (min x.1 y.1, max x.2 y.2))
              split
              · simp; omega
              · split
                · simp; omega
                · simp; omega
          exact this
        · simp; omega
    · split
      · simp; omega
      · split
        · simp; omega
        · simp; omega
theorem cut_len : ∀ {l : List Sp} {x : Sp}, (cutL l x).length ≤ 2 * l.length
  | [], _ => by simp [cutL]
  | y :: r, x => by
    have ih := cut_len (l := r) (x := x)
    have e : cutL (y :: r) x = cutS x y ++ cutL r x := rfl
    have : (cutS x y).length ≤ 2 := by
      unfold cutS
      split
      · simp
      · split <;> split <;> simp
    rw [e, List.length_append, List.length_cons]
    omega

theorem f26 (l : List Sp) (a b : Int) : F26 l a b = some (addP l a b) := by
  unfold F26 addP
  simp only [jn_eq, f13, bindO_some, f31]
  cases hr : rightP l
  · simp
  simp only [Bool.not_true, cond_false, Bool.true_eq_false, if_false]
  cases hx : rangeB a b
  · simp
  obtain ⟨r1, r2, r3, r4⟩ := right_ok hr
  obtain ⟨x1, x2, x3⟩ := range_ok hx
  simp only [] at x1 x2 x3
  simp only [Bool.not_true, cond_false, Bool.true_eq_false, if_false]
  have hel : (ends l).length = l.length := by simp [ends]
  have key : ∀ t : Int, -1000000 ≤ t ∧ t ≤ 1000000 → (bindO (F45 l) fun y5 => bindO (F43 y5 (a, t)) fun y6 => bindO (F44 y6) fun y7 => some (y7.1, y7.2)) = some (finish (putGo (ends l) (a, t) false)) := by
    intro t ht
    rw [f45 l (by omega), bindO_some, f43 _ _ (by omega) (fun p hp => (good_mod (by omega) r2 p hp).2.2.2.2) ⟨by simp only []; omega, by simp only []; omega, ht.1, ht.2⟩, bindO_some, f44, bindO_some]
  by_cases hb : b = 0
  · simp only [hb, decide_true, cond_true, if_true]
    exact key _ (by omega)
  · simp only [hb, decide_false, cond_false, if_false]
    exact key _ (by omega)

theorem f28 (l : List Sp) (a b : Int) : F28 l a b = some (remP l a b) := by
  unfold F28 remP
  simp only [jn_eq, f13, bindO_some, f31]
  cases hr : rightP l
  · simp
  simp only [Bool.not_true, cond_false, Bool.true_eq_false, if_false]
  cases hx : rangeB a b
  · simp
  obtain ⟨r1, r2, r3, r4⟩ := right_ok hr
  obtain ⟨x1, x2, x3⟩ := range_ok hx
  simp only [] at x1 x2 x3
  simp only [Bool.not_true, cond_false, Bool.true_eq_false, if_false]
  have hel : (ends l).length = l.length := by simp [ends]
  have key : ∀ t : Int, -1000000 ≤ t ∧ t ≤ 1000000 → (bindO (F45 l) fun y5 => bindO (F47 y5 (a, t)) fun y6 => bindO (F44 y6) fun y7 => some (y7.1, y7.2)) = some (finish (cutL (ends l) (a, t))) := by
    intro t ht
    rw [f45 l (by omega), bindO_some, f47 _ _ (by omega) ⟨by simp only []; omega, by simp only []; omega, ht.1, ht.2⟩, bindO_some, f44, bindO_some]
  by_cases hb : b = 0
  · simp only [hb, decide_true, cond_true, true_or, if_true]
    exact key _ (by omega)
  · by_cases hb9 : b = 9999
    · simp only [hb, hb9, decide_true, decide_false, cond_true, cond_false, or_true, if_true, show ¬ ((9999 : Int) = 0) by omega]
      exact key _ (by omega)
    · simp only [hb, hb9, decide_false, cond_false, or_self, if_false]
      exact key _ (by omega)

theorem f46 (l : List Sp) (a b : Int) (v : Bool) : F46 l a b v = some (if v then addP l a b else remP l a b) := by
  unfold F46
  simp only [jn_eq, f12, bindO_some, f32]
  have hboth : ∀ o : List Sp × Int, addP l a b = o → remP l a b = o → some (if v then addP l a b else remP l a b) = some o := by rintro o h1 h2; rw [h1, h2]; cases v <;> rfl
  cases hr : rightP l
  · rw [hboth ([], 1) (by simp [addP, hr]) (by simp [remP, hr])]; rfl
  obtain ⟨r1, r2, r3, r4⟩ := right_ok hr
  simp only [Bool.not_true, cond_false]
  cases hx : rangeB a b
  · rw [hboth ([], 2) (by simp [addP, hr, hx]) (by simp [remP, hr, hx])]
    unfold rangeB at hx
    rw [decide_eq_false_iff_not] at hx
    by_cases h1 : 1 ≤ a ∧ a ≤ 9999
    · rw [decide_eq_true h1, Bool.not_true, cond_false, decide_eq_false (by omega), Bool.not_false, cond_true]
      by_cases h2 : b < a
      · rw [decide_eq_true h2, cond_true]
      · rw [decide_eq_false h2, cond_false, decide_eq_true (by omega), cond_true]
    · rw [decide_eq_false h1]; rfl
  obtain ⟨x1, x2, x3⟩ := range_ok hx
  simp only [] at x1 x2 x3
  have hrep := reps_of r4
  have hto := okS_to (range_ok hx)
  simp only [] at hto
  have hel : (ends l).length = l.length := by simp [ends]
  have hslen : (l.foldl addS none17).1.length = 10000 := hrep.len
  have key : ∀ (op : Bool) (L : List Sp), good 1 L → L.length ≤ 1000000 → reps (putS (l.foldl addS none17).1 a.toNat v (toE b + 1 - a).toNat, op) (fun n => mem n L) →
      (bindO (F41 (putS (l.foldl addS none17).1 a.toNat v (toE b + 1 - a).toNat, op)) fun y7 => gdN (l.foldl addS none17).1.length (List.length y7.2.1) <| some (y7.1.1, y7.1.2)) = some (finish L) := by
    intro op L h1 h2 h3
    rw [f41 _ L h1 h2 h3, bindO_some]
    simp only []
    rw [putS_len, gdN_self]
  have hgo : (bindO (F40 l) fun y5 => bindO (F48 y5 a b v) fun y6 => gdN (List.length y5.1) (List.length y6.2.1) <|
    cond (v)
      (cond (y6.2.2)
        (bindO (F41 (y6.2.1, true)) fun y7 =>
        gdN (List.length ((y6.2.1, true).1)) (List.length y7.2.1) <|
        some (y7.1.1, y7.1.2))
        (bindO (F41 (y6.2.1, decide (b = (0 : Int)))) fun y8 =>
        gdN (List.length ((y6.2.1, decide (b = (0 : Int))).1)) (List.length y8.2.1) <|
        some (y8.1.1, y8.1.2)))
      (cond (y6.2.2)
        (cond (!decide (b = (0 : Int)))
          (bindO (F41 (y6.2.1, !decide (b = (9999 : Int)))) fun y9 =>
          gdN (List.length ((y6.2.1, !decide (b = (9999 : Int))).1)) (List.length y9.2.1) <|
          some (y9.1.1, y9.1.2))
          (bindO (F41 (y6.2.1, false)) fun y10 =>
          gdN (List.length ((y6.2.1, false).1)) (List.length y10.2.1) <|
          some (y10.1.1, y10.1.2)))
        (bindO (F41 (y6.2.1, false)) fun y11 =>
        gdN (List.length ((y6.2.1, false).1)) (List.length y11.2.1) <|
        some (y11.1.1, y11.1.2)))) = some (if v then addP l a b else remP l a b) := by
    rw [f40 l (by omega) r4, bindO_some, f48 _ a b v hslen ⟨by omega, by omega⟩ ⟨by omega, by omega⟩, bindO_some]
    simp only []
    rw [putS_len, gdN_self]
    cases v with
    | true =>
      simp only [cond_true, if_true]
      have hE : endS (a, b) = (a, if b = 0 then 10000 else b) := by unfold endS; split <;> rfl
      obtain ⟨g1, g2⟩ := good_put (x := (a, if b = 0 then 10000 else b)) r2 (by simp only []; omega) (by simp only []; split <;> omega) (by simp only []; omega) (by simp only []; split <;> omega)
      have hrep2 := reps_iff (reps_add hrep (range_ok hx)) (M' := fun n => mem n (putGo (ends l) (a, if b = 0 then 10000 else b) false)) fun n => by rw [g2, hE]
      have hadd : addP l a b = finish (putGo (ends l) (a, if b = 0 then 10000 else b) false) := by simp [addP, hr, hx]
      rw [hadd]
      have hk := fun op => key op _ g1 (by have := put_len (l := ends l) (x := (a, if b = 0 then 10000 else b)) (d := false); omega)
      have hrep2' : reps (putS (l.foldl addS none17).1 a.toNat true (toE b + 1 - a).toNat, (l.foldl addS none17).2 || decide (b = 0)) fun n => mem n (putGo (ends l) (a, if b = 0 then 10000 else b) false) := hrep2
      cases ho : (l.foldl addS none17).2
      · rw [ho, Bool.false_or] at hrep2'
        rw [cond_false]
        exact hk _ hrep2'
      · rw [ho, Bool.true_or] at hrep2'
        rw [cond_true]
        exact hk _ hrep2'
    | false =>
      simp only [cond_false, Bool.false_eq_true, if_false]
      obtain ⟨g1, g2⟩ := good_cut (x := (a, if b = 0 ∨ b = 9999 then 10000 else b)) (by omega) r2 (by simp only []; split <;> omega) (by simp only []; split <;> omega)
      have hrem : remP l a b = finish (cutL (ends l) (a, if b = 0 ∨ b = 9999 then 10000 else b)) := by simp [remP, hr, hx]
      rw [hrem]
      have hk := fun op => key op _ g1 (by have := cut_len (l := ends l) (x := (a, if b = 0 ∨ b = 9999 then 10000 else b)); omega)
      have hrep2 : ∀ op : Bool, (op = true ↔ mem 10000 (cutL (ends l) (a, if b = 0 ∨ b = 9999 then 10000 else b))) → reps (putS (l.foldl addS none17).1 a.toNat false (toE b + 1 - a).toNat, op) fun n => mem n (cutL (ends l) (a, if b = 0 ∨ b = 9999 then 10000 else b)) := by
        intro op hop
        refine ⟨by rw [putS_len]; exact hslen, fun n hn1 hn2 => ?_, hop⟩
        rw [putS_at (by rw [hslen]; omega), g2]
        have h1 := hrep.has n hn1 hn2
        simp only []
        have hiff : (a.toNat ≤ n ∧ n < a.toNat + (toE b + 1 - a).toNat) ↔ (a ≤ (n : Int) ∧ (n : Int) ≤ if b = 0 ∨ b = 9999 then 10000 else b) := by
          unfold toE at hto ⊢
          by_cases hb0 : b = 0
          · simp only [hb0, true_or, if_true] at hto ⊢; omega
          · by_cases hb9 : b = 9999
            · simp only [hb0, hb9, or_true, if_true, if_false, show ¬ ((9999 : Int) = 0) by omega] at hto ⊢; omega
            · simp only [hb0, hb9, or_self, if_false] at hto ⊢; omega
        by_cases hc : a.toNat ≤ n ∧ n < a.toNat + (toE b + 1 - a).toNat
        · rw [if_pos hc]; simp only [Bool.false_eq_true, false_iff]
          exact fun hx => hx.2 (hiff.1 hc)
        · rw [if_neg hc, h1]
          exact ⟨fun hx => ⟨hx, fun hy => hc (hiff.2 hy)⟩, fun hx => hx.1⟩
      have hop := hrep.op
      have h1e : mem 10000 (cutL (ends l) (a, if b = 0 ∨ b = 9999 then 10000 else b)) ↔ (l.foldl addS none17).2 = true ∧ b ≠ 0 ∧ b ≠ 9999 := by
        rw [g2, hop]
        simp only []
        by_cases hb0 : b = 0
        · simp only [hb0, true_or, if_true]; constructor <;> intro h <;> omega
        · by_cases hb9 : b = 9999
          · simp only [hb9, or_true, if_true]; constructor <;> intro h <;> omega
          · simp only [hb0, hb9, or_self, if_false, ne_eq, not_false_eq_true, and_true, and_iff_left_iff_imp]
            intro _; omega
      cases ho : (l.foldl addS none17).2
      · rw [cond_false]
        exact hk _ (hrep2 false (by rw [h1e, ho]; simp))
      · rw [cond_true]
        by_cases hb0 : b = 0
        · rw [decide_eq_true hb0, Bool.not_true, cond_false]
          exact hk _ (hrep2 false (by rw [h1e]; simp [hb0]))
        · rw [decide_eq_false hb0, Bool.not_false, cond_true]
          refine hk _ (hrep2 _ ?_)
          rw [h1e, ho]
          simp [hb0]
  rw [decide_eq_true ⟨x1, x2⟩, Bool.not_true, cond_false]
  by_cases hb0 : b = 0
  · rw [decide_eq_true hb0, Bool.not_true, cond_false]
    rw [decide_eq_true hb0] at hgo
    exact hgo
  · rw [decide_eq_false hb0, Bool.not_false, cond_true, decide_eq_false (by omega), cond_false, decide_eq_false (by omega), cond_false]
    rw [decide_eq_false hb0] at hgo
    exact hgo

theorem f25 (l : List Sp) (a b : Int) : F25 l a b = some (addP l a b) := by
  unfold F25
  rw [f46, bindO_some]; rfl
theorem f27 (l : List Sp) (a b : Int) : F27 l a b = some (remP l a b) := by
  unfold F27
  rw [f46, bindO_some]; rfl
end Go.Proofs.YtdffccmlfhdkpaaDoor
