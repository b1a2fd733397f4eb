/-
  Chapter 17: what the functions compute: which holdings are right; Same.
-/
import Derived.Test.YtdffccmlfhdkpaaDoorF
namespace Go.Proofs.YtdffccmlfhdkpaaDoor
open Go Go.Nu

abbrev Sp := Int × Int

theorem drop_getD {α : Type} {l : List α} {i : Nat} (d : α) (h : i < l.length) : l.drop i = l.getD i d :: l.drop (i + 1) := by
  rw [List.drop_eq_getElem_cons h, List.getD_eq_getElem?_getD, List.getElem?_eq_getElem h, Option.getD_some]
theorem gd_if {β : Type} {c : Prop} [Decidable c] {x : Option β} : gd c x = if c then x else none := rfl
theorem bnd_eq {α β : Type} {a : α} {k : α → Option β} : bnd a k = k a := rfl

/-- From a least number on: are these spans right? -/
def rt : Int → List Sp → Bool
  | _, [] => true
  | lo, p :: r => decide (lo ≤ p.1) && decide (p.1 ≤ 9999) && (if p.2 = 0 then r.isEmpty else decide (p.1 ≤ p.2) && decide (p.2 ≤ 9999) && rt (p.2 + 2) r)
def rightP (l : List Sp) : Bool := decide (l.length ≤ 32) && rt 1 l
def lo (l : List Sp) (i : Nat) : Int := if i = 0 then 1 else (l.getD (i - 1) (0, 0)).2 + 2

theorem f32 (n : Int) : F32 n = some (decide (1 ≤ n ∧ n ≤ 9999)) := by
  unfold F32
  by_cases h : 1 ≤ n <;> simp [h]

theorem f12 (l : List Sp) : F12 l = some (rightP l) := by
  unfold F12 rightP
  by_cases h32 : 32 < l.length
  · rw [decide_eq_true (by omega), cond_true, decide_eq_false (by omega)]; rfl
  rw [decide_eq_false (by omega), cond_false, decide_eq_true (by omega), Bool.true_and]
  refine loopK_rule (fun x => ∃ i : Nat, x = i ∧ i ≤ l.length ∧ rt 1 l = rt (lo l i) (l.drop i) ∧ (0 < i → i < l.length → 1 ≤ (l.getD (i - 1) (0, 0)).2 ∧ (l.getD (i - 1) (0, 0)).2 ≤ 9999)) (fun x => l.length - x.toNat)
    ⟨0, rfl, by omega, by simp [lo], fun h => by omega⟩ rfl ?_
  rintro x again ⟨i, rfl, hi, hr, hp⟩ hag
  by_cases hlt : i < l.length
  · rw [drop_getD (0, 0) hlt] at hr
    have hnext : rt 1 l = rt (lo l (i + 1)) (l.drop (i + 1)) → (i + 1 < l.length → 1 ≤ (l.getD i (0, 0)).2 ∧ (l.getD i (0, 0)).2 ≤ 9999) → again ((i : Int) + 1) = some (rt 1 l) := by
      intro h1 h2
      exact hag _ ⟨i + 1, by simp, by omega, h1, fun _ => by simpa using h2⟩ (by omega)
    have hlen : (l.drop (i + 1)).isEmpty = decide (i + 1 = l.length) := by
      rw [Bool.eq_iff_iff]; simp; omega
    have hlo1 : lo l (i + 1) = (l.getD i (0, 0)).2 + 2 := by simp [lo]
    have hi1 : ((i : Int) - 1).toNat = i - 1 := by omega
    rw [rt, hlen] at hr
    rw [hlo1] at hnext
    have hlo : lo l i = if i = 0 then 1 else (l.getD (i - 1) (0, 0)).2 + 2 := rfl
    obtain ⟨⟨f, t⟩, hf⟩ : ∃ p : Sp, l.getD i (0, 0) = p := ⟨_, rfl⟩
    obtain ⟨⟨f0, t0⟩, hf0⟩ : ∃ p : Sp, l.getD (i - 1) (0, 0) = p := ⟨_, rfl⟩
    simp only [hf, hf0] at hr hnext hp hlo
    have hR : i + 1 = l.length → rt (t + 2) (l.drop (i + 1)) = true := fun h => by rw [List.drop_eq_nil_of_le (by omega)]; rfl
    generalize rt (t + 2) (l.drop (i + 1)) = R at hr hnext hR
    generalize rt 1 l = B at hr hnext ⊢
    by_cases h0 : 0 < i
    · obtain ⟨hp1, hp2⟩ := hp h0 hlt
      simp (disch := omega) only [Int.toNat_natCast, jn_eq, bnd_eq, f32, bindO_some, gd_if, Bool.cond_decide, Bool.cond_not, hf, hi1, hf0, i64_wrap]
      grind
    · simp (disch := omega) only [Int.toNat_natCast, jn_eq, bnd_eq, f32, bindO_some, gd_if, Bool.cond_decide, Bool.cond_not, hf, hi1, hf0, i64_wrap]
      grind
  · rw [decide_eq_false (by omega), cond_false, hr, List.drop_eq_nil_of_le (by omega)]; rfl

theorem f13 (l : List Sp) : F13 l = some (rightP l) := by
  unfold F13 rightP
  by_cases h32 : 32 < l.length
  · rw [decide_eq_true (by omega), cond_true, decide_eq_false (by omega)]; rfl
  rw [decide_eq_false (by omega), cond_false, decide_eq_true (by omega), Bool.true_and]
  refine loopK_rule (fun x => ∃ i : Nat, x = i ∧ i ≤ l.length ∧ rt 1 l = rt (lo l i) (l.drop i) ∧ (0 < i → i < l.length → 1 ≤ (l.getD (i - 1) (0, 0)).2 ∧ (l.getD (i - 1) (0, 0)).2 ≤ 9999)) (fun x => l.length - x.toNat)
    ⟨0, rfl, by omega, by simp [lo], fun h => by omega⟩ rfl ?_
  rintro x again ⟨i, rfl, hi, hr, hp⟩ hag
  by_cases hlt : i < l.length
  · rw [drop_getD (0, 0) hlt] at hr
    have hnext : rt 1 l = rt (lo l (i + 1)) (l.drop (i + 1)) → (i + 1 < l.length → 1 ≤ (l.getD i (0, 0)).2 ∧ (l.getD i (0, 0)).2 ≤ 9999) → again ((i : Int) + 1) = some (rt 1 l) := by
      intro h1 h2
      exact hag _ ⟨i + 1, by simp, by omega, h1, fun _ => by simpa using h2⟩ (by omega)
    have hlen : (l.drop (i + 1)).isEmpty = decide (i + 1 = l.length) := by
      rw [Bool.eq_iff_iff]; simp; omega
    have hlo1 : lo l (i + 1) = (l.getD i (0, 0)).2 + 2 := by simp [lo]
    have hi1 : ((i : Int) - 1).toNat = i - 1 := by omega
    rw [rt, hlen] at hr
    rw [hlo1] at hnext
    have hlo : lo l i = if i = 0 then 1 else (l.getD (i - 1) (0, 0)).2 + 2 := rfl
    obtain ⟨⟨f, t⟩, hf⟩ : ∃ p : Sp, l.getD i (0, 0) = p := ⟨_, rfl⟩
    obtain ⟨⟨f0, t0⟩, hf0⟩ : ∃ p : Sp, l.getD (i - 1) (0, 0) = p := ⟨_, rfl⟩
    simp only [hf, hf0] at hr hnext hp hlo
    have hR : i + 1 = l.length → rt (t + 2) (l.drop (i + 1)) = true := fun h => by rw [List.drop_eq_nil_of_le (by omega)]; rfl
    generalize rt (t + 2) (l.drop (i + 1)) = R at hr hnext hR
    generalize rt 1 l = B at hr hnext ⊢
    rw [hlo] at hr
    by_cases h0 : 0 < i
    · obtain ⟨hp1, hp2⟩ := hp h0 hlt
      simp (maxSteps := 2000000) (disch := omega) only [Int.toNat_natCast, jn_eq, bnd_eq, gd_if, Bool.cond_decide, Bool.cond_not, hf, hi1, hf0, i64_wrap]
      rw [if_neg (by omega)] at hr
      clear hag hp hlen hlo1 hi1 hlo hf hf0
      grind
    · have h00 : i = 0 := by omega
      subst h00
      simp (maxSteps := 2000000) (disch := omega) only [Int.toNat_natCast, jn_eq, bnd_eq, gd_if, Bool.cond_decide, Bool.cond_not, hf, hi1, hf0, i64_wrap]
      rw [if_pos rfl] at hr
      simp only [show ¬ ((0 : Int) < ((0 : Nat) : Int)) by omega, if_false]
      clear hag hp hlen hlo1 hi1 hlo hf hf0
      grind
  · rw [decide_eq_false (by omega), cond_false, hr, List.drop_eq_nil_of_le (by omega)]; rfl

def rangeB (a b : Int) : Bool := decide (1 ≤ a ∧ a ≤ 9999 ∧ (b = 0 ∨ a ≤ b ∧ b ≤ 9999))
theorem f31 (a b : Int) : F31 a b = some (rangeB a b) := by
  unfold F31 rangeB
  simp only [Bool.cond_decide]
  grind

theorem f18 (a b : List Sp) (ha : a.length ≤ 1000000) : F18 a b = some (decide (a = b)) := by
  unfold F18
  by_cases hl : a.length = b.length
  · rw [decide_eq_true (by omega), Bool.not_true, cond_false]
    refine loopK_rule (fun x => ∃ i : Nat, x = i ∧ i ≤ a.length ∧ a.take i = b.take i) (fun x => a.length - x.toNat) ⟨0, rfl, by omega, by simp⟩ rfl ?_
    rintro x again ⟨i, rfl, hi, ht⟩ hag
    by_cases hlt : i < a.length
    · simp (disch := omega) only [Int.toNat_natCast, gd_if, Bool.cond_decide, Bool.cond_not, i64_wrap, bnd_eq, if_pos]
      have e1 : a.getD i (0, 0) = a[i] := by rw [List.getD_eq_getElem?_getD, List.getElem?_eq_getElem hlt]; rfl
      have e2 : b.getD i (0, 0) = b[i]'(by omega) := by rw [List.getD_eq_getElem?_getD, List.getElem?_eq_getElem (by omega)]; rfl
      simp only [e1, e2]
      by_cases he : a[i] = b[i]'(by omega)
      · have hh : (decide (a[i].1 = (b[i]'(by omega)).1) && (decide (a[i].2 = (b[i]'(by omega)).2) && true)) = true := by simp [he]
        rw [hh, cond_true]
        refine hag _ ⟨i + 1, by simp, by omega, ?_⟩ (by omega)
        rw [List.take_succ_eq_append_getElem hlt, List.take_succ_eq_append_getElem (by omega), ht, he]
      · have hh : (decide (a[i].1 = (b[i]'(by omega)).1) && (decide (a[i].2 = (b[i]'(by omega)).2) && true)) = false := by
          rw [Bool.eq_false_iff]
          intro h
          simp only [Bool.and_true, Bool.and_eq_true, decide_eq_true_eq] at h
          exact he (Prod.ext h.1 h.2)
        rw [hh, cond_false]
        have : a ≠ b := fun e => he (by subst e; rfl)
        simp [this]
    · rw [decide_eq_false (by omega), cond_false]
      rw [List.take_of_length_le (by omega), List.take_of_length_le (by omega)] at ht
      simp [ht]
  · rw [decide_eq_false (by omega), Bool.not_false, cond_true]
    have : a ≠ b := fun e => hl (by rw [e])
    simp [this]

/-! ### ends, finish, put, cut -/
def endS (p : Sp) : Sp := if p.2 = 0 then (p.1, 10000) else p
def finS (p : Sp) : Sp := if p.2 = 10000 then (p.1, 0) else p
def ends (l : List Sp) : List Sp := l.map endS
def finish (l : List Sp) : List Sp × Int := if 32 < l.length then ([], 13) else (l.map finS, 0)
def putGo : List Sp → Sp → Bool → List Sp
  | [], x, done => if done then [] else [x]
  | y :: r, x, done => if y.2 + 1 < x.1 then y :: putGo r x done else if x.2 + 1 < y.1 then (if done then y :: putGo r x done else x :: y :: putGo r x true) else putGo r (min x.1 y.1, max x.2 y.2) done
def cutS (x y : Sp) : List Sp := if y.2 < x.1 ∨ x.2 < y.1 then [y] else (if y.1 < x.1 then [(y.1, x.1 - 1)] else []) ++ (if x.2 < y.2 then [(x.2 + 1, y.2)] else [])
def cutL (l : List Sp) (x : Sp) : List Sp := l.flatMap (cutS x)

theorem take_map_succ {α β : Type} {l : List α} {i : Nat} (g : α → β) (d : α) (h : i < l.length) : (l.take (i + 1)).map g = (l.take i).map g ++ [g (l.getD i d)] := by
  rw [List.take_succ_eq_append_getElem h, List.map_append, List.getD_eq_getElem?_getD, List.getElem?_eq_getElem h]
  rfl

theorem f45 (l : List Sp) (hl : l.length ≤ 1000000) : F45 l = some (ends l) := by
  unfold F45
  simp only [gdN_self]
  refine loopK_rule (fun x => ∃ i : Nat, x = ((l.take i).map endS, (i : Int)) ∧ i ≤ l.length) (fun x => l.length - x.2.toNat) ⟨0, by simp, by omega⟩ rfl ?_
  rintro x again ⟨i, rfl, hi⟩ hag
  have hlen : ((l.take i).map endS).length = i := by simp; omega
  simp only []
  by_cases hlt : i < l.length
  · have hb : i + 1 ≤ big := by unfold big; omega
    have hnext : again ((l.take (i + 1)).map endS, (i : Int) + 1) = some (ends l) := hag _ ⟨i + 1, by simp, by omega⟩ (by simp; omega)
    rw [take_map_succ endS (0, 0) hlt] at hnext
    simp (disch := omega) only [Int.toNat_natCast, gd_if, Bool.cond_decide, i64_wrap, bnd_eq, if_pos, gdN_self, hlen, List.length_singleton]
    unfold endS at hnext ⊢
    split <;> rename_i h0 <;> simp only [h0, if_true, if_false] at hnext <;> exact hnext
  · rw [decide_eq_false (by omega), cond_false, List.take_of_length_le (by omega)]
    rfl

theorem f44 (l : List Sp) : F44 l = some (finish l) := by
  unfold F44 finish
  simp only [gdN_self, jn_eq]
  by_cases h32 : 32 < l.length
  · rw [decide_eq_true (by omega), cond_true, if_pos h32]
  rw [decide_eq_false (by omega), cond_false, if_neg h32]
  refine loopK_rule (fun x => ∃ i : Nat, x = ((l.take i).map finS, (i : Int)) ∧ i ≤ l.length) (fun x => l.length - x.2.toNat) ⟨0, by simp, by omega⟩ rfl ?_
  rintro x again ⟨i, rfl, hi⟩ hag
  have hlen : ((l.take i).map finS).length = i := by simp; omega
  simp only []
  by_cases hlt : i < l.length
  · have hb : i + 1 ≤ big := by unfold big; omega
    have hnext : again ((l.take (i + 1)).map finS, (i : Int) + 1) = some (l.map finS, 0) := hag _ ⟨i + 1, by simp, by omega⟩ (by simp; omega)
    rw [take_map_succ finS (0, 0) hlt] at hnext
    simp (disch := omega) only [Int.toNat_natCast, gd_if, Bool.cond_decide, i64_wrap, bnd_eq, if_pos, gdN_self, hlen, List.length_singleton]
    unfold finS at hnext ⊢
    split <;> rename_i h0 <;> simp only [h0, if_true, if_false] at hnext <;> exact hnext
  · rw [decide_eq_false (by omega), cond_false, List.take_of_length_le (by omega)]

/-- Numbers of moderate size. -/
def Mod (p : Sp) : Prop := -1000000 ≤ p.1 ∧ p.1 ≤ 1000000 ∧ -1000000 ≤ p.2 ∧ p.2 ≤ 1000000

theorem getD_mem' {l : List Sp} {i : Nat} (h : i < l.length) : l.getD i (0, 0) ∈ l := by
  rw [List.getD_eq_getElem?_getD, List.getElem?_eq_getElem h]; exact List.getElem_mem h

theorem f43 (l : List Sp) (x : Sp) (hl : l.length ≤ 1000000) (hm : ∀ p ∈ l, Mod p) (hx : Mod x) : F43 l x = some (putGo l x false) := by
  unfold F43
  simp only [gdN_self]
  refine loopK_rule (fun z => ∃ i : Nat, z.2.2.1 = i ∧ i ≤ l.length ∧ Mod z.2.2.2 ∧ z.1.length ≤ i + 1 ∧ (z.2.1 = false → z.1.length ≤ i) ∧ z.1 ++ putGo (l.drop i) z.2.2.2 z.2.1 = putGo l x false) (fun z => l.length - z.2.2.1.toNat)
    ⟨0, rfl, by omega, hx, by simp, by simp, by simp⟩ rfl ?_
  rintro ⟨out, done, j, a, b⟩ again ⟨i, hj, hi, hab, ho1, ho2, hr⟩ hag
  simp only [] at hj hab ho1 ho2 hr
  subst hj
  obtain ⟨a1, a2, b1, b2⟩ := hab
  simp only [] at a1 a2 b1 b2
  by_cases hlt : i < l.length
  · rw [drop_getD (0, 0) hlt, putGo] at hr
    have hmi := hm _ (getD_mem' hlt)
    obtain ⟨⟨f, t⟩, hf⟩ : ∃ p : Sp, l.getD i (0, 0) = p := ⟨_, rfl⟩
    rw [hf] at hmi hr
    obtain ⟨f1, f2, t1, t2⟩ := hmi
    simp only [] at f1 f2 t1 t2 hr
    have hb : out.length + 2 ≤ big := by unfold big; omega
    have hnext : ∀ out' done' x', Mod x' → out'.length ≤ i + 2 → (done' = false → out'.length ≤ i + 1) → out' ++ putGo (l.drop (i + 1)) x' done' = putGo l x false → again (out', done', (i : Int) + 1, x') = some (putGo l x false) :=
      fun out' done' x' h1 h2 h3 h4 => hag _ ⟨i + 1, by simp, by omega, h1, h2, h3, h4⟩ (by simp; omega)
    simp (disch := omega) only [Int.toNat_natCast, gd_if, Bool.cond_decide, Bool.cond_not, i64_wrap, bnd_eq, if_pos, gdN_self, List.length_singleton, List.length_append, hf]
    split
    · rename_i h1
      rw [if_pos h1] at hr
      exact hnext _ _ _ ⟨a1, a2, b1, b2⟩ (by simp; omega) (fun h => by have := ho2 h; simp; omega) (by rw [← hr]; simp)
    · rename_i h1
      rw [if_neg h1] at hr
      split
      · rename_i h2
        rw [if_pos h2] at hr
        cases done with
        | true =>
          simp only [cond_true]
          exact hnext _ _ _ ⟨a1, a2, b1, b2⟩ (by simp; omega) (fun h => by cases h) (by rw [← hr]; simp)
        | false =>
          have := ho2 rfl
          simp only [cond_false]
          exact hnext _ _ _ ⟨a1, a2, b1, b2⟩ (by simp; omega) (fun h => by cases h) (by rw [← hr]; simp)
      · rename_i h2
        rw [if_neg h2] at hr
        exact hnext _ _ _ ⟨by simp only []; omega, by simp only []; omega, by simp only []; omega, by simp only []; omega⟩ (by omega) (fun h => by have := ho2 h; omega) hr
  · rw [List.drop_eq_nil_of_le (by omega), putGo] at hr
    have hb : out.length + 1 ≤ big := by unfold big; omega
    simp (disch := omega) only [gd_if, Bool.cond_decide, if_neg, bnd_eq, gdN_self, List.length_singleton, if_pos]
    cases done <;> simp at hr ⊢ <;> exact hr

theorem f47 (l : List Sp) (x : Sp) (hl : l.length ≤ 1000000) (hx : Mod x) : F47 l x = some (cutL l x) := by
  unfold F47
  simp only [gdN_self]
  refine loopK_rule (fun z => ∃ i : Nat, z.2 = i ∧ i ≤ l.length ∧ z.1.length ≤ 2 * i ∧ z.1 ++ cutL (l.drop i) x = cutL l x) (fun z => l.length - z.2.toNat)
    ⟨0, rfl, by omega, by simp, by simp⟩ rfl ?_
  rintro ⟨out, j⟩ again ⟨i, hj, hi, ho, hr⟩ hag
  simp only [] at hj ho hr
  subst hj
  obtain ⟨a1, a2, b1, b2⟩ := hx
  by_cases hlt : i < l.length
  · rw [drop_getD (0, 0) hlt] at hr
    obtain ⟨⟨f, t⟩, hf⟩ : ∃ p : Sp, l.getD i (0, 0) = p := ⟨_, rfl⟩
    rw [hf] at hr
    have hb : out.length + 2 ≤ big := by unfold big; omega
    have hnext : ∀ out', out'.length ≤ 2 * i + 2 → out' ++ cutL (l.drop (i + 1)) x = cutL l x → again (out', (i : Int) + 1) = some (cutL l x) :=
      fun out' h1 h2 => hag _ ⟨i + 1, by simp, by omega, by simp only []; omega, h2⟩ (by simp; omega)
    have hr' : out ++ (cutS x (f, t) ++ cutL (l.drop (i + 1)) x) = cutL l x := hr
    unfold cutS at hr'
    simp (disch := omega) only [Int.toNat_natCast, gd_if, Bool.cond_decide, Bool.cond_not, i64_wrap, bnd_eq, if_pos, gdN_self, List.length_singleton, List.length_append, hf, jn_eq]
    simp only [] at hr'
    by_cases h1 : t < x.1
    · rw [if_pos h1]
      rw [if_pos (.inl h1)] at hr'
      exact hnext _ (by simp; omega) (by rw [← hr']; simp)
    · rw [if_neg h1]
      by_cases h2 : x.2 < f
      · rw [if_pos h2]
        rw [if_pos (.inr h2)] at hr'
        exact hnext _ (by simp; omega) (by rw [← hr']; simp)
      · rw [if_neg h2]
        rw [if_neg (by omega)] at hr'
        by_cases h3 : f < x.1
        · simp only [h3, if_true] at hr' ⊢
          by_cases h4 : x.2 < t
          · simp only [h4, if_true] at hr' ⊢
            exact hnext _ (by simp; omega) (by rw [← hr']; simp)
          · simp only [h4, if_false] at hr' ⊢
            exact hnext _ (by simp; omega) (by rw [← hr']; simp)
        · simp only [h3, if_false] at hr' ⊢
          by_cases h4 : x.2 < t
          · simp only [h4, if_true] at hr' ⊢
            exact hnext _ (by simp; omega) (by rw [← hr']; simp)
          · simp only [h4, if_false] at hr' ⊢
            exact hnext _ (by omega) (by rw [← hr']; simp)
  · rw [List.drop_eq_nil_of_le (by omega)] at hr
    simp only []
    rw [decide_eq_false (by omega), cond_false, ← hr]
    simp [cutL]
end Go.Proofs.YtdffccmlfhdkpaaDoor
