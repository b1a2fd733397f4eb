/-
  Chapter 17: spans in order, and sets of volumes.
-/
import Derived.Test.YtdffccmlfhdkpaaDoorA
namespace Go.Proofs.YtdffccmlfhdkpaaDoor
open Go Go.Nu

/-- Ascending spans that do not touch, from a least number on; 10000 stands for all that follows. -/
def good : Int → List Sp → Prop
  | _, [] => True
  | m, p :: r => m ≤ p.1 ∧ p.1 ≤ p.2 ∧ p.1 ≤ 9999 ∧ p.2 ≤ 10000 ∧ good (p.2 + 2) r
def mem (n : Int) : List Sp → Prop
  | [] => False
  | p :: r => (p.1 ≤ n ∧ n ≤ p.2) ∨ mem n r

theorem good_mono : ∀ {l : List Sp} {m m' : Int}, good m l → m' ≤ m → good m' l
  | [], _, _, _, _ => trivial
  | _ :: _, _, _, h, hm => ⟨by have := h.1; omega, h.2⟩
theorem good_mod : ∀ {l : List Sp} {m : Int}, 1 ≤ m → good m l → ∀ p ∈ l, 1 ≤ p.1 ∧ p.1 ≤ 9999 ∧ p.1 ≤ p.2 ∧ p.2 ≤ 10000 ∧ Mod p
  | [], _, _, _, p, hp => by cases hp
  | q :: r, m, hm, h, p, hp => by
    obtain ⟨h1, h2, h3, h4, h5⟩ := h
    rcases List.mem_cons.1 hp with rfl | hp
    · exact ⟨by omega, by omega, by omega, by omega, by omega, by omega, by omega, by omega⟩
    · exact good_mod (by omega) h5 p hp
theorem mem_low : ∀ {l : List Sp} {m n : Int}, good m l → n < m → ¬ mem n l
  | [], _, _, _, _ => fun h => h
  | p :: r, m, n, h, hn => by
    obtain ⟨h1, h2, h3, h4, h5⟩ := h
    rintro (h | h)
    · omega
    · exact mem_low h5 (by omega) h

theorem good_ends : ∀ {l : List Sp} {m : Int}, 1 ≤ m → rt m l = true → good m (ends l) ∧ (ends l).map finS = l
  | [], _, _, _ => ⟨trivial, rfl⟩
  | p :: r, m, hm, h => by
    unfold rt at h
    simp only [Bool.and_eq_true, decide_eq_true_eq] at h
    obtain ⟨⟨h1, h2⟩, h3⟩ := h
    split at h3
    · rename_i h0
      have hr : r = [] := by simpa using h3
      subst hr
      refine ⟨?_, ?_⟩
      · show good m [endS p]
        unfold endS
        rw [if_pos h0]
        exact ⟨h1, by simp only []; omega, h2, by simp only []; omega, trivial⟩
      · show [finS (endS p)] = [p]
        unfold endS finS
        rw [if_pos h0]
        simp [← h0]
    · rename_i h0
      simp only [Bool.and_eq_true, decide_eq_true_eq] at h3
      obtain ⟨⟨h4, h5⟩, h6⟩ := h3
      obtain ⟨ih1, ih2⟩ := good_ends (m := p.2 + 2) (by omega) h6
      have e : endS p = p := by unfold endS; rw [if_neg h0]
      have e2 : finS p = p := by unfold finS; rw [if_neg (by omega)]
      refine ⟨?_, ?_⟩
      · show good m (endS p :: ends r)
        rw [e]
        exact ⟨h1, h4, h2, by omega, ih1⟩
      · show finS (endS p) :: (ends r).map finS = _
        rw [e, e2, ih2]

theorem rt_fin : ∀ {l : List Sp} {m : Int}, 1 ≤ m → good m l → rt m (l.map finS) = true ∧ ends (l.map finS) = l
  | [], _, _, _ => ⟨rfl, rfl⟩
  | p :: r, m, hm, h => by
    obtain ⟨h1, h2, h3, h4, h5⟩ := h
    by_cases h0 : p.2 = 10000
    · have hr : r = [] := by
        cases r with
        | nil => rfl
        | cons q r => obtain ⟨g1, g2, g3, _⟩ := h5; omega
      subst hr
      have e : finS p = (p.1, 0) := by unfold finS; rw [if_pos h0]
      refine ⟨?_, ?_⟩
      · show rt m [finS p] = true
        rw [e]
        simp [rt]; omega
      · show [endS (finS p)] = [p]
        rw [e]
        unfold endS
        rw [if_pos rfl, ← h0]
    · have e : finS p = p := by unfold finS; rw [if_neg h0]
      obtain ⟨ih1, ih2⟩ := rt_fin (m := p.2 + 2) (by omega) h5
      have e2 : endS p = p := by unfold endS; rw [if_neg (by omega)]
      refine ⟨?_, ?_⟩
      · show rt m (finS p :: r.map finS) = true
        rw [e, rt, if_neg (by omega), ih1]
        simp; omega
      · show endS (finS p) :: ends (r.map finS) = _
        rw [e, e2, ih2]

/-! ### put and cut -/
theorem put_done : ∀ {r : List Sp} {x : Sp}, good (x.2 + 2) r → x.1 ≤ x.2 → putGo r x true = r
  | [], _, _, _ => rfl
  | y :: r, x, h, hx => by
    obtain ⟨h1, h2, h3, h4, h5⟩ := h
    rw [putGo, if_neg (by omega), if_pos (by omega), if_pos rfl, put_done (good_mono h5 (by omega)) hx]

theorem good_put : ∀ {l : List Sp} {x : Sp} {m : Int}, good m l → m ≤ x.1 → x.1 ≤ x.2 → x.1 ≤ 9999 → x.2 ≤ 10000 → good m (putGo l x false) ∧ ∀ n, mem n (putGo l x false) ↔ mem n l ∨ (x.1 ≤ n ∧ n ≤ x.2)
  | [], x, m, _, h1, h2, h3, h4 => ⟨⟨h1, h2, h3, h4, trivial⟩, fun n => by simp [putGo, mem]⟩
  | y :: r, x, m, h, h1, h2, h3, h4 => by
    obtain ⟨g1, g2, g3, g4, g5⟩ := h
    rw [putGo]
    split
    · rename_i c1
      obtain ⟨i1, i2⟩ := good_put (x := x) g5 (by omega) h2 h3 h4
      refine ⟨⟨g1, g2, g3, g4, i1⟩, fun n => ?_⟩
      simp only [mem, i2]
      grind
    · rename_i c1
      split
      · rename_i c2
        have e := put_done (r := r) (x := x) (good_mono g5 (by omega)) h2
        simp only [Bool.false_eq_true, if_false, e]
        refine ⟨⟨h1, h2, h3, h4, by omega, g2, g3, g4, g5⟩, fun n => ?_⟩
        simp only [mem]
        grind
      · rename_i c2
        obtain ⟨i1, i2⟩ := good_put (l := r) (x := (min x.1 y.1, max x.2 y.2)) (m := m) (good_mono g5 (by omega)) (by simp only []; omega) (by simp only []; omega) (by simp only []; omega) (by simp only []; omega)
        refine ⟨i1, fun n => ?_⟩
        rw [i2]
        simp only [mem]
        have : (min x.1 y.1 ≤ n ∧ n ≤ max x.2 y.2) ↔ ((y.1 ≤ n ∧ n ≤ y.2) ∨ (x.1 ≤ n ∧ n ≤ x.2)) := by omega
        rw [this]
        grind

theorem mem_append : ∀ {a b : List Sp} {n : Int}, mem n (a ++ b) ↔ mem n a ∨ mem n b
  | [], b, n => by simp [mem]
  | p :: a, b, n => by simp only [List.cons_append, mem, mem_append, or_assoc]

theorem good_cut : ∀ {l : List Sp} {x : Sp} {m : Int}, 1 ≤ m → good m l → x.1 ≤ x.2 → (x.2 ≤ 9998 ∨ x.2 = 10000) → good m (cutL l x) ∧ ∀ n, mem n (cutL l x) ↔ mem n l ∧ ¬ (x.1 ≤ n ∧ n ≤ x.2)
  | [], x, m, _, _, h2, h3 => ⟨trivial, fun n => by simp [cutL, mem]⟩
  | y :: r, x, m, hm, h, h2, h3 => by
    obtain ⟨g1, g2, g3, g4, g5⟩ := h
    obtain ⟨i1, i2⟩ := good_cut (x := x) (m := y.2 + 2) (by omega) g5 h2 h3
    have e : cutL (y :: r) x = cutS x y ++ cutL r x := rfl
    rw [e]
    refine ⟨?_, fun n => ?_⟩
    · unfold cutS
      split
      · exact ⟨g1, g2, g3, g4, i1⟩
      · rename_i c
        split
        · split
          · exact ⟨g1, by simp only []; omega, g3, by simp only []; omega, by simp only []; omega, by simp only []; omega, by simp only []; omega, g4, i1⟩
          · exact ⟨g1, by simp only []; omega, g3, by simp only []; omega, good_mono i1 (by simp only []; omega)⟩
        · split
          · exact ⟨by simp only []; omega, by simp only []; omega, by simp only []; omega, g4, i1⟩
          · exact good_mono i1 (by omega)
    · rw [mem_append, i2]
      have : mem n (cutS x y) ↔ (y.1 ≤ n ∧ n ≤ y.2) ∧ ¬ (x.1 ≤ n ∧ n ≤ x.2) := by
        unfold cutS
        split
        · simp only [mem, or_false]; omega
        · split <;> split <;> simp only [mem, List.append_nil, List.nil_append, List.cons_append, or_false, false_iff] <;> omega
      rw [this]
      simp only [mem]
      grind

/-- One list for one set. -/
theorem good_unique : ∀ {l l' : List Sp} {m m' : Int}, good m l → good m' l' → (∀ n, mem n l ↔ mem n l') → l = l'
  | [], [], _, _, _, _, _ => rfl
  | [], q :: r, m, m', _, h', he => by
    obtain ⟨g1, g2, g3, g4, g5⟩ := h'
    exact ((he q.1).2 (.inl ⟨by omega, g2⟩)).elim
  | p :: r, [], m, m', h, _, he => by
    obtain ⟨g1, g2, g3, g4, g5⟩ := h
    exact ((he p.1).1 (.inl ⟨by omega, g2⟩)).elim
  | p :: r, q :: s, m, m', h, h', he => by
    obtain ⟨g1, g2, g3, g4, g5⟩ := h
    obtain ⟨k1, k2, k3, k4, k5⟩ := h'
    have low : ∀ {a b : Sp} {r s : List Sp}, good (a.2 + 2) r → good (b.2 + 2) s → a.1 ≤ a.2 → b.1 ≤ b.2 → (∀ n, mem n (a :: r) ↔ mem n (b :: s)) → b.1 ≤ a.1 ∧ a.2 ≤ b.2 := by
      intro a b r s hr hs ha hb he
      have h1 : b.1 ≤ a.1 := by
        rcases (he a.1).1 (.inl ⟨by omega, ha⟩) with h | h
        · exact h.1
        · rcases Int.lt_or_le a.1 (b.2 + 2) with h2 | h2
          · exact absurd h (mem_low hs h2)
          · omega
      refine ⟨h1, ?_⟩
      rcases Int.lt_or_le b.2 a.2 with h2 | h2
      · exfalso
        have hin : mem (b.2 + 1) (a :: r) := by
          rcases Int.lt_or_le b.2 a.1 with h3 | h3
          · -- b.1 ≤ b.2 < a.1: b.1 is not in a :: r
            have := (he b.1).2 (.inl ⟨by omega, hb⟩)
            rcases this with h | h
            · omega
            · exact absurd h (mem_low hr (by omega))
          · exact .inl ⟨by omega, by omega⟩
        rcases (he (b.2 + 1)).1 hin with h | h
        · omega
        · exact mem_low hs (by omega) h
      · exact h2
    have e1 := low g5 k5 g2 k2 he
    have e2 := low k5 g5 k2 g2 fun n => (he n).symm
    have e : p = q := Prod.ext (by omega) (by omega)
    subst e
    have : r = s := good_unique g5 k5 fun n => by
      have := he n
      simp only [mem] at this
      by_cases hn : p.1 ≤ n ∧ n ≤ p.2
      · exact ⟨fun h => absurd h (mem_low g5 (by omega)), fun h => absurd h (mem_low k5 (by omega))⟩
      · grind
    rw [this]
end Go.Proofs.YtdffccmlfhdkpaaDoor
