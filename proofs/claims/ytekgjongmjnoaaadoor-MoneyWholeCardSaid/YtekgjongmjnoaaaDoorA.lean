/-
  Chapter 4: dividing an amount: the order of the rests.
-/
import Derived.Test.YtekgjongmjnoaaaDoorF
namespace Go.Proofs.YtekgjongmjnoaaaDoor
open Go Go.Nu
theorem gd_if {β : Type} {c : Prop} [Decidable c] {x : Option β} : gd c x = if c then x else none := rfl

theorem drop_getD {α : Type} {l : List α} {i : Nat} (d : α) (h : i < l.length) : l.drop i = l.getD i d :: l.drop (i + 1) := by
  rw [List.drop_eq_getElem_cons h, List.getD_eq_getElem?_getD, List.getElem?_eq_getElem h, Option.getD_some]
theorem bnd_eq {α β : Type} {a : α} {k : α → Option β} : bnd a k = k a := rfl

/-- i comes ahead of j: a greater rest, or the same and a smaller number. -/
def bef (r : Nat → Int) (i j : Nat) : Prop := r j < r i ∨ (r j = r i ∧ i < j)
/-- The order of the numbers below n. -/
structure Srt (r : Nat → Int) (n : Nat) (L : List Nat) : Prop where
  len : L.length = n
  mem : ∀ x, x ∈ L ↔ x < n
  pw : L.Pairwise (bef r)

theorem nodup_of {r : Nat → Int} {L : List Nat} (h : L.Pairwise (bef r)) : L.Nodup := h.imp fun {a b} hab e => by subst e; rcases hab with h | h <;> omega

theorem toI_set (L : List Nat) (k x : Nat) : (L.map Int.ofNat).set k (x : Int) = (L.set k x).map Int.ofNat := by rw [List.map_set]; rfl
theorem toI_get {L : List Nat} {k : Nat} : (L.map Int.ofNat).getD k 0 = ((L.getD k 0 : Nat) : Int) := by
  rw [List.getD_eq_getElem?_getD, List.getD_eq_getElem?_getD, List.getElem?_map]
  cases L[k]? <;> rfl

section
variable (t : Int) (ws : List Int) (s : Int)
def rest (i : Nat) : Int := Int.tmod (t * ws.getD i 0) s

structure Fine : Prop where
  t0 : 0 ≤ t
  t1 : t ≤ 100000000
  w : ∀ i, i < ws.length → 0 ≤ ws.getD i 0 ∧ ws.getD i 0 ≤ 1000
  s0 : 0 < s
  s1 : s ≤ 16000
  n0 : 1 ≤ ws.length
  n1 : ws.length ≤ 16
variable {t ws s}

theorem Fine.mul (h : Fine t ws s) {i : Nat} (hi : i < ws.length) : 0 ≤ t * ws.getD i 0 ∧ t * ws.getD i 0 ≤ 100000000000 := by
  obtain ⟨h1, h2⟩ := h.w i hi
  refine ⟨Int.mul_nonneg h.t0 h1, ?_⟩
  calc t * ws.getD i 0 ≤ 100000000 * 1000 := Int.mul_le_mul h.t1 h2 h1 (by omega)
    _ = 100000000000 := by omega
theorem Fine.rest (h : Fine t ws s) {i : Nat} (hi : i < ws.length) : 0 ≤ rest t ws s i ∧ rest t ws s i < s ∧ rest t ws s i = t * ws.getD i 0 % s := by
  have hm := (h.mul hi).1
  have e : Go.Proofs.YtekgjongmjnoaaaDoor.rest t ws s i = t * ws.getD i 0 % s := by unfold Go.Proofs.YtekgjongmjnoaaaDoor.rest; rw [Int.tmod_eq_emod_of_nonneg hm]
  rw [e]
  have := h.s0
  exact ⟨Int.emod_nonneg _ (by omega), Int.emod_lt_of_pos _ this, rfl⟩

theorem f23 (h : Fine t ws s) {a b : Nat} (ha : a < ws.length) (hb : b < ws.length) : F23 a b t ws s = some (rest t ws s b - rest t ws s a) := by
  unfold F23
  have m1 := h.mul ha
  have m2 := h.mul hb
  have r1 := h.rest ha
  have r2 := h.rest hb
  have := h.s0
  have := h.s1
  rw [gd_pos (by omega), Int.toNat_natCast, bnd_eq, i64_wrap (by omega), gd_pos (by omega), bnd_eq, gd_pos (by omega), Int.toNat_natCast, bnd_eq, i64_wrap (by omega), gd_pos (by omega), bnd_eq, bnd_eq]
  show some (IntKind.i64.wrap (rest t ws s b - rest t ws s a)) = _
  rw [i64_wrap (by omega)]

/-- i put in its place ahead of what comes after it: what was there, back to front; what i has passed. -/
def ins (r : Nat → Int) (i : Nat) : List Nat → List Nat → List Nat
  | [], B => i :: B
  | x :: A, B => if r x < r i then ins r i A (x :: B) else (x :: A).reverse ++ i :: B
/-- The first i numbers in order. -/
def sr (r : Nat → Int) : Nat → List Nat
  | 0 => []
  | i + 1 => ins r i (sr r i).reverse []

theorem get0 {D E : List Int} {x y : Int} : (D ++ x :: y :: E).getD D.length 0 = x := by simp [List.getD_eq_getElem?_getD]
theorem get1 {D E : List Int} {x y : Int} : (D ++ x :: y :: E).getD (D.length + 1) 0 = y := by simp [List.getD_eq_getElem?_getD, List.getElem?_append_right]
theorem swap_at {D E : List Int} {x y : Int} : ((D ++ x :: y :: E).set (D.length + 1) x).set D.length y = D ++ y :: x :: E := by
  rw [List.set_append_right _ _ (by omega), List.set_append_right _ _ (by omega)]
  simp

theorem ins_ok {r : Nat → Int} {i : Nat} : ∀ {A B : List Nat}, (A.reverse ++ B).Pairwise (bef r) → (∀ x, x ∈ A.reverse ++ B → x < i) → (∀ x ∈ B, r x < r i) →
    (ins r i A B).Pairwise (bef r) ∧ ∀ x, x ∈ ins r i A B ↔ x ∈ A ∨ x ∈ B ∨ x = i
  | [], B, h, hlt, hB => by
    refine ⟨?_, fun x => by simp [ins]; grind⟩
    show (i :: B).Pairwise _
    exact List.pairwise_cons.2 ⟨fun x hx => Or.inl (hB x hx), by simpa using h⟩
  | y :: A, B, h, hlt, hB => by
    unfold ins
    have e : (y :: A).reverse ++ B = A.reverse ++ y :: B := by simp
    split
    · rename_i hy
      rw [e] at h hlt
      obtain ⟨h1, h2⟩ := ins_ok h hlt (fun x hx => by rcases List.mem_cons.1 hx with rfl | hx; exact hy; exact hB x hx)
      refine ⟨h1, fun x => (h2 x).trans ?_⟩
      simp only [List.mem_cons]
      grind
    · rename_i hy
      refine ⟨?_, fun x => by simp; grind⟩
      obtain ⟨p1, p2, p3⟩ := List.pairwise_append.1 h
      refine List.pairwise_append.2 ⟨p1, List.pairwise_cons.2 ⟨fun x hx => Or.inl (hB x hx), p2⟩, ?_⟩
      intro a ha b hb
      rcases List.mem_cons.1 hb with rfl | hb
      · have hai : a < b := hlt a (List.mem_append_left _ ha)
        have hya : a = y ∨ bef r a y := by
          rw [List.reverse_cons] at ha p1
          rcases List.mem_append.1 ha with ha | ha
          · exact Or.inr ((List.pairwise_append.1 p1).2.2 a ha y (by simp))
          · exact Or.inl (by simpa using ha)
        rcases hya with rfl | h
        · unfold bef; omega
        · unfold bef at h ⊢; omega
      · exact p3 a ha b hb
theorem ins_len {r : Nat → Int} {i : Nat} : ∀ {A B : List Nat}, (ins r i A B).length = A.length + B.length + 1
  | [], B => by simp [ins]
  | y :: A, B => by
    unfold ins
    split
    · rw [ins_len]; simp; omega
    · simp; omega
theorem sr_ok {r : Nat → Int} : ∀ n, Srt r n (sr r n)
  | 0 => ⟨rfl, by simp [sr], List.Pairwise.nil⟩
  | n + 1 => by
    have h := sr_ok (r := r) n
    obtain ⟨h1, h2⟩ := ins_ok (r := r) (i := n) (A := (sr r n).reverse) (B := []) (by simpa using h.pw) (fun x hx => (h.mem x).1 (by simpa using hx)) (fun x hx => by cases hx)
    refine ⟨?_, fun x => ?_, h1⟩
    · show (ins r n _ _).length = _
      rw [ins_len]; simp [h.len]
    · refine (h2 x).trans ?_
      have := h.mem x
      simp only [List.mem_reverse, List.not_mem_nil, false_or, this]
      omega

theorem f48 (h : Fine t ws s) : F48 ((List.range ws.length).map Int.ofNat) 0 (ws.length : Int) (t, ws, s, ()) = some ((), (sr (rest t ws s) ws.length).map Int.ofNat) := by
  unfold F48
  rw [bnd_eq, i64_wrap (by omega)]
  have hn0 := h.n0
  have hn1 := h.n1
  refine loopK_rule (fun x => ∃ i : Nat, 1 ≤ i ∧ i ≤ ws.length ∧ x = ((i : Int), (sr (rest t ws s) i ++ List.range' i (ws.length - i)).map Int.ofNat)) (fun x => ws.length - x.1.toNat) ⟨1, by omega, by omega, ?_⟩ rfl ?_
  · congr 2
    rw [List.range_eq_range']
    obtain ⟨k, hk⟩ : ∃ k, ws.length = k + 1 := ⟨ws.length - 1, by omega⟩
    rw [hk, List.range'_succ]
    simp [sr, ins]
  rintro x again ⟨i, hi0, hi1, rfl⟩ hag
  by_cases hlt : i < ws.length
  · rw [decide_eq_true (by simp only []; omega), cond_true]
    have hS := sr_ok (r := rest t ws s) i
    refine loopK_rule (fun x => ∃ A B : List Nat, ins (rest t ws s) i A B = sr (rest t ws s) (i + 1) ∧ (∀ y, y ∈ A → y < i) ∧ A.length + B.length = i ∧ x = ((A.length : Int), (A.reverse ++ i :: (B ++ List.range' (i + 1) (ws.length - (i + 1)))).map Int.ofNat)) (fun x => x.1.toNat)
      ⟨(sr (rest t ws s) i).reverse, [], rfl, fun y hy => (hS.mem y).1 (by simpa using hy), by simp [hS.len], ?_⟩ rfl ?_
    · simp only []
      obtain ⟨k, hk⟩ : ∃ k, ws.length - i = k + 1 := ⟨ws.length - i - 1, by omega⟩
      rw [show ws.length - (i + 1) = k by omega, hk, List.range'_succ]
      simp [hS.len]
    rintro x again2 ⟨A, B, hAB, hA, hl, rfl⟩ hag2
    have hend : ∀ d : List Nat, d = sr (rest t ws s) (i + 1) ++ List.range' (i + 1) (ws.length - (i + 1)) → again (((i : Int) + 1), d.map Int.ofNat) = some ((), (sr (rest t ws s) ws.length).map Int.ofNat) := by
      rintro d rfl
      exact hag _ ⟨i + 1, by omega, by omega, by simp⟩ (by simp; omega)
    cases A with
    | nil =>
      rw [decide_eq_false (by simp), cond_false, bnd_eq, i64_wrap (by simp only []; omega)]
      exact hend _ (by rw [← hAB]; simp [ins])
    | cons y A =>
      have hy := hA y (by simp)
      have hlA : A.length + 1 + B.length = i := by simpa using hl
      obtain ⟨C, hC⟩ : ∃ C, B ++ List.range' (i + 1) (ws.length - (i + 1)) = C := ⟨_, rfl⟩
      obtain ⟨D, hD⟩ : ∃ D, A.reverse.map Int.ofNat = D := ⟨_, rfl⟩
      have hDl : D.length = A.length := by rw [← hD]; simp
      have hCl : C.length + A.length + 2 = ws.length := by rw [← hC]; simp; omega
      have hdata : ((y :: A).reverse ++ i :: C).map Int.ofNat = D ++ (y : Int) :: (i : Int) :: C.map Int.ofNat := by rw [← hD]; simp
      rw [hC]
      rw [hdata]
      have hdl : (D ++ (y : Int) :: (i : Int) :: C.map Int.ofNat).length = ws.length := by simp; omega
      have hcl : ((y :: A).length : Int) = (D.length : Int) + 1 := by simp; omega
      simp only [hcl]
      have t1 : Int.toNat ((D.length : Int) + 1) = D.length + 1 := by omega
      have t2 : (D.length : Int) + 1 - 1 = (D.length : Int) := by omega
      rw [decide_eq_true (by omega), cond_true]
      simp (disch := omega) only [hdl, t1, t2, get0, get1, swap_at, gd_pos, bnd_eq, i64_wrap, Int.toNat_natCast, List.length_set, f23 h hlt (Nat.lt_trans hy hlt), bindO_some]
      by_cases hc : rest t ws s y < rest t ws s i
      · rw [decide_eq_true (by omega), cond_true]
        refine hag2 _ ⟨A, y :: B, ?_, fun z hz => hA z (by simp [hz]), by simp; omega, ?_⟩ (by simp only []; omega)
        · rw [← hAB]
          simp [ins, hc]
        · rw [← hD] at hDl ⊢
          simp [← hC]
      · rw [decide_eq_false (by omega), cond_false]
        rw [← hdata]
        refine hend _ ?_
        rw [← hAB, ← hC]
        simp [ins, hc]
  · rw [decide_eq_false (by simp only []; omega), cond_false]
    have : i = ws.length := by omega
    subst this
    simp
end
end Go.Proofs.YtekgjongmjnoaaaDoor
