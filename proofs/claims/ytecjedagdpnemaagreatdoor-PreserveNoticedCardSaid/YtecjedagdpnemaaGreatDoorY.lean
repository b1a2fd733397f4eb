/-
  Chapter 47: what is made of right objects is right. No condition beyond what each line says.
-/
import Derived.Test.YtecjedagdpnemaaGreatDoorR
namespace Go.Proofs.YtecjedagdpnemaaGreatDoor
open Go Go.Nu
set_option linter.unusedVariables false
def dayL : Int → List Fix → Int
  | d, [] => d
  | _, x :: l => dayL x.1 l
def lastB : List UInt8 → List Fix → List UInt8
  | b, [] => b
  | _, x :: l => lastB x.2.2.2.2.1 l
theorem lastB_C : ∀ (l : List Fix) (b : List UInt8), lastB b l = if l = [] then b else lastC l
  | [], b => rfl
  | x :: l, b => by
    show lastB x.2.2.2.2.1 l = if x :: l = [] then b else lastC (x :: l)
    rw [if_neg (List.cons_ne_nil x l), lastB_C l]
    by_cases h : l = []
    · subst h; rfl
    · rw [if_neg h]
      unfold lastC
      rw [List.getLast?_cons]
      cases hq : l.getLast? with
      | none => exact absurd (List.getLast?_eq_none_iff.1 hq) h
      | some y => rfl
theorem dayL_last : ∀ (l : List Fix) (d : Int), dayL d l = match l.getLast? with | some x => x.1 | none => d
  | [], d => rfl
  | x :: l, d => by
    show dayL x.1 l = _
    rw [dayL_last l, List.getLast?_cons]
    cases l.getLast? <;> rfl
theorem entsB_app (n : Nat) : ∀ (l : List Fix) (d : Int) (x : Fix), entsB n d (l ++ [x]) = (entsB n d l && entsB n (dayL d l) [x])
  | [], d, x => by
    show entsB n d [x] = (true && entsB n d [x])
    rw [Bool.true_and]
  | y :: l, d, x => by
    rw [List.cons_append, entsB_cons, entsB_app n l, entsB_cons n d y l]
    simp only [Bool.and_assoc]
    try rfl
theorem chd_app : ∀ (l : List Fix) (b : List UInt8) (x : Fix), chainedB b (l ++ [x]) = (chainedB b l && decide (x.2.2.2.2.1 = chainP (lastB b l) x))
  | [], b, x => by
    show (decide (x.2.2.2.2.1 = chainP b x) && true) = (true && decide (x.2.2.2.2.1 = chainP b x))
    rw [Bool.and_true, Bool.true_and]
  | y :: l, b, x => by
    rw [List.cons_append, chd_cons, chd_app l, chd_cons, Bool.and_assoc]
    rfl
theorem made_app (e : List Edn) (x : Fix) (hx : x.2.1 ≠ 1 ∧ x.2.1 ≠ 3) : ∀ (l : List Fix) (n : Nat), madeB e n (l ++ [x]) = madeB e n l
  | [], n => by
    show madeB e n [x] = madeB e n []
    rw [madeB_cons, if_neg (by omega)]
  | y :: l, n => by
    rw [List.cons_append, madeB_cons, madeB_cons, made_app e x hx l (n + 1), made_app e x hx l n]
theorem fix_chain (l : List Fix) (d k e : Int) (r : List UInt8) (g : Bool) : (fixP l d k e r g).2.2.2.2.1 = chainP (lastC l) (fixP l d k e r g) := rfl
theorem chd_fix (l : List Fix) (d k e : Int) (r : List UInt8) (g : Bool) (h : chainedB [] l = true) : chainedB [] (l ++ [fixP l d k e r g]) = true := by
  rw [chd_app, h, Bool.true_and, decide_eq_true_eq, fix_chain, lastB_C]
  by_cases hl : l = []
  · subst hl; rfl
  · rw [if_neg hl]
theorem late_last {o : Obj} {d : Int} (h : lateP o d = 0) (h0 : 1 ≤ o.2.2.2.1.length) : dayL 0 o.2.2.2.1 ≤ d := by
  rw [dayL_last]
  unfold lateP at h
  rw [if_neg (by rw [late_day h]; simp)] at h
  cases hq : o.2.2.2.1.getLast? with
  | none => rw [List.getLast?_eq_none_iff] at hq; rw [hq] at h0; simp at h0
  | some x =>
    rw [hq] at h
    dsimp only at h ⊢
    by_cases hd : d < x.1
    · rw [if_pos hd] at h; cases h
    · omega
theorem ents_fix {o : Obj} {n : Nat} {d k e : Int} {r : List UInt8} {g : Bool} (he : entsB n 0 o.2.2.2.1 = true) (h0 : 1 ≤ o.2.2.2.1.length) (hl : lateP o d = 0) (hk : 1 ≤ k ∧ k ≤ 4) (hi : 0 ≤ e ∧ e < n) (hr : isDig r = true) : entsB n 0 (o.2.2.2.1 ++ [fixP o.2.2.2.1 d k e r g]) = true := by
  rw [entsB_app, he, Bool.true_and, entsB_cons]
  show (decide (1 ≤ k ∧ k ≤ 4 ∧ 0 ≤ e ∧ e < n) && (dayB d && (decide (dayL 0 o.2.2.2.1 ≤ d) && (isDig r && true)))) = true
  rw [dT ⟨hk.1, hk.2, hi.1, hi.2⟩, late_day hl, dT (late_last hl h0), hr]; rfl
theorem add_right {o : Obj} {d k e : Int} {r : List UInt8} {g : Bool} (h : RightO o) (hl : lateP o d = 0) (hk : k = 2 ∨ k = 4) (hi : 0 ≤ e ∧ e < o.2.2.1.length) (hr : isDig r = true) (hn : o.2.2.2.1.length + 1 ≤ 64) : RightO (addP o d k e r g) := by
  refine ⟨h.ids, h.e1, h.e8, by rw [add_len]; exact hn, h.eds, h.rgt, ents_fix h.ents h.h1 hl (by omega) hi hr, chd_fix _ _ _ _ _ _ h.chd, ?_⟩
  show madeB o.2.2.1 0 (o.2.2.2.1 ++ [fixP o.2.2.2.1 d k e r g]) = true
  rw [made_app _ _ (by show k ≠ 1 ∧ k ≠ 3; omega)]
  exact h.made
theorem ingest_ok {n r f d : Int} {l : List File} {t : Rts} (h : (ingestP n r f d l t).2 = 0) : (idB n = true ∧ idB r = true ∧ idB f = true ∧ dayB d = true ∧ rightP l = 0 ∧ rgtP t = 0) ∧ ingestP n r f d l t = ((n, r, [(f, -1, d, rootP l, l)], [fixP [] d 1 0 (rootP l) true], t), 0) := by
  unfold ingestP at h ⊢
  split at h
  · cases h
  rename_i h1
  split at h
  · rename_i h2; exact absurd h h2
  rename_i h2
  split at h
  · rename_i h3; exact absurd h h3
  rename_i h3
  rw [if_neg h1, if_neg h2, if_neg h3]
  simp only [not_or, Bool.not_eq_false, ne_eq, Decidable.not_not] at h1 h2 h3
  exact ⟨⟨h1.1, h1.2.1, h1.2.2.1, h1.2.2.2, h2, h3⟩, rfl⟩
theorem ingest_right {n r f d : Int} {l : List File} {t : Rts} (h : (ingestP n r f d l t).2 = 0) : RightO (ingestP n r f d l t).1 := by
  obtain ⟨⟨h1, h2, h3, h4, h5, h6⟩, e⟩ := ingest_ok h
  rw [e]
  have hd := h4
  unfold dayB at hd
  rw [decide_eq_true_eq] at hd
  refine ⟨⟨h1, h2⟩, Nat.le_refl _, by show 1 ≤ 8; omega, by show 1 ≤ 64; omega, ?_, h6, ?_, ?_, ?_⟩
  · show (if ednP 0 (f, -1, d, rootP l, l) = 0 then (0 : Int) else ednP 0 (f, -1, d, rootP l, l)) = 0
    have : ednP 0 (f, -1, d, rootP l, l) = 0 := by
      unfold ednP
      dsimp only
      rw [if_neg (by rw [h3, h4]; simp), if_neg (by simp), if_neg (by rw [root_dig]; simp)]
      exact h5
    rw [if_pos this]
  · show entsB 1 0 [fixP [] d 1 0 (rootP l) true] = true
    rw [entsB_cons]
    show (decide (1 ≤ (1 : Int) ∧ (1 : Int) ≤ 4 ∧ 0 ≤ (0 : Int) ∧ (0 : Int) < (1 : Nat)) && (dayB d && (decide (0 ≤ d) && (isDig (rootP l) && true)))) = true
    rw [dT (by omega), h4, dT hd.1, root_dig]; rfl
  · exact chd_fix [] d 1 0 (rootP l) true rfl
  · show madeB [(f, -1, d, rootP l, l)] 0 [fixP [] d 1 0 (rootP l) true] = true
    rw [madeB_cons, if_pos (.inl rfl)]
    show (decide ((0 : Int) = ((0 : Nat) : Int) ∧ ((1 : Int) = 1 ↔ (0 : Nat) = 0) ∧ true = true ∧ rootP l = rootP l ∧ d = d) && decide (0 + 1 = 1)) = true
    rw [dT (by simp), dT rfl]; rfl
end Go.Proofs.YtecjedagdpnemaaGreatDoor
