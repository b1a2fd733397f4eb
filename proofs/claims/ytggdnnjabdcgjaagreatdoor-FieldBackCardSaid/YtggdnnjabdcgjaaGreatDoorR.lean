/-
  Chapter 11: records: their checks and their lines. No condition.
-/
import Derived.Test.YtggdnnjabdcgjaaGreatDoorQ
namespace Go.Proofs.YtggdnnjabdcgjaaGreatDoor
open Go Go.Nu

theorem getD_mem {α : Type} {l : List α} {i : Nat} (d : α) (h : i < l.length) : l.getD i d ∈ l := by
  rw [List.getD_eq_getElem?_getD, List.getElem?_eq_getElem h]
  exact List.getElem_mem h
/-! ### numbers -/
theorem digit_at {d : Nat} (h : d < 10) : List.drop d (List.take (d + 1) ([48, 49, 50, 51, 52, 53, 54, 55, 56, 57] : List UInt8)) = [UInt8.ofNat (48 + d)] := by
  have : d = 0 ∨ d = 1 ∨ d = 2 ∨ d = 3 ∨ d = 4 ∨ d = 5 ∨ d = 6 ∨ d = 7 ∨ d = 8 ∨ d = 9 := by omega
  rcases this with rfl | rfl | rfl | rfl | rfl | rfl | rfl | rfl | rfl | rfl <;> rfl
theorem f45 (n : Nat) (h0 : 0 < n) (h : n ≤ 1000000) : F43 n 1 = some (Lib.itoa n) := by
  unfold F43
  rw [itoa_nat]
  have hlen := dec_len n
  have hne := (dec_digits n).2.2.1
  refine loopK_rule (fun p : Int × List UInt8 => ∃ m : Nat, p.1 = m ∧ m ≤ n ∧ (0 < m ∧ Lib.decDigits m ++ p.2 = Lib.decDigits n ∨ m = 0 ∧ p.2 = Lib.decDigits n)) (fun p => p.1.toNat) ⟨n, rfl, Nat.le_refl _, .inl ⟨h0, by simp⟩⟩ rfl ?_
  rintro ⟨_, out⟩ again ⟨m, rfl, hm, he⟩ hag
  simp only at he ⊢
  unfold big
  rcases he with ⟨hpos, he⟩ | ⟨rfl, he⟩
  · have hol : out.length ≤ n + 1 := by
      have := congrArg List.length he
      rw [List.length_append] at this; omega
    rw [jn_eq]
    dsimp only
    rw [dT (by omega), cond_true]
    have ht : Int.tmod (m : Int) 10 = ((m % 10 : Nat) : Int) := by rw [Int.tmod_eq_emod_of_nonneg (by omega)]; omega
    have hd : Int.tdiv (m : Int) 10 = ((m / 10 : Nat) : Int) := by rw [Int.tdiv_eq_ediv_of_nonneg (by omega)]; omega
    simp only [bnd_eq, ht, hd]
    rw [i64_wrap (n := ((m % 10 : Nat) : Int) + 1) (by omega), i64_wrap (n := ((m / 10 : Nat) : Int)) (by omega)]
    simp only [toNat1, toNat_nat, digit_at (Nat.mod_lt m (by omega : 0 < 10))]
    rw [gd_pos (by decide), gd_pos (by decide), gd_pos (by simp only [List.length_cons, List.length_nil]; omega), gd_pos (by simp only [List.length_singleton]; omega), gd_pos (by decide)]
    refine hag _ ⟨m / 10, rfl, by omega, ?_⟩ (by simp only [Int.toNat_natCast]; omega)
    by_cases h10 : m < 10
    · right
      rw [dec_lt h10] at he
      rw [Nat.mod_eq_of_lt h10]
      exact ⟨by omega, he⟩
    · left
      rw [dec_ge h10, List.append_assoc] at he
      exact ⟨by omega, he⟩
  · have hl : 0 < out.length := by rw [he]; exact List.length_pos_iff.2 hne
    have hne' : out ≠ [] := List.length_pos_iff.1 hl
    rw [jn_eq]
    dsimp only
    rw [dF (by omega), cond_false, dF hne', cond_false]
    clear hag
    refine loopK_rule (fun p => p = out) (fun _ => 0) rfl rfl ?_
    rintro _ again rfl _
    rw [dF (by omega), cond_false, he]

/-! ### the lines of fields -/
theorem repl_len {c : UInt8} {new : List UInt8} (hn : new.length ≤ 2) (s : List UInt8) : (repl c new s).length ≤ 2 * s.length := by
  unfold repl
  induction s with
  | nil => simp
  | cons x s ih =>
    rw [List.flatMap_cons, List.length_append, List.length_cons]
    split
    · omega
    · simp only [List.length_singleton]; omega
theorem printS_len : ∀ {l : List Sub}, (∀ s ∈ l, s.2.length ≤ 200) → (printS l).length ≤ 402 * l.length
  | [], _ => by simp [printS]
  | s :: l, h => by
    have h1 := printS_len (l := l) fun x hx => h x (List.mem_cons_of_mem _ hx)
    have h2 := h s (by simp)
    have h3 := repl_len (c := 36) (new := [36, 36]) (by simp) s.2
    simp only [printS, List.length_cons, List.length_append]
    omega
theorem authS_len {n : Int} (h0 : 0 ≤ n) (h1 : n ≤ 9999) : (authS n).length ≤ 10002 := by
  unfold authS
  split
  · simp
  · rw [itoa_pos h0, List.length_cons]
    have := dec_len n.toNat
    omega
theorem printF_len {f : Field} (h : OkF f) : (printF f).length ≤ 20000 := by
  rw [printF_parts]
  have h1 := (tag_len h.tag).1
  have h2 := (mid_no h).2.2.1
  have h3 := authS_len h.lo h.hi
  have h4 := printS_len (l := f.2.2.1) fun s hs => (errS_zero (h.subs s hs)).2.2.2
  have h5 := h.len
  simp only [List.length_append, List.length_cons]
  omega
def printP (f : Field) : List UInt8 × Int := if errF f = 0 then (printF f, 0) else ([], errF f)
theorem printS_drop {l : List Sub} {i : Nat} (h : i < l.length) : printS (l.drop i) = 36 :: (l.getD i (0, [])).1 :: (repl 36 [36, 36] (l.getD i (0, [])).2 ++ printS (l.drop (i + 1))) := by
  rw [drop_getD (0, []) h]; rfl
theorem f26 (f : Field) (hs : sizeS f.2.2.1) : F22 f = some (printP f) := by
  unfold F22 printP
  rw [f36 f hs, bindO_some]
  by_cases hz' : ¬ errF f = 0
  · rw [dF hz', Bool.not_false, cond_true, if_neg hz']
  have hz : errF f = 0 := Decidable.not_not.1 hz'
  rw [dT hz, Bool.not_true, cond_false, if_pos hz]
  have ok := okF_of hz
  have hlen := printF_len ok
  have hsl := ok.len
  have htot : f.1.length + (authS f.2.2.2).length + (repl 32 [35] f.2.1).length + (printS f.2.2.1).length + 2 ≤ 20000 := by
    have := hlen
    rw [printF_parts] at this
    simp only [List.length_append, List.length_cons] at this
    omega
  unfold big
  rw [show gdN 0 (List.length ([] : List UInt8)) = id from funext fun x => if_pos rfl]
  simp only [id, List.length_nil, List.nil_append, gdN_self, bnd_eq]
  rw [gd_pos (by omega)]
  refine jn_rule (fun b => b = f.1 ++ authS f.2.2.2) (fun next hn => ?_) ?_
  · by_cases h0 : f.2.2.2 = 0
    · rw [dT h0, Bool.not_true, cond_false]
      exact hn _ (by unfold authS; rw [if_pos h0, List.append_nil])
    · rw [dF h0, Bool.not_false, cond_true]
      unfold fItoa
      have hlo := ok.lo
      have hhi := ok.hi
      have e : authS f.2.2.2 = 64 :: Lib.itoa f.2.2.2 := by unfold authS; rw [if_neg h0]
      rw [e, List.length_cons] at htot
      rw [if_pos ⟨by omega, by omega⟩, bindO_some, gd_pos (by simp only [List.length_singleton]; omega), gd_pos (by simp only [List.length_append, List.length_singleton]; omega)]
      exact hn _ (by rw [e]; rfl)
  rintro _ rfl
  have hind : f.2.1.length = 2 := by
    obtain ⟨a, b, e, _⟩ := ind_len ok.ind
    rw [e]; rfl
  unfold fRepl
  rw [if_pos ⟨by omega, by simp, by simp⟩, bindO_some, repl_all (by decide)]
  rw [gd_pos (by simp only [List.length_singleton]; omega), gd_pos (by simp only [List.length_append, List.length_singleton]; omega), gd_pos (by simp only [List.length_append, List.length_singleton]; omega)]
  refine loopK_rule (fun p : Int × List UInt8 => ∃ i : Nat, p.1 = i ∧ i ≤ f.2.2.1.length ∧ p.2 ++ printS (f.2.2.1.drop i) = printF f) (fun p => f.2.2.1.length - p.1.toNat)
    ⟨0, rfl, Nat.zero_le _, by rw [printF_parts]; simp [List.append_assoc]⟩ rfl ?_
  rintro ⟨_, b⟩ again ⟨i, rfl, hi, he⟩ hag
  simp only at he ⊢
  have hl := congrArg List.length he
  rw [List.length_append] at hl
  by_cases hlt : i < f.2.2.1.length
  · rw [dT (by omega), cond_true, gd_pos (by omega)]
    simp only [toNat_nat]
    rw [printS_drop hlt] at he hl
    have hsub := hs _ (getD_mem (0, []) hlt)
    generalize f.2.2.1.getD i (0, []) = x at *
    simp only [List.length_cons, List.length_append] at hl
    rw [gd_pos (by omega), gd_pos (by omega), gd_pos (by simp only [List.length_append, List.length_singleton]; omega)]
    rw [if_pos ⟨by omega, by simp, by simp⟩, bindO_some, repl_all (by decide), gd_pos (by simp only [List.length_append, List.length_singleton]; omega), i64_wrap (by omega)]
    refine hag _ ⟨i + 1, by simp, by omega, ?_⟩ (by simp only []; omega)
    rw [← he]
    simp [List.append_assoc]
  · rw [dF (by omega), cond_false]
    rw [List.drop_eq_nil_of_le (by omega)] at he
    rw [← he]
    simp [printS]
end Go.Proofs.YtggdnnjabdcgjaaGreatDoor
