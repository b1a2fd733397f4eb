/-
  Chapter 11: records: their checks and their lines. No condition.
-/
import Derived.Test.YtbkaenpcmbplpaaDoorQ
namespace Go.Proofs.YtbkaenpcmbplpaaDoor
open Go Go.Nu

theorem trim_all {cs : List UInt8} {p : UInt8 → Bool} (hp : ∀ c, cs.contains c = p c) (s : List UInt8) : Lib.trimS s cs = [] ↔ s.all p = true := by
  unfold Lib.trimS Lib.trimLeftS Lib.trimRightS
  have e : (fun x => cs.contains x) = p := funext hp
  rw [e, dropWhile_nil, List.all_reverse]
  constructor
  · intro h
    have key : ∀ l : List UInt8, (l.dropWhile p).all p = true → l.all p = true := by
      intro l
      induction l with
      | nil => intro _; rfl
      | cons c l ih =>
        rw [List.dropWhile_cons]
        cases hc : p c
        · intro h; simp [hc] at h
        · intro h
          rw [List.all_cons, hc, Bool.true_and]
          exact ih (by simpa using h)
    have := key s.reverse h
    rwa [List.all_reverse] at this
  · intro h
    have : s.reverse.dropWhile p = [] := dropWhile_nil.2 (by rw [List.all_reverse]; exact h)
    rw [this]; rfl
def isL (c : UInt8) : Bool := decide (97 ≤ c.toNat ∧ c.toNat ≤ 122)
theorem letters_contains (c : UInt8) : ([97, 98, 99, 100, 101, 102, 103, 104, 105, 106, 107, 108, 109, 110, 111, 112, 113, 114, 115, 116, 117, 118, 119, 120, 121, 122] : List UInt8).contains c = isL c := by
  rw [Bool.eq_iff_iff]
  simp only [List.contains_eq_mem, decide_eq_true_eq, List.mem_cons, List.not_mem_nil, or_false, isL, ← UInt8.toNat_inj]
  show (c.toNat = 97 ∨ c.toNat = 98 ∨ c.toNat = 99 ∨ c.toNat = 100 ∨ c.toNat = 101 ∨ c.toNat = 102 ∨ c.toNat = 103 ∨ c.toNat = 104 ∨ c.toNat = 105 ∨ c.toNat = 106 ∨ c.toNat = 107 ∨ c.toNat = 108 ∨ c.toNat = 109 ∨ c.toNat = 110 ∨ c.toNat = 111 ∨ c.toNat = 112 ∨ c.toNat = 113 ∨ c.toNat = 114 ∨ c.toNat = 115 ∨ c.toNat = 116 ∨ c.toNat = 117 ∨ c.toNat = 118 ∨ c.toNat = 119 ∨ c.toNat = 120 ∨ c.toNat = 121 ∨ c.toNat = 122) ↔ _
  omega
def langB (t : List UInt8) : Bool := decide (t.length = 3) && t.all isL
def errFs : List Field → Int
  | [] => 0
  | f :: l => if errF f ≠ 0 then errF f else errFs l
def errR (r : Rec) : Int := if r.1 < 0 ∨ 9999 < r.1 then 2 else if r.2.1 < 1 ∨ 3 < r.2.1 then 20 else if r.2.2.1 < 1 ∨ 4 < r.2.2.1 then 1 else if langB r.2.2.2.1 = false then 3 else if 64 < r.2.2.2.2.length then 4 else errFs r.2.2.2.2
def sizeF (l : List Field) : Prop := ∀ f ∈ l, sizeS f.2.2.1
theorem errFs_drop {l : List Field} {i : Nat} (h : i < l.length) : errFs (l.drop i) = if errF (l.getD i ([], [], [], 0)) ≠ 0 then errF (l.getD i ([], [], [], 0)) else errFs (l.drop (i + 1)) := by
  rw [drop_getD ([], [], [], 0) h]; rfl
theorem getD_mem {α : Type} {l : List α} {i : Nat} (d : α) (h : i < l.length) : l.getD i d ∈ l := by
  rw [List.getD_eq_getElem?_getD, List.getElem?_eq_getElem h]
  exact List.getElem_mem h
theorem f23 (r : Rec) (hs : sizeF r.2.2.2.2) : F10 r = some (errR r) := by
  obtain ⟨id, ver, kind, lang, fs⟩ := r
  unfold F10 errR
  simp only [] at hs ⊢
  refine jn_rule (fun b => b = decide (id < 0 ∨ 9999 < id)) (fun next hn => ?_) ?_
  · by_cases h : id < 0
    · rw [dT h, cond_true]; exact hn _ (dT (.inl h)).symm
    · rw [dF h, cond_false]; exact hn _ (by rw [Bool.eq_iff_iff, decide_eq_true_eq, decide_eq_true_eq]; omega)
  rintro _ rfl
  by_cases h1 : id < 0 ∨ 9999 < id
  · rw [dT h1, cond_true, if_pos h1]
  rw [dF h1, cond_false, if_neg h1]
  refine jn_rule (fun b => b = decide (ver < 1 ∨ 3 < ver)) (fun next hn => ?_) ?_
  · by_cases h : ver < 1
    · rw [dT h, cond_true]; exact hn _ (dT (.inl h)).symm
    · rw [dF h, cond_false]; exact hn _ (by rw [Bool.eq_iff_iff, decide_eq_true_eq, decide_eq_true_eq]; omega)
  rintro _ rfl
  by_cases h2 : ver < 1 ∨ 3 < ver
  · rw [dT h2, cond_true, if_pos h2]
  rw [dF h2, cond_false, if_neg h2]
  refine jn_rule (fun b => b = decide (kind < 1 ∨ 4 < kind)) (fun next hn => ?_) ?_
  · by_cases h : kind < 1
    · rw [dT h, cond_true]; exact hn _ (dT (.inl h)).symm
    · rw [dF h, cond_false]; exact hn _ (by rw [Bool.eq_iff_iff, decide_eq_true_eq, decide_eq_true_eq]; omega)
  rintro _ rfl
  by_cases h3 : kind < 1 ∨ 4 < kind
  · rw [dT h3, cond_true, if_pos h3]
  rw [dF h3, cond_false, if_neg h3]
  refine jn_rule (fun b => b = !langB lang) (fun next hn => ?_) ?_
  · by_cases h : lang.length = 3
    · rw [dT (by omega), Bool.not_true, cond_false]
      unfold fTrim
      rw [if_pos ⟨by omega, by simp, by decide⟩, bindO_some]
      refine hn _ ?_
      unfold langB
      rw [dT h, Bool.true_and]
      congr 1
      rw [Bool.eq_iff_iff, decide_eq_true_eq]
      exact trim_all letters_contains lang
    · rw [dF (by omega), Bool.not_false, cond_true]
      exact hn _ (by unfold langB; rw [dF h]; rfl)
  rintro _ rfl
  cases hl : langB lang with
  | false => rfl
  | true =>
  rw [Bool.not_true, cond_false, if_neg (by simp)]
  by_cases h4 : 64 < fs.length
  · rw [dT (by omega), cond_true, if_pos h4]
  rw [dF (by omega), cond_false, if_neg h4]
  refine loopK_rule (fun p : Int => ∃ i : Nat, p = i ∧ i ≤ fs.length ∧ errFs (fs.drop i) = errFs fs) (fun p => fs.length - p.toNat) ⟨0, rfl, Nat.zero_le _, rfl⟩ rfl ?_
  rintro _ again ⟨i, rfl, hi, he⟩ hag
  by_cases hlt : i < fs.length
  · rw [dT (by omega), cond_true, gd_pos (by omega), toNat_nat]
    rw [errFs_drop hlt] at he
    rw [f36 _ (hs _ (getD_mem _ hlt)), bindO_some]
    by_cases hz : errF (fs.getD i ([], [], [], 0)) = 0
    · rw [dT hz, Bool.not_true, cond_false, bnd_eq, i64_wrap (by omega)]
      rw [if_neg (not_not_intro hz)] at he
      exact hag _ ⟨i + 1, by omega, by omega, he⟩ (by omega)
    · rw [dF hz, Bool.not_false, cond_true]
      rw [if_pos hz] at he
      rw [he]
  · rw [dF (by omega), cond_false]
    rw [List.drop_eq_nil_of_le (by omega)] at he
    rw [← he]; rfl
/-! ### numbers -/
theorem digit_at {d : Nat} (h : d < 10) : List.drop d (List.take (d + 1) ([48, 49, 50, 51, 52, 53, 54, 55, 56, 57] : List UInt8)) = [UInt8.ofNat (48 + d)] := by
  have : d = 0 ∨ d = 1 ∨ d = 2 ∨ d = 3 ∨ d = 4 ∨ d = 5 ∨ d = 6 ∨ d = 7 ∨ d = 8 ∨ d = 9 := by omega
  rcases this with rfl | rfl | rfl | rfl | rfl | rfl | rfl | rfl | rfl | rfl <;> rfl
/-! ### the lines of fields -/
theorem repl_len {c : UInt8} {new : List UInt8} (hn : new.length ≤ 2) (s : List UInt8) : (repl c new s).length ≤ 2 * s.length := by
  unfold repl
  induction s with
  | nil => simp
  | cons x s ih =>
    rw [List.flatMap_cons, List.length_append, List.length_cons]
    split
    · omega
    · simp only [List.length_singleton]; omega
theorem printS_len : ∀ {l : List Sub}, (∀ s ∈ l, s.2.length ≤ 200) → (printS l).length ≤ 402 * l.length
  | [], _ => by simp [printS]
  | s :: l, h => by
    have h1 := printS_len (l := l) fun x hx => h x (List.mem_cons_of_mem _ hx)
    have h2 := h s (by simp)
    have h3 := repl_len (c := 36) (new := [36, 36]) (by simp) s.2
    simp only [printS, List.length_cons, List.length_append]
    omega
theorem authS_len {n : Int} (h0 : 0 ≤ n) (h1 : n ≤ 9999) : (authS n).length ≤ 10002 := by
  unfold authS
  split
  · simp
  · rw [itoa_pos h0, List.length_cons]
    have := dec_len n.toNat
    omega
theorem printF_len {f : Field} (h : OkF f) : (printF f).length ≤ 20000 := by
  rw [printF_parts]
  have h1 := (tag_len h.tag).1
  have h2 := (mid_no h).2.2.1
  have h3 := authS_len h.lo h.hi
  have h4 := printS_len (l := f.2.2.1) fun s hs => (errS_zero (h.subs s hs)).2.2.2
  have h5 := h.len
  simp only [List.length_append, List.length_cons]
  omega
def printP (f : Field) : List UInt8 × Int := if errF f = 0 then (printF f, 0) else ([], errF f)
theorem printS_drop {l : List Sub} {i : Nat} (h : i < l.length) : printS (l.drop i) = 36 :: (l.getD i (0, [])).1 :: (repl 36 [36, 36] (l.getD i (0, [])).2 ++ printS (l.drop (i + 1))) := by
  rw [drop_getD (0, []) h]; rfl
theorem f26 (f : Field) (hs : sizeS f.2.2.1) : F13 f = some (printP f) := by
  unfold F13 printP
  rw [f36 f hs, bindO_some]
  by_cases hz' : ¬ errF f = 0
  · rw [dF hz', Bool.not_false, cond_true, if_neg hz']
  have hz : errF f = 0 := Decidable.not_not.1 hz'
  rw [dT hz, Bool.not_true, cond_false, if_pos hz]
  have ok := okF_of hz
  have hlen := printF_len ok
  have hsl := ok.len
  have htot : f.1.length + (authS f.2.2.2).length + (repl 32 [35] f.2.1).length + (printS f.2.2.1).length + 2 ≤ 20000 := by
    have := hlen
    rw [printF_parts] at this
    simp only [List.length_append, List.length_cons] at this
    omega
  unfold big
  rw [show gdN 0 (List.length ([] : List UInt8)) = id from funext fun x => if_pos rfl]
  simp only [id, List.length_nil, List.nil_append, gdN_self, bnd_eq]
  rw [gd_pos (by omega)]
  refine jn_rule (fun b => b = f.1 ++ authS f.2.2.2) (fun next hn => ?_) ?_
  · by_cases h0 : f.2.2.2 = 0
    · rw [dT h0, Bool.not_true, cond_false]
      exact hn _ (by unfold authS; rw [if_pos h0, List.append_nil])
    · rw [dF h0, Bool.not_false, cond_true]
      unfold fItoa
      have hlo := ok.lo
      have hhi := ok.hi
      have e : authS f.2.2.2 = 64 :: Lib.itoa f.2.2.2 := by unfold authS; rw [if_neg h0]
      rw [e, List.length_cons] at htot
      rw [if_pos ⟨by omega, by omega⟩, bindO_some, gd_pos (by simp only [List.length_singleton]; omega), gd_pos (by simp only [List.length_append, List.length_singleton]; omega)]
      exact hn _ (by rw [e]; rfl)
  rintro _ rfl
  have hind : f.2.1.length = 2 := by
    obtain ⟨a, b, e, _⟩ := ind_len ok.ind
    rw [e]; rfl
  unfold fRepl
  rw [if_pos ⟨by omega, by simp, by simp⟩, bindO_some, repl_all (by decide)]
  rw [gd_pos (by simp only [List.length_singleton]; omega), gd_pos (by simp only [List.length_append, List.length_singleton]; omega), gd_pos (by simp only [List.length_append, List.length_singleton]; omega)]
  refine loopK_rule (fun p : Int × List UInt8 => ∃ i : Nat, p.1 = i ∧ i ≤ f.2.2.1.length ∧ p.2 ++ printS (f.2.2.1.drop i) = printF f) (fun p => f.2.2.1.length - p.1.toNat)
    ⟨0, rfl, Nat.zero_le _, by rw [printF_parts]; simp [List.append_assoc]⟩ rfl ?_
  rintro ⟨_, b⟩ again ⟨i, rfl, hi, he⟩ hag
  simp only at he ⊢
  have hl := congrArg List.length he
  rw [List.length_append] at hl
  by_cases hlt : i < f.2.2.1.length
  · rw [dT (by omega), cond_true, gd_pos (by omega)]
    simp only [toNat_nat]
    rw [printS_drop hlt] at he hl
    have hsub := hs _ (getD_mem (0, []) hlt)
    generalize f.2.2.1.getD i (0, []) = x at *
    simp only [List.length_cons, List.length_append] at hl
    rw [gd_pos (by omega), gd_pos (by omega), gd_pos (by simp only [List.length_append, List.length_singleton]; omega)]
    rw [if_pos ⟨by omega, by simp, by simp⟩, bindO_some, repl_all (by decide), gd_pos (by simp only [List.length_append, List.length_singleton]; omega), i64_wrap (by omega)]
    refine hag _ ⟨i + 1, by simp, by omega, ?_⟩ (by simp only []; omega)
    rw [← he]
    simp [List.append_assoc]
  · rw [dF (by omega), cond_false]
    rw [List.drop_eq_nil_of_le (by omega)] at he
    rw [← he]
    simp [printS]
end Go.Proofs.YtbkaenpcmbplpaaDoor
