/-
  Chapter 11: fields and their lines in plain words: what is right, what is printed, and that a line is read back. No condition.
-/
import Derived.Test.YtnhjoplleldbfaaDoorB
namespace Go.Proofs.YtnhjoplleldbfaaDoor
open Go Go.Nu

abbrev Sub := UInt8 × List UInt8
abbrev Field := List UInt8 × List UInt8 × List Sub × Int
abbrev Rec := Int × Int × Int × List UInt8 × List Field

def codeB (c : UInt8) : Bool := isD c || decide (97 ≤ c.toNat ∧ c.toNat ≤ 122)
/-- The first error of a subfield, of subfields, of a field. -/
def errS (s : Sub) : Int := if codeB s.1 = false then 1 else if s.2 = [] then 8 else if validT s.2 = false then 3 else if 200 < s.2.length then 4 else 0
def errL : List Sub → Int
  | [] => 0
  | s :: l => if errS s ≠ 0 then errS s else errL l
def tagB (t : List UInt8) : Bool := decide (t.length = 3) && (t.all isD && !decide (t.getD 0 0 = 48 ∧ t.getD 1 0 = 48))
def indB (t : List UInt8) : Bool := decide (t.length = 2) && t.all fun c => decide (c = 32) || isD c
def errF (f : Field) : Int := if tagB f.1 = false then 6 else if indB f.2.1 = false then 3 else if f.2.2.1 = [] then 8 else if 16 < f.2.2.1.length then 4 else
  if errL f.2.2.1 ≠ 0 then errL f.2.2.1 else if f.2.2.2 < 0 ∨ 9999 < f.2.2.2 then 2 else 0

def printS : List Sub → List UInt8
  | [] => []
  | s :: l => 36 :: s.1 :: (repl 36 [36, 36] s.2 ++ printS l)
def printF (f : Field) : List UInt8 := f.1 ++ ((if f.2.2.2 = 0 then [] else 64 :: Lib.itoa f.2.2.2) ++ 32 :: (repl 32 [35] f.2.1 ++ 32 :: printS f.2.2.1))

/-- The value at the head of the rest of a line, and what follows it. -/
def inner : List UInt8 → List UInt8 × List UInt8
  | [] => ([], [])
  | [c] => if c = 36 then ([], [c]) else ([c], [])
  | c :: d :: u => if c = 36 then (if d = 36 then (36 :: (inner u).1, (inner u).2) else ([], c :: d :: u)) else (c :: (inner (d :: u)).1, (inner (d :: u)).2)
theorem inner_cons {c : UInt8} (h : c ≠ 36) (l : List UInt8) : inner (c :: l) = (c :: (inner l).1, (inner l).2) := by
  cases l with
  | nil => unfold inner; rw [if_neg h]
  | cons d u => conv => lhs; unfold inner
                rw [if_neg h]
theorem inner_two (l : List UInt8) : inner (36 :: 36 :: l) = (36 :: (inner l).1, (inner l).2) := by
  conv => lhs; unfold inner
  rw [if_pos rfl, if_pos rfl]
theorem inner_one {c : UInt8} (h : c ≠ 36) (l : List UInt8) : inner (36 :: c :: l) = ([], 36 :: c :: l) := by
  conv => lhs; unfold inner
  rw [if_pos rfl, if_neg h]
theorem inner_le : ∀ l : List UInt8, (inner l).2.length ≤ l.length ∧ (inner l).1.length ≤ l.length
  | [] => ⟨Nat.le_refl _, Nat.le_refl _⟩
  | [c] => by unfold inner; split <;> simp
  | c :: d :: u => by
    unfold inner
    split
    · split
      · have := inner_le u
        simp only [List.length_cons]; omega
      · simp
    · have := inner_le (d :: u)
      simp only [List.length_cons] at this ⊢; omega
/-- What may stand behind a value. -/
def tailOk (r : List UInt8) : Prop := r = [] ∨ ∃ c t, r = 36 :: c :: t ∧ c ≠ 36
theorem inner_tail {r : List UInt8} (h : tailOk r) : inner r = ([], r) := by
  rcases h with rfl | ⟨c, t, rfl, hc⟩
  · rfl
  · exact inner_one hc t
theorem inner_repl {r : List UInt8} (h : tailOk r) : ∀ v : List UInt8, inner (repl 36 [36, 36] v ++ r) = (v, r)
  | [] => inner_tail h
  | c :: v => by
    have ih := inner_repl h v
    unfold repl at ih ⊢
    rw [List.flatMap_cons]
    by_cases hc : c = 36
    · subst hc
      rw [if_pos rfl]
      show inner (36 :: 36 :: (List.flatMap (fun x => if x = 36 then [36, 36] else [x]) v ++ r)) = _
      rw [inner_two, ih]
    · rw [if_neg hc]
      show inner (c :: (List.flatMap (fun x => if x = 36 then [36, 36] else [x]) v ++ r)) = _
      rw [inner_cons hc, ih]
theorem isD_ne {c d : UInt8} (h : isD c = true) (hd : isD d = false) : c ≠ d := fun e => by rw [e, hd] at h; cases h
theorem code_ne {c d : UInt8} (h : codeB c = true) (hd : codeB d = false) : c ≠ d := fun e => by rw [e, hd] at h; cases h
theorem printS_tail : ∀ {l : List Sub}, (∀ s ∈ l, codeB s.1 = true) → tailOk (printS l)
  | [], _ => .inl rfl
  | s :: l, h => .inr ⟨_, _, rfl, code_ne (h s (by simp)) (by decide)⟩
/-- The subfields of the rest of a line, as the program reads them. -/
def subsG : Nat → List UInt8 → List Sub
  | 0, _ => []
  | n + 1, s => match s with
    | c :: d :: u => if c = 36 then (d, (inner u).1) :: subsG n (inner u).2 else []
    | _ => []
theorem subsG_print : ∀ (n : Nat) (l : List Sub), (∀ s ∈ l, codeB s.1 = true) → (printS l).length ≤ n → subsG n (printS l) = l
  | 0, [], _, _ => rfl
  | 0, s :: l, _, h => by simp [printS] at h
  | n + 1, [], _, _ => rfl
  | n + 1, s :: l, h, hl => by
    show (if (36 : UInt8) = 36 then (s.1, (inner (repl 36 [36, 36] s.2 ++ printS l)).1) :: subsG n (inner (repl 36 [36, 36] s.2 ++ printS l)).2 else []) = _
    rw [if_pos rfl, inner_repl (printS_tail fun x hx => h x (List.mem_cons_of_mem _ hx))]
    simp only [printS, List.length_cons, List.length_append] at hl
    rw [subsG_print n l (fun x hx => h x (List.mem_cons_of_mem _ hx)) (by omega)]

theorem errL_zero : ∀ {l : List Sub}, errL l = 0 ↔ ∀ s ∈ l, errS s = 0
  | [] => by simp [errL]
  | s :: l => by
    unfold errL
    by_cases h : errS s ≠ 0
    · rw [if_pos h]
      constructor
      · intro e; exact (h e).elim
      · intro e; exact (h (e s (by simp))).elim
    · rw [if_neg h, errL_zero]
      have h' : errS s = 0 := Decidable.not_not.1 h
      constructor
      · intro e x hx
        rcases List.mem_cons.1 hx with rfl | hx
        · exact h'
        · exact e x hx
      · intro e x hx; exact e x (List.mem_cons_of_mem _ hx)
theorem errS_zero {s : Sub} (h : errS s = 0) : codeB s.1 = true ∧ s.2 ≠ [] ∧ validT s.2 = true ∧ s.2.length ≤ 200 := by
  unfold errS at h
  cases h1 : codeB s.1 with
  | false => rw [if_pos h1] at h; cases h
  | true =>
    rw [if_neg (by simp [h1])] at h
    by_cases h2 : s.2 = []
    · rw [if_pos h2] at h; cases h
    · rw [if_neg h2] at h
      cases h3 : validT s.2 with
      | false => rw [if_pos h3] at h; cases h
      | true =>
        rw [if_neg (by simp [h3])] at h
        by_cases h4 : 200 < s.2.length
        · rw [if_pos h4] at h; cases h
        · exact ⟨rfl, h2, rfl, by omega⟩
structure OkF (f : Field) : Prop where
  tag : tagB f.1 = true
  ind : indB f.2.1 = true
  ne : f.2.2.1 ≠ []
  len : f.2.2.1.length ≤ 16
  subs : ∀ s ∈ f.2.2.1, errS s = 0
  lo : 0 ≤ f.2.2.2
  hi : f.2.2.2 ≤ 9999
theorem okF_of {f : Field} (h : errF f = 0) : OkF f := by
  unfold errF at h
  cases h1 : tagB f.1 with
  | false => rw [if_pos h1] at h; cases h
  | true =>
  rw [if_neg (by simp [h1])] at h
  cases h2 : indB f.2.1 with
  | false => rw [if_pos h2] at h; cases h
  | true =>
  rw [if_neg (by simp [h2])] at h
  by_cases h3 : f.2.2.1 = []
  · rw [if_pos h3] at h; cases h
  rw [if_neg h3] at h
  by_cases h4 : 16 < f.2.2.1.length
  · rw [if_pos h4] at h; cases h
  rw [if_neg h4] at h
  by_cases h5 : errL f.2.2.1 ≠ 0
  · rw [if_pos h5] at h; exact (h5 h).elim
  rw [if_neg h5] at h
  by_cases h6 : f.2.2.2 < 0 ∨ 9999 < f.2.2.2
  · rw [if_pos h6] at h; cases h
  exact ⟨h1, h2, h3, by omega, errL_zero.1 (Decidable.not_not.1 h5), by omega, by omega⟩
theorem tag_len {t : List UInt8} (h : tagB t = true) : t.length = 3 ∧ t.all isD = true := by
  unfold tagB at h
  rw [Bool.and_eq_true, Bool.and_eq_true] at h
  exact ⟨of_decide_eq_true h.1, h.2.1⟩
theorem ind_len {t : List UInt8} (h : indB t = true) : ∃ a b, t = [a, b] ∧ (a = 32 ∨ isD a = true) ∧ (b = 32 ∨ isD b = true) := by
  unfold indB at h
  rw [Bool.and_eq_true] at h
  have h2 : t.length = 2 := of_decide_eq_true h.1
  obtain ⟨a, b, rfl⟩ : ∃ a b, t = [a, b] := by
    match t, h2 with
    | [a, b], _ => exact ⟨a, b, rfl⟩
  have := h.2
  simp only [List.all_cons, List.all_nil, Bool.and_true, Bool.and_eq_true, Bool.or_eq_true, decide_eq_true_eq] at this
  exact ⟨a, b, rfl, this.1, this.2⟩
/-- An indicator in a line, and back. -/
def mk (c : UInt8) : UInt8 := if c = 32 then 35 else c
theorem repl_ind (a b : UInt8) : repl 32 [35] [a, b] = [mk a, mk b] := by
  unfold repl mk
  by_cases ha : a = 32 <;> by_cases hb : b = 32 <;> simp [ha, hb]
theorem mk_no {c : UInt8} (h : c = 32 ∨ isD c = true) : mk c ≠ 32 ∧ (if mk c = 35 then 32 else mk c) = c ∧ mk c ≠ 10 := by
  unfold mk
  by_cases h1 : c = 32
  · subst h1; decide
  · rw [if_neg h1]
    have h2 : isD c = true := h.resolve_left h1
    refine ⟨h1, ?_, isD_ne h2 (by decide)⟩
    rw [if_neg (isD_ne h2 (by decide))]
theorem unrepl_ind {a b : UInt8} (ha : a = 32 ∨ isD a = true) (hb : b = 32 ∨ isD b = true) : repl 35 [32] [mk a, mk b] = [a, b] := by
  have h1 := (mk_no ha).2.1
  have h2 := (mk_no hb).2.1
  unfold repl
  simp only [List.flatMap_cons, List.flatMap_nil, List.append_nil]
  split at h1 <;> split at h2 <;> simp_all

/-- The number of an authority, printed. -/
def authS (n : Int) : List UInt8 := if n = 0 then [] else 64 :: Lib.itoa n
theorem itoa_pos {n : Int} (h : 0 ≤ n) : Lib.itoa n = Lib.decDigits n.toNat := by
  obtain ⟨k, rfl⟩ : ∃ k : Nat, n = k := ⟨n.toNat, by omega⟩
  rw [itoa_nat, Int.toNat_natCast]
theorem itoa_digs {n : Int} (h : 0 ≤ n) : (Lib.itoa n).all isD = true ∧ Lib.itoa n ≠ [] := by
  rw [itoa_pos h]; exact ⟨(dec_digits _).1, (dec_digits _).2.2.1⟩
theorem printF_parts (f : Field) : printF f = (f.1 ++ authS f.2.2.2) ++ 32 :: (repl 32 [35] f.2.1 ++ 32 :: printS f.2.2.1) := by
  unfold printF authS; rw [List.append_assoc]
theorem not_mem_of {l : List UInt8} {p : UInt8 → Bool} (h : l.all p = true) {c : UInt8} (hc : p c = false) : c ∉ l := fun hm => by
  rw [List.all_eq_true] at h
  rw [h c hm] at hc; cases hc
theorem head_no {f : Field} (h : OkF f) {c : UInt8} (h1 : isD c = false) (h2 : c ≠ 64) : c ∉ f.1 ++ authS f.2.2.2 := by
  rw [List.mem_append]
  rintro (hm | hm)
  · exact not_mem_of (tag_len h.tag).2 h1 hm
  · unfold authS at hm
    split at hm
    · cases hm
    · rcases List.mem_cons.1 hm with e | e
      · exact h2 e
      · exact not_mem_of (itoa_digs h.lo).1 h1 e
theorem mid_no {f : Field} (h : OkF f) : (32 : UInt8) ∉ repl 32 [35] f.2.1 ∧ repl 35 [32] (repl 32 [35] f.2.1) = f.2.1 ∧ (repl 32 [35] f.2.1).length = 2 ∧ (10 : UInt8) ∉ repl 32 [35] f.2.1 := by
  obtain ⟨a, b, e, ha, hb⟩ := ind_len h.ind
  rw [e, repl_ind]
  refine ⟨?_, unrepl_ind ha hb, rfl, ?_⟩
  · simp only [List.mem_cons, List.not_mem_nil, or_false]
    rintro (e | e)
    · exact (mk_no ha).1 e.symm
    · exact (mk_no hb).1 e.symm
  · simp only [List.mem_cons, List.not_mem_nil, or_false]
    rintro (e | e)
    · exact (mk_no ha).2.2 e.symm
    · exact (mk_no hb).2.2 e.symm
/-- The three parts of a printed line. -/
theorem split_print {f : Field} (h : OkF f) : Lib.splitK [32] 0 2 (printF f) = [f.1 ++ authS f.2.2.2, repl 32 [35] f.2.1, printS f.2.2.1] := by
  rw [printF_parts, split_at (head_no h (by decide) (by decide)), split_at (mid_no h).1]
  rfl
end Go.Proofs.YtnhjoplleldbfaaDoor
