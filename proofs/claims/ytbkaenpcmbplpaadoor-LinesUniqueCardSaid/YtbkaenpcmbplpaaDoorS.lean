/-
  Chapter 11: the lines of records, as the program and the reference print them. No condition.
-/
import Derived.Test.YtbkaenpcmbplpaaDoorR
namespace Go.Proofs.YtbkaenpcmbplpaaDoor
open Go Go.Nu

theorem one_at (s : List UInt8) {i : Nat} (h : i < s.length) : List.drop i (List.take (i + 1) s) = [s.getD i 0] := by
  rw [List.drop_take, Nat.add_sub_cancel_left, drop_getD 0 h]
  rfl
theorem repl_drop {c : UInt8} {new s : List UInt8} {i : Nat} (h : i < s.length) : repl c new (s.drop i) = (if s.getD i 0 = c then new else [s.getD i 0]) ++ repl c new (s.drop (i + 1)) := by
  rw [drop_getD 0 h]; rfl
theorem by36 {a : UInt8} : a.toNat = 36 ↔ a = 36 := by rw [← UInt8.toNat_inj]; rfl
/-! ### records -/
def kindS (n : Int) : List UInt8 := if n = 1 then [98, 111, 111, 107] else if n = 2 then [115, 101, 114, 105, 97, 108] else if n = 3 then [109, 97, 112] else [100, 105, 103, 105, 116, 97, 108]
theorem kindS_len (n : Int) : (kindS n).length ≤ 7 := by
  unfold kindS
  split
  · simp
  · split
    · simp
    · split <;> simp
def headH (id ver kind : Int) (lang : List UInt8) : List UInt8 := 61 :: (Lib.itoa id ++ 32 :: (Lib.itoa ver ++ 32 :: (kindS kind ++ 32 :: lang)))
def headR (r : Rec) : List UInt8 := headH r.1 r.2.1 r.2.2.1 r.2.2.2.1
def linesF : List Field → List UInt8
  | [] => []
  | f :: l => printF f ++ 10 :: linesF l
def printR (r : Rec) : List UInt8 := headR r ++ 10 :: (linesF r.2.2.2.2 ++ [10])
def printRP (r : Rec) : List UInt8 × Int := if errR r = 0 then (printR r, 0) else ([], errR r)
structure OkH (r : Rec) : Prop where
  id0 : 0 ≤ r.1
  id1 : r.1 ≤ 9999
  v0 : 1 ≤ r.2.1
  v1 : r.2.1 ≤ 3
  k0 : 1 ≤ r.2.2.1
  k1 : r.2.2.1 ≤ 4
  lang : langB r.2.2.2.1 = true
structure OkR (r : Rec) : Prop extends OkH r where
  len : r.2.2.2.2.length ≤ 64
  fields : ∀ f ∈ r.2.2.2.2, errF f = 0
theorem errFs_zero : ∀ {l : List Field}, errFs l = 0 ↔ ∀ f ∈ l, errF f = 0
  | [] => by simp [errFs]
  | f :: l => by
    unfold errFs
    by_cases h : errF f ≠ 0
    · rw [if_pos h]
      constructor
      · intro e; exact (h e).elim
      · intro e; exact (h (e f (by simp))).elim
    · rw [if_neg h, errFs_zero]
      have h' : errF f = 0 := Decidable.not_not.1 h
      constructor
      · intro e x hx
        rcases List.mem_cons.1 hx with rfl | hx
        · exact h'
        · exact e x hx
      · intro e x hx; exact e x (List.mem_cons_of_mem _ hx)
theorem okR_of {r : Rec} (h : errR r = 0) : OkR r := by
  unfold errR at h
  by_cases h1 : r.1 < 0 ∨ 9999 < r.1
  · rw [if_pos h1] at h; cases h
  rw [if_neg h1] at h
  by_cases h2 : r.2.1 < 1 ∨ 3 < r.2.1
  · rw [if_pos h2] at h; cases h
  rw [if_neg h2] at h
  by_cases h3 : r.2.2.1 < 1 ∨ 4 < r.2.2.1
  · rw [if_pos h3] at h; cases h
  rw [if_neg h3] at h
  by_cases h4 : langB r.2.2.2.1 = false
  · rw [if_pos h4] at h; cases h
  rw [if_neg h4] at h
  by_cases h5 : 64 < r.2.2.2.2.length
  · rw [if_pos h5] at h; cases h
  rw [if_neg h5] at h
  exact ⟨⟨by omega, by omega, by omega, by omega, by omega, by omega, by simpa using h4⟩, by omega, errFs_zero.1 h⟩
theorem errR_of {r : Rec} (h : OkR r) : errR r = 0 := by
  unfold errR
  have := h.id0; have := h.id1; have := h.v0; have := h.v1; have := h.k0; have := h.k1; have := h.lang; have := h.len
  rw [if_neg (by omega), if_neg (by omega), if_neg (by omega), if_neg (by simp [h.lang]), if_neg (by omega)]
  exact errFs_zero.2 h.fields
theorem lang_len {t : List UInt8} (h : langB t = true) : t.length = 3 ∧ t.all isL = true := by
  unfold langB at h
  rw [Bool.and_eq_true] at h
  exact ⟨of_decide_eq_true h.1, h.2⟩
theorem itoa_len {n : Int} (h0 : 0 ≤ n) (h1 : n ≤ 9999) : (Lib.itoa n).length ≤ 10000 := by
  rw [itoa_pos h0]
  have := dec_len n.toNat
  omega
theorem headR_len {r : Rec} (h : OkH r) : (headR r).length ≤ 21000 := by
  unfold headR headH
  have h1 := itoa_len h.id0 h.id1
  have h2 := itoa_len (n := r.2.1) (by have := h.v0; omega) (by have := h.v1; omega)
  have h3 := (lang_len h.lang).1
  have h4 := kindS_len r.2.2.1
  simp only [List.length_append, List.length_cons]
  omega
theorem linesF_len : ∀ {l : List Field}, (∀ f ∈ l, errF f = 0) → (linesF l).length ≤ 20001 * l.length
  | [], _ => by simp [linesF]
  | f :: l, h => by
    have h1 := linesF_len (l := l) fun x hx => h x (List.mem_cons_of_mem _ hx)
    have h2 := printF_len (okF_of (h f (by simp)))
    simp only [linesF, List.length_cons, List.length_append]
    omega
theorem printR_len {r : Rec} (h : OkR r) : (printR r).length ≤ 1400000 := by
  unfold printR
  have h1 := headR_len h.toOkH
  have h2 := linesF_len h.fields
  have h3 := h.len
  simp only [List.length_append, List.length_cons, List.length_nil]
  omega
theorem f25 (r : Rec) (h : OkH r) : F12 r = some (headR r) := by
  obtain ⟨id, ver, kind, lang, fs⟩ := r
  have hl := headR_len h
  unfold headR headH at hl ⊢
  have := h.id0; have := h.id1; have := h.v0; have := h.v1; have k0 := h.k0; have k1 := h.k1
  simp only at *
  simp only [List.length_append, List.length_cons] at hl
  unfold F12 fItoa F23 big
  simp only [bnd_eq]
  have hk : List.getD ([([] : List UInt8), ([98, 111, 111, 107] : List UInt8), ([115, 101, 114, 105, 97, 108] : List UInt8), ([109, 97, 112] : List UInt8), ([100, 105, 103, 105, 116, 97, 108] : List UInt8)]) kind.toNat [] = kindS kind := by
    have : kind = 1 ∨ kind = 2 ∨ kind = 3 ∨ kind = 4 := by omega
    rcases this with rfl | rfl | rfl | rfl <;> rfl
  rw [if_pos ⟨by omega, by omega⟩, bindO_some, gd_pos (by simp only [List.length_singleton]; omega), gd_pos (by simp only [List.length_append, List.length_singleton]; omega), if_pos ⟨by omega, by omega⟩, bindO_some,
    gd_pos (by simp only [List.length_append, List.length_singleton]; omega), gd_pos (by simp only [List.length_append, List.length_singleton]; omega), bindO_some, gd_pos (by simp only [List.length_cons, List.length_nil]; omega), hk,
    gd_pos (by simp only [List.length_append, List.length_singleton]; omega), gd_pos (by simp only [List.length_append, List.length_singleton]; omega), gd_pos (by simp only [List.length_append, List.length_singleton]; omega)]
  simp [List.append_assoc]
theorem linesF_drop {l : List Field} {i : Nat} (h : i < l.length) : linesF (l.drop i) = printF (l.getD i ([], [], [], 0)) ++ 10 :: linesF (l.drop (i + 1)) := by
  rw [drop_getD ([], [], [], 0) h]; rfl
theorem f11 (r : Rec) (hs : sizeF r.2.2.2.2) : F6 r = some (printRP r) := by
  unfold F6 printRP
  rw [f23 r hs, bindO_some]
  by_cases hz' : ¬ errR r = 0
  · rw [dF hz', Bool.not_false, cond_true, if_neg hz']
  have hz : errR r = 0 := Decidable.not_not.1 hz'
  rw [dT hz, Bool.not_true, cond_false, if_pos hz]
  have ok := okR_of hz
  have hlen := printR_len ok
  have hfl := ok.len
  have hh := headR_len ok.toOkH
  unfold big
  rw [f25 r ok.toOkH, bindO_some, gd_pos (by simp only [List.length_singleton]; omega), bnd_eq]
  rw [show gdN 0 (List.length ([] : List UInt8)) = id from funext fun x => if_pos rfl]
  simp only [id, List.length_nil, List.nil_append, gdN_self, bnd_eq]
  rw [gd_pos (by simp only [List.length_append, List.length_singleton]; omega)]
  refine loopK_rule (fun p : Int × List UInt8 => ∃ i : Nat, p.1 = i ∧ i ≤ r.2.2.2.2.length ∧ p.2 ++ (linesF (r.2.2.2.2.drop i) ++ [10]) = printR r) (fun p => r.2.2.2.2.length - p.1.toNat)
    ⟨0, rfl, Nat.zero_le _, by unfold printR; simp [List.append_assoc]⟩ rfl ?_
  rintro ⟨_, b⟩ again ⟨i, rfl, hi, he⟩ hag
  simp only at he ⊢
  have hl := congrArg List.length he
  by_cases hlt : i < r.2.2.2.2.length
  · rw [dT (by omega), cond_true, gd_pos (by omega)]
    simp only [toNat_nat]
    rw [linesF_drop hlt] at he hl
    have hmem := getD_mem ([], [], [], 0) hlt
    have h0 := ok.fields _ hmem
    have hsz := hs _ hmem
    generalize r.2.2.2.2.getD i ([], [], [], 0) = x at *
    simp only [List.length_cons, List.length_append] at hl
    rw [f26 x hsz, bindO_some]
    have e : printP x = (printF x, 0) := by unfold printP; rw [if_pos h0]
    rw [e]
    simp only []
    rw [dT trivial, Bool.not_true, cond_false, gd_pos (by simp only [List.length_singleton]; omega), gd_pos (by simp only [List.length_append, List.length_singleton]; omega), i64_wrap (by omega)]
    refine hag _ ⟨i + 1, by simp, by omega, ?_⟩ (by simp only []; omega)
    rw [← he]
    simp [List.append_assoc]
  · rw [dF (by omega), cond_false]
    rw [List.drop_eq_nil_of_le (by omega)] at he hl
    simp only [List.length_append] at hl
    rw [gd_pos (by simp only [List.length_singleton] at hl ⊢; omega), ← he]
    simp [linesF]
end Go.Proofs.YtbkaenpcmbplpaaDoor
