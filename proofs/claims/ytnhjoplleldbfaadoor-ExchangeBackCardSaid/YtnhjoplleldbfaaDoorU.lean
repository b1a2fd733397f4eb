/-
  The bytes of a record, and that both programs' Encode give them. No condition beyond what each line says.
-/
import Derived.Test.YtnhjoplleldbfaaDoorT
namespace Go.Proofs.YtnhjoplleldbfaaDoor
open Go Go.Nu
set_option linter.unusedVariables false

abbrev F00 : Field := ([], [], [], 0)
/-- The bytes of subfields, of a field, of the directory, of all fields. -/
def subsE : List Sub → List UInt8
  | [] => []
  | s :: l => 31 :: s.1 :: (s.2 ++ subsE l)
def fieldE (f : Field) : List UInt8 := f.2.1 ++ numW f.2.2.2.toNat 4 ++ (subsE f.2.2.1 ++ [30])
def dirE : Nat → List Field → List UInt8
  | _, [] => []
  | s, f :: l => f.1 ++ numW (fieldE f).length 4 ++ numW s 5 ++ dirE (s + (fieldE f).length) l
def bodyE : List Field → List UInt8
  | [] => []
  | f :: l => fieldE f ++ bodyE l
def baseE (r : Rec) : Nat := 24 + (dirE 0 r.2.2.2.2).length + 1
def sizeE (r : Rec) : Nat := baseE r + (bodyE r.2.2.2.2).length + 1
def kindE (k : Int) : List UInt8 := List.drop (k - 1).toNat (List.take k.toNat [98, 115, 109, 100])
def recE (r : Rec) : List UInt8 :=
  numW (sizeE r) 5 ++ [110] ++ kindE r.2.2.1 ++ Lib.itoa r.2.1 ++ r.2.2.2.1 ++ numW (baseE r) 5 ++ numW r.1.toNat 4 ++ [52, 53, 48, 48] ++ dirE 0 r.2.2.2.2 ++ [30] ++ bodyE r.2.2.2.2 ++ [29]
def encP (r : Rec) : List UInt8 × Int := if errR r ≠ 0 then ([], errR r) else if 9999 < sizeE r then ([], 4) else (recE r, 0)

theorem subsE_len : ∀ {l : List Sub}, (∀ s ∈ l, errS s = 0) → (subsE l).length ≤ 202 * l.length
  | [], _ => by simp [subsE]
  | s :: l, h => by
    have h1 := subsE_len (l := l) fun x hx => h x (List.mem_cons_of_mem _ hx)
    have h2 := (errS_zero (h s (by simp))).2.2.2
    simp only [subsE, List.length_cons, List.length_append]
    omega
theorem fieldE_len {f : Field} (h : OkF f) : (fieldE f).length ≤ 20000 := by
  have h1 := subsE_len h.subs
  have h2 := h.len
  have h3 := numW_le f.2.2.2.toNat 4
  have h4 := h.hi
  have h5 : f.2.1.length = 2 := by obtain ⟨a, b, e, _⟩ := ind_len h.ind; rw [e]; rfl
  unfold fieldE
  simp only [List.length_append, List.length_singleton]
  omega
theorem bodyE_len : ∀ {l : List Field}, (∀ f ∈ l, errF f = 0) → (bodyE l).length ≤ 20000 * l.length
  | [], _ => by simp [bodyE]
  | f :: l, h => by
    have h1 := bodyE_len (l := l) fun x hx => h x (List.mem_cons_of_mem _ hx)
    have h2 := fieldE_len (okF_of (h f (by simp)))
    simp only [bodyE, List.length_cons, List.length_append]
    omega
theorem dirE_len : ∀ {l : List Field} {s : Nat}, (∀ f ∈ l, errF f = 0) → s + (bodyE l).length ≤ 1280000 → (dirE s l).length ≤ 1310000 * l.length
  | [], _, _, _ => by simp [dirE]
  | f :: l, s, h, hs => by
    have h2 := fieldE_len (okF_of (h f (by simp)))
    have h3 := (tag_len (okF_of (h f (by simp))).tag).1
    have h4 := numW_le (fieldE f).length 4
    have h5 := numW_le s 5
    simp only [bodyE, List.length_append] at hs
    have h1 := dirE_len (l := l) (s := s + (fieldE f).length) (fun x hx => h x (List.mem_cons_of_mem _ hx)) (by omega)
    simp only [dirE, List.length_cons, List.length_append]
    omega
theorem body_small {r : Rec} (h : OkR r) : (bodyE r.2.2.2.2).length ≤ 1280000 := by
  have := bodyE_len h.fields
  have := h.len
  omega
theorem dir_small {r : Rec} (h : OkR r) : (dirE 0 r.2.2.2.2).length ≤ 83840000 := by
  have := dirE_len (s := 0) h.fields (by have := body_small h; omega)
  have := h.len
  omega
theorem subsE_drop {l : List Sub} {i : Nat} (h : i < l.length) : subsE (l.drop i) = 31 :: (l.getD i (0, [])).1 :: ((l.getD i (0, [])).2 ++ subsE (l.drop (i + 1))) := by
  rw [drop_getD (0, []) h]; rfl
theorem bodyE_drop {l : List Field} {i : Nat} (h : i < l.length) : bodyE (l.drop i) = fieldE (l.getD i F00) ++ bodyE (l.drop (i + 1)) := by
  rw [drop_getD F00 h]; rfl
theorem dirE_drop {l : List Field} {i : Nat} (s : Nat) (h : i < l.length) :
    dirE s (l.drop i) = (l.getD i F00).1 ++ numW (fieldE (l.getD i F00)).length 4 ++ numW s 5 ++ dirE (s + (fieldE (l.getD i F00)).length) (l.drop (i + 1)) := by
  rw [drop_getD F00 h]; rfl
theorem numW_one {n : Int} (h0 : 0 ≤ n) : numW n.toNat 1 = Lib.itoa n := by
  have h := (itoa_digs h0).2
  have h2 : 0 < (Lib.itoa n).length := List.length_pos_iff.2 h
  unfold numW
  rw [Int.toNat_of_nonneg h0, show 1 - (Lib.itoa n).length = 0 by omega]
  rfl
theorem kindE_len {k : Int} (h0 : 1 ≤ k) (h1 : k ≤ 4) : (kindE k).length = 1 := by
  have : k = 1 ∨ k = 2 ∨ k = 3 ∨ k = 4 := by omega
  rcases this with rfl | rfl | rfl | rfl <;> rfl

theorem n4 (n : Nat) (h : n ≤ 100000000) : F23 n 4 = some (numW n 4) := f23 n 4 h (by omega)
theorem n5 (n : Nat) (h : n ≤ 100000000) : F23 n 5 = some (numW n 5) := f23 n 5 h (by omega)
theorem m1 (n : Nat) (h : n ≤ 100000000) : F27 n 1 = some (numW n 1) := f27 n 1 h (by omega)
theorem m4 (n : Nat) (h : n ≤ 100000000) : F27 n 4 = some (numW n 4) := f27 n 4 h (by omega)
theorem m5 (n : Nat) (h : n ≤ 100000000) : F27 n 5 = some (numW n 5) := f27 n 5 h (by omega)
/-- What the program's Encode has when all fields are written. -/
theorem f9 (r : Rec) (hs : sizeF r.2.2.2.2) : F9 r = some (encP r) := by
  unfold F9 encP
  rw [f20 r hs, bindO_some]
  by_cases h0 : errR r = 0
  rotate_left
  · rw [dF h0, Bool.not_false, cond_true, if_pos h0]
  rw [dT h0, Bool.not_true, cond_false, if_neg (by simpa using h0)]
  have ok := okR_of h0
  have hb := body_small ok
  have hd := dir_small ok
  have hl := ok.len
  obtain ⟨id, ver, kind, lang, fs⟩ := r
  simp only [] at hs hb hd hl ⊢
  have g0 : ∀ x : Option (List UInt8 × Int), gdN 0 ([] : List UInt8).length x = x := fun x => gdN_self
  rw [g0, g0]
  have hok : ∀ i, i < fs.length → OkF (fs.getD i F00) := fun i hi => okF_of (ok.fields _ (getD_mem F00 hi))
  refine loopK_rule (fun p : Int × List UInt8 × List UInt8 => ∃ i : Nat, p.1 = i ∧ i ≤ fs.length ∧ p.2.2 ++ bodyE (fs.drop i) = bodyE fs ∧ p.2.1 ++ dirE p.2.2.length (fs.drop i) = dirE 0 fs) (fun p => fs.length - p.1.toNat) ⟨0, rfl, Nat.zero_le _, rfl, rfl⟩ rfl ?_
  rintro ⟨_, dir, body⟩ again ⟨i, rfl, hi, hB, hD⟩ hag
  simp only at hB hD ⊢
  have hbl : body.length ≤ 1280000 := by
    have := congrArg List.length hB
    rw [List.length_append] at this; omega
  have hdl : dir.length ≤ 83840000 := by
    have := congrArg List.length hD
    rw [List.length_append] at this; omega
  unfold big
  by_cases hlt : i < fs.length
  rotate_left
  · rw [dF (by omega), cond_false]
    rw [List.drop_eq_nil_of_le (by omega)] at hB hD
    simp only [bodyE, dirE, List.append_nil] at hB hD
    subst hB hD
    rw [gdN_self]
    simp only [bnd_eq]
    rw [i64_wrap (n := (24 : Int) + (dirE 0 fs).length) (by omega), i64_wrap (n := (24 : Int) + (dirE 0 fs).length + 1) (by omega), gdN_self, i64_wrap (n := (24 : Int) + (dirE 0 fs).length + 1 + (bodyE fs).length) (by omega), i64_wrap (n := (24 : Int) + (dirE 0 fs).length + 1 + (bodyE fs).length + 1) (by omega)]
    have e1 : ((24 : Int) + (dirE 0 fs).length + 1) = ((baseE (id, ver, kind, lang, fs) : Nat) : Int) := by unfold baseE; simp only []; omega
    have e2 : ((24 : Int) + (dirE 0 fs).length + 1 + (bodyE fs).length + 1) = ((sizeE (id, ver, kind, lang, fs) : Nat) : Int) := by unfold sizeE baseE; simp only []; omega
    rw [e2, e1]
    have hz1 : baseE (id, ver, kind, lang, fs) ≤ 83850000 := by unfold baseE; simp only []; omega
    have hz2 : sizeE (id, ver, kind, lang, fs) ≤ 90000000 := by unfold sizeE baseE; simp only []; omega
    by_cases h9 : 9999 < sizeE (id, ver, kind, lang, fs)
    · rw [dT (by omega), cond_true, if_pos h9]
    rw [dF (by omega), cond_false, if_neg h9]
    have n1 := numW_le (sizeE (id, ver, kind, lang, fs)) 5
    have n2 := numW_le (baseE (id, ver, kind, lang, fs)) 5
    have n3 := numW_le id.toNat 4
    have v0 := ok.v0; have v1 := ok.v1; have k0 := ok.k0; have k1 := ok.k1; have d0 := ok.id0; have d1 := ok.id1
    simp only [] at v0 v1 k0 k1 d0 d1
    have hlang := (lang_len ok.lang).1
    simp only [] at hlang
    have hver : (Lib.itoa ver).length ≤ 4 := by
      have := itoa_le ver.toNat
      rw [Int.toNat_of_nonneg (by omega)] at this; omega
    have hk := kindE_len k0 k1
    have hsz : (bodyE fs).length ≤ 1280000 := hb
    rw [n5 _ (by omega), bindO_some, gd_pos (by simp only [List.length_append, List.length_singleton]; omega), i64_wrap (by omega),
      gd_pos ⟨by omega, by omega, by simp only [List.length_cons, List.length_nil]; omega⟩]
    have ek : List.drop (kind - 1).toNat (List.take kind.toNat ([98, 115, 109, 100] : List UInt8)) = kindE kind := rfl
    rw [ek, gd_pos (by simp only [List.length_append, List.length_singleton]; omega)]
    unfold fItoa
    rw [if_pos ⟨by omega, by omega⟩, bindO_some, gd_pos (by simp only [List.length_append, List.length_singleton]; omega), gd_pos (by simp only [List.length_append, List.length_singleton]; omega),
      n5 _ (by omega), bindO_some, gd_pos (by simp only [List.length_append, List.length_singleton]; omega)]
    have ei : id = ((id.toNat : Nat) : Int) := by omega
    have e4 : F23 id 4 = some (numW id.toNat 4) := by
      have := n4 id.toNat (by omega)
      rwa [← ei] at this
    rw [e4, bindO_some, gd_pos (by simp only [List.length_append, List.length_singleton]; omega), gd_pos (by simp only [List.length_append, List.length_singleton, List.length_cons, List.length_nil]; omega)]
    simp only [gdN_self]
    rw [gd_pos (by simp only [List.length_append, List.length_singleton, List.length_cons, List.length_nil]; omega), gd_pos (by simp only [List.length_append, List.length_singleton, List.length_cons, List.length_nil]; omega),
      gd_pos (by simp only [List.length_append, List.length_singleton, List.length_cons, List.length_nil]; omega), gd_pos (by simp only [List.length_append, List.length_singleton, List.length_cons, List.length_nil]; omega)]
    rfl
  rw [dT (by omega), cond_true, gd_pos ⟨by omega, by omega⟩]
  have hf := hok i hlt
  rw [bodyE_drop hlt] at hB
  rw [dirE_drop _ hlt] at hD
  simp only [toNat_nat]
  have hfl := fieldE_len hf
  have hil : (fs.getD i F00).2.1.length = 2 := by obtain ⟨a, b, e, _⟩ := ind_len hf.ind; rw [e]; rfl
  have htl := (tag_len hf.tag).1
  have hau := numW_le (fs.getD i F00).2.2.2.toNat 4
  have ha0 := hf.lo
  have ha1 := hf.hi
  have hsl := hf.len
  have hsub := subsE_len hf.subs
  have hgs : ∀ k, k < (fs.getD i F00).2.2.1.length → ((fs.getD i F00).2.2.1.getD k (0, [])).2.length ≤ 200 := fun k hk => (errS_zero (hf.subs _ (getD_mem (0, []) hk))).2.2.2
  generalize fs.getD i F00 = f at *
  simp only [gdN_self]
  have ea : F23 f.2.2.2 4 = some (numW f.2.2.2.toNat 4) := by
    have := n4 f.2.2.2.toNat (by omega)
    rwa [Int.toNat_of_nonneg ha0] at this
  rw [ea, bindO_some, gd_pos (by omega), bnd_eq, gd_pos (by simp only [List.length_append]; omega), bnd_eq]
  have hBl := congrArg List.length hB
  simp only [List.length_append] at hBl
  refine loopK_rule (fun p : Int × List UInt8 => ∃ k : Nat, p.1 = k ∧ k ≤ f.2.2.1.length ∧ p.2 ++ subsE (f.2.2.1.drop k) = body ++ (f.2.1 ++ numW f.2.2.2.toNat 4) ++ subsE f.2.2.1) (fun p => f.2.2.1.length - p.1.toNat) ⟨0, rfl, Nat.zero_le _, rfl⟩ rfl ?_
  rintro ⟨_, buf⟩ again2 ⟨k, rfl, hk, hS⟩ hag2
  simp only at hS ⊢
  have hbufl : buf.length ≤ 2000000 := by
    have := congrArg List.length hS
    simp only [List.length_append] at this; omega
  by_cases hkl : k < f.2.2.1.length
  · rw [dT (by omega), cond_true, gd_pos ⟨by omega, by omega⟩]
    simp only [bnd_eq, toNat_nat]
    have h200 := hgs k hkl
    rw [subsE_drop hkl] at hS
    rw [gd_pos (by simp), gd_pos (by simp only [List.length_append, List.length_singleton]; omega), gd_pos (by simp only [List.length_append, List.length_singleton]; omega), i64_wrap (by omega)]
    refine hag2 _ ⟨k + 1, rfl, hkl, ?_⟩ (by simp only [Int.toNat_natCast]; omega)
    rw [← hS]
    simp
  · rw [dF (by omega), cond_false]
    rw [List.drop_eq_nil_of_le (by omega), subsE, List.append_nil] at hS
    have eb : buf ++ [30] = body ++ fieldE f := by rw [hS]; unfold fieldE; simp
    simp only [bnd_eq]
    rw [gd_pos (by simp only [List.length_singleton]; omega), eb]
    have el : (((body ++ fieldE f).length : Nat) : Int) - body.length = ((fieldE f).length : Int) := by rw [List.length_append]; omega
    have w4 := numW_le (fieldE f).length 4
    have w5 := numW_le body.length 5
    rw [el, i64_wrap (by omega), n4 _ (by omega), bindO_some, gd_pos (by omega), n5 _ (by omega), bindO_some, gd_pos (by simp only [List.length_append]; omega), gd_pos (by simp only [List.length_append]; omega), i64_wrap (by omega)]
    refine hag _ ⟨i + 1, rfl, hlt, ?_, ?_⟩ (by simp only [Int.toNat_natCast]; omega)
    · rw [← hB, List.append_assoc]
    · rw [← hD, List.length_append]
      simp only [List.append_assoc]
end Go.Proofs.YtnhjoplleldbfaaDoor
