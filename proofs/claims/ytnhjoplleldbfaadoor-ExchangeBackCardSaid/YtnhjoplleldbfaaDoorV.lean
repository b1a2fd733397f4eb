/-
  The reference's Encode gives the same bytes. No condition beyond what the line says.
-/
import Derived.Test.YtnhjoplleldbfaaDoorU
namespace Go.Proofs.YtnhjoplleldbfaaDoor
open Go Go.Nu
set_option linter.unusedVariables false

theorem f10 (r : Rec) (hs : sizeF r.2.2.2.2) : F10 r = some (encP r) := by
  unfold F10 encP
  rw [f26 r hs, bindO_some]
  by_cases h0 : errR r = 0
  rotate_left
  · rw [dF h0, Bool.not_false, cond_true, if_pos h0]
  rw [dT h0, Bool.not_true, cond_false, if_neg (by simpa using h0)]
  have ok := okR_of h0
  have hb := body_small ok
  have hd := dir_small ok
  have hl := ok.len
  obtain ⟨id, ver, kind, lang, fs⟩ := r
  simp only [] at hs hb hd hl ⊢
  have hok : ∀ i, i < fs.length → OkF (fs.getD i F00) := fun i hi => okF_of (ok.fields _ (getD_mem F00 hi))
  refine loopK_rule (fun p : List UInt8 × List UInt8 × Int => ∃ i : Nat, p.2.2 = i ∧ i ≤ fs.length ∧ p.2.1 ++ bodyE (fs.drop i) = bodyE fs ∧ p.1 ++ dirE p.2.1.length (fs.drop i) = dirE 0 fs) (fun p => fs.length - p.2.2.toNat) ⟨0, rfl, Nat.zero_le _, rfl, rfl⟩ rfl ?_
  rintro ⟨dir, body, _⟩ again ⟨i, rfl, hi, hB, hD⟩ hag
  simp only at hB hD ⊢
  have hbl : body.length ≤ 1280000 := by
    have := congrArg List.length hB
    rw [List.length_append] at this; omega
  have hdl : dir.length ≤ 83840000 := by
    have := congrArg List.length hD
    rw [List.length_append] at this; omega
  unfold big
  by_cases hlt : i < fs.length
  rotate_left
  · rw [dF (by omega), cond_false]
    rw [List.drop_eq_nil_of_le (by omega)] at hB hD
    simp only [bodyE, dirE, List.append_nil] at hB hD
    subst hB hD
    simp only [bnd_eq]
    rw [i64_wrap (n := (24 : Int) + (dirE 0 fs).length) (by omega), i64_wrap (n := (24 : Int) + (dirE 0 fs).length + 1) (by omega), i64_wrap (n := (24 : Int) + (dirE 0 fs).length + 1 + (bodyE fs).length) (by omega), i64_wrap (n := (24 : Int) + (dirE 0 fs).length + 1 + (bodyE fs).length + 1) (by omega)]
    have e1 : ((24 : Int) + (dirE 0 fs).length + 1) = ((baseE (id, ver, kind, lang, fs) : Nat) : Int) := by unfold baseE; simp only []; omega
    have e2 : ((24 : Int) + (dirE 0 fs).length + 1 + (bodyE fs).length + 1) = ((sizeE (id, ver, kind, lang, fs) : Nat) : Int) := by unfold sizeE baseE; simp only []; omega
    rw [e2, e1]
    have hz1 : baseE (id, ver, kind, lang, fs) ≤ 83850000 := by unfold baseE; simp only []; omega
    have hz2 : sizeE (id, ver, kind, lang, fs) ≤ 90000000 := by unfold sizeE baseE; simp only []; omega
    by_cases h9 : 9999 < sizeE (id, ver, kind, lang, fs)
    · rw [dT (by omega), cond_true, if_pos h9]
    rw [dF (by omega), cond_false, if_neg h9]
    have n1 := numW_le (sizeE (id, ver, kind, lang, fs)) 5
    have n2 := numW_le (baseE (id, ver, kind, lang, fs)) 5
    have n3 := numW_le id.toNat 4
    have v0 := ok.v0; have v1 := ok.v1; have k0 := ok.k0; have k1 := ok.k1; have d0 := ok.id0; have d1 := ok.id1
    simp only [] at v0 v1 k0 k1 d0 d1
    have hlang := (lang_len ok.lang).1
    simp only [] at hlang
    have hver : (Lib.itoa ver).length ≤ 4 := by
      have := itoa_le ver.toNat
      rw [Int.toNat_of_nonneg (by omega)] at this; omega
    have hk := kindE_len k0 k1
    have hsz : (bodyE fs).length ≤ 1280000 := hb
    rw [m5 _ (by omega), bindO_some, gd_pos (by simp only [List.length_append, List.length_singleton]; omega), i64_wrap (by omega),
      gd_pos ⟨by omega, by omega, by simp only [List.length_cons, List.length_nil]; omega⟩]
    have ek : List.drop (kind - 1).toNat (List.take kind.toNat ([98, 115, 109, 100] : List UInt8)) = kindE kind := rfl
    rw [ek, gd_pos (by simp only [List.length_append, List.length_singleton]; omega)]
    have e1v : F27 ver 1 = some (Lib.itoa ver) := by
      have := m1 ver.toNat (by omega)
      rw [numW_one (by omega)] at this
      rwa [Int.toNat_of_nonneg (by omega)] at this
    rw [e1v, bindO_some, gd_pos (by simp only [List.length_append, List.length_singleton]; omega), gd_pos (by simp only [List.length_append, List.length_singleton]; omega),
      m5 _ (by omega), bindO_some, gd_pos (by simp only [List.length_append, List.length_singleton]; omega)]
    have ei : id = ((id.toNat : Nat) : Int) := by omega
    have e4 : F27 id 4 = some (numW id.toNat 4) := by
      have := m4 id.toNat (by omega)
      rwa [← ei] at this
    rw [e4, bindO_some, gd_pos (by simp only [List.length_append, List.length_singleton]; omega), gd_pos (by simp only [List.length_append, List.length_singleton, List.length_cons, List.length_nil]; omega)]
    rw [gd_pos (by simp only [List.length_append, List.length_singleton, List.length_cons, List.length_nil]; omega), gd_pos (by simp only [List.length_append, List.length_singleton, List.length_cons, List.length_nil]; omega),
      gd_pos (by simp only [List.length_append, List.length_singleton, List.length_cons, List.length_nil]; omega), gd_pos (by simp only [List.length_append, List.length_singleton, List.length_cons, List.length_nil]; omega)]
    rfl
  rw [dT (by omega), cond_true, gd_pos ⟨by omega, by omega⟩]
  have hf := hok i hlt
  rw [bodyE_drop hlt] at hB
  rw [dirE_drop _ hlt] at hD
  simp only [toNat_nat]
  have hfl := fieldE_len hf
  have hil : (fs.getD i F00).2.1.length = 2 := by obtain ⟨a, b, e, _⟩ := ind_len hf.ind; rw [e]; rfl
  have htl := (tag_len hf.tag).1
  have hau := numW_le (fs.getD i F00).2.2.2.toNat 4
  have ha0 := hf.lo
  have ha1 := hf.hi
  have hsl := hf.len
  have hsub := subsE_len hf.subs
  have hgs : ∀ k, k < (fs.getD i F00).2.2.1.length → ((fs.getD i F00).2.2.1.getD k (0, [])).2.length ≤ 200 := fun k hk => (errS_zero (hf.subs _ (getD_mem (0, []) hk))).2.2.2
  generalize fs.getD i F00 = f at *
  have ea : F27 f.2.2.2 4 = some (numW f.2.2.2.toNat 4) := by
    have := m4 f.2.2.2.toNat (by omega)
    rwa [Int.toNat_of_nonneg ha0] at this
  rw [ea, bindO_some, gd_pos (by omega), bnd_eq]
  have hBl := congrArg List.length hB
  simp only [List.length_append] at hBl
  refine loopK_rule (fun p : List UInt8 × Int => ∃ k : Nat, p.2 = k ∧ k ≤ f.2.2.1.length ∧ p.1 ++ subsE (f.2.2.1.drop k) = f.2.1 ++ numW f.2.2.2.toNat 4 ++ subsE f.2.2.1) (fun p => f.2.2.1.length - p.2.toNat) ⟨0, rfl, Nat.zero_le _, rfl⟩ rfl ?_
  rintro ⟨buf, _⟩ again2 ⟨k, rfl, hk, hS⟩ hag2
  simp only at hS ⊢
  have hbufl : buf.length ≤ 2000000 := by
    have := congrArg List.length hS
    simp only [List.length_append] at this; omega
  by_cases hkl : k < f.2.2.1.length
  · rw [dT (by omega), cond_true]
    simp only [bnd_eq, toNat_nat]
    have h200 := hgs k hkl
    rw [subsE_drop hkl] at hS
    rw [gd_pos (by simp only [List.length_singleton]; omega), gd_pos ⟨by omega, by omega⟩, gd_pos (by simp only [List.length_append, List.length_singleton]; omega), gd_pos ⟨by omega, by omega⟩,
      gd_pos (by simp only [List.length_append, List.length_singleton]; omega), i64_wrap (by omega)]
    refine hag2 _ ⟨k + 1, rfl, hkl, ?_⟩ (by simp only [Int.toNat_natCast]; omega)
    rw [← hS]
    simp
  · rw [dF (by omega), cond_false]
    rw [List.drop_eq_nil_of_le (by omega), subsE, List.append_nil] at hS
    have eb : buf ++ [30] = fieldE f := by rw [hS]; unfold fieldE; simp
    simp only [bnd_eq]
    rw [gd_pos (by simp only [List.length_singleton]; omega), eb]
    have w4 := numW_le (fieldE f).length 4
    have w5 := numW_le body.length 5
    rw [gd_pos (by omega), m4 _ (by omega), bindO_some, gd_pos (by simp only [List.length_append]; omega), m5 _ (by omega), bindO_some, gd_pos (by simp only [List.length_append]; omega), gd_pos (by omega), i64_wrap (by omega)]
    refine hag _ ⟨i + 1, rfl, hlt, ?_, ?_⟩ (by simp only [Int.toNat_natCast]; omega)
    · rw [← hB, List.append_assoc]
    · rw [← hD, List.length_append]
      simp only [List.append_assoc]
end Go.Proofs.YtnhjoplleldbfaaDoor
