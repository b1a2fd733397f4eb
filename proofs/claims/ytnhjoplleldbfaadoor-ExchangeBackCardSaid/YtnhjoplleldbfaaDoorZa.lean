/-
  Chapter 10: Decode, Split and Import of what was written; the law on them. No condition beyond what each line says.
-/
import Derived.Test.YtnhjoplleldbfaaDoorZ
namespace Go.Proofs.YtnhjoplleldbfaaDoor
open Go Go.Nu

/-- An entry of the directory; the directory; a record's head. -/
def entryE (s : Nat) (f : Field) : List UInt8 := f.1 ++ (numX (fieldE f).length 4 ++ numX s 5)
def dirX : Nat → List Field → List UInt8
  | _, [] => []
  | s, f :: l => entryE s f ++ dirX (s + (fieldE f).length) l
def headE (r : Rec) : List UInt8 :=
  numX (sizeE r) 5 ++ ([110] ++ (kindE r.2.2.1 ++ (numX r.2.1.toNat 1 ++ (r.2.2.2.1 ++ (numX (baseE r) 5 ++ (numX r.1.toNat 4 ++ [52, 53, 48, 48]))))))

theorem tagF_len {f : Field} (h : OkF f) : f.1.length = 3 := by
  have := h.tag
  unfold tagB at this
  rw [Bool.and_eq_true] at this
  exact of_decide_eq_true this.1
theorem entry_len {s : Nat} {f : Field} (h : OkF f) : (entryE s f).length = 12 := by
  unfold entryE
  simp only [List.length_append, numX_len, tagF_len h]
theorem dirX_len : ∀ (l : List Field) (s : Nat), (∀ f ∈ l, errF f = 0) → (dirX s l).length = 12 * l.length
  | [], _, _ => rfl
  | f :: l, s, h => by
    have := dirX_len l (s + (fieldE f).length) fun x hx => h x (List.mem_cons_of_mem _ hx)
    simp only [dirX, List.length_append, List.length_cons, entry_len (okF_of (h f (by simp))), this]
    omega
theorem dirE_X : ∀ (l : List Field) (s : Nat), s + (bodyE l).length ≤ 9999 → dirE s l = dirX s l
  | [], _, _ => rfl
  | f :: l, s, h => by
    simp only [bodyE, List.length_append] at h
    rw [dirE, dirX, dirE_X l _ (by omega), numW4 (by omega), numW5 (by omega), entryE]
    simp only [List.append_assoc]
theorem bodyE_app : ∀ a b : List Field, bodyE (a ++ b) = bodyE a ++ bodyE b
  | [], _ => rfl
  | f :: a, b => by simp only [List.cons_append, bodyE, bodyE_app a b, List.append_assoc]
theorem dirX_app : ∀ (a b : List Field) (s : Nat), dirX s (a ++ b) = dirX s a ++ dirX (s + (bodyE a).length) b
  | [], _, _ => rfl
  | f :: a, b, s => by
    simp only [List.cons_append, dirX, dirX_app a b, bodyE, List.length_append, List.append_assoc, Nat.add_assoc]

/-- What is known of a record that is written. -/
structure Good (r : Rec) : Prop where
  ok : OkR r
  size : sizeE r ≤ 9999
  base : baseE r = 25 + 12 * r.2.2.2.2.length
  body : (bodyE r.2.2.2.2).length ≤ 9999
  head : (headE r).length = 24
  eq : recE r = headE r ++ (dirX 0 r.2.2.2.2 ++ ([30] ++ (bodyE r.2.2.2.2 ++ [29])))
  len : (recE r).length = sizeE r
theorem good_of {r : Rec} (h : OkR r) (hz : sizeE r ≤ 9999) : Good r := by
  have hbl : (bodyE r.2.2.2.2).length ≤ 9999 := by unfold sizeE at hz; omega
  have hd := dirE_X r.2.2.2.2 0 (by omega)
  have hdl := dirX_len r.2.2.2.2 0 h.fields
  have hb : baseE r = 25 + 12 * r.2.2.2.2.length := by unfold baseE; rw [hd, hdl]; omega
  have hb2 : baseE r ≤ 9999 := by unfold sizeE at hz; omega
  have hv0 := h.v0; have hv1 := h.v1; have hi0 := h.id0; have hi1 := h.id1
  have hk := kindE_len h.k0 h.k1
  have hll := (lang_len h.lang).1
  have hh : (headE r).length = 24 := by
    unfold headE
    simp only [List.length_append, numX_len, hk, hll, List.length_cons, List.length_nil]
  have he : recE r = headE r ++ (dirX 0 r.2.2.2.2 ++ ([30] ++ (bodyE r.2.2.2.2 ++ [29]))) := by
    unfold recE headE
    rw [numW5 (by omega), numW5 (by omega), numW4 (by omega), hd, ← numW_one (by omega : (0 : Int) ≤ r.2.1), numW1 (by omega)]
    simp only [List.append_assoc]
  refine ⟨h, hz, hb, hbl, hh, he, ?_⟩
  rw [he]
  simp only [List.length_append, hh, hdl, List.length_cons, List.length_nil]
  unfold sizeE
  omega

theorem getAt {a c : List UInt8} {x : UInt8} {i : Nat} (ha : a.length = i) : List.getD (a ++ ([x] ++ c)) i 0 = x := by
  subst ha
  rw [List.getD_eq_getElem?_getD, List.getElem?_append_right (Nat.le_refl _), Nat.sub_self]
  rfl
theorem kind_byte {k : Int} (h0 : 1 ≤ k) (h1 : k ≤ 4) : ∃ x, kindE k = [x] ∧ Lib.indexByte [98, 115, 109, 100] x = k - 1 := by
  rcases (by omega : k = 1 ∨ k = 2 ∨ k = 3 ∨ k = 4) with rfl | rfl | rfl | rfl
  · exact ⟨98, rfl, rfl⟩
  · exact ⟨115, rfl, rfl⟩
  · exact ⟨109, rfl, rfl⟩
  · exact ⟨100, rfl, rfl⟩
theorem split3 {α : Type} {l : List α} {i : Nat} (d : α) (h : i < l.length) : l = l.take i ++ (l.getD i d :: l.drop (i + 1)) := by
  rw [← drop_getD d h, List.take_append_drop]

theorem f32 {r : Rec} (g : Good r) : F32 (recE r) = some (some r) := by
  obtain ⟨id, ver, kind, lang, fl⟩ := r
  have h := g.ok
  have hv0 := h.v0; have hv1 := h.v1; have hi0 := h.id0; have hi1 := h.id1; have hk0 := h.k0; have hk1 := h.k1; have hfl := h.len; have hff := h.fields
  have hll := (lang_len h.lang).1
  have hz := g.size; have hB := g.base; have hbl := g.body; have hH := g.head; have hE := g.eq; have hL := g.len
  obtain ⟨kb, hkb, hki⟩ := kind_byte hk0 hk1
  simp only at hv0 hv1 hi0 hi1 hk0 hk1 hfl hff hll hbl hkb hki hB hE
  have hdl := dirX_len fl 0 hff
  generalize hs : recE (id, ver, kind, lang, fl) = s at *
  have hB9 : baseE (id, ver, kind, lang, fl) ≤ 9999 := by unfold sizeE at hz; omega
  -- the head
  have hHe : headE (id, ver, kind, lang, fl) = numX (sizeE (id, ver, kind, lang, fl)) 5 ++ ([110] ++ ([kb] ++ (numX ver.toNat 1 ++ (lang ++ (numX (baseE (id, ver, kind, lang, fl)) 5 ++ (numX id.toNat 4 ++ [52, 53, 48, 48])))))) := by
    unfold headE
    simp only
    rw [hkb]
  generalize hHd : headE (id, ver, kind, lang, fl) = H at *
  generalize sizeE (id, ver, kind, lang, fl) = Z at *
  generalize hBd : baseE (id, ver, kind, lang, fl) = B at *
  have c0 : F30 s (0 : Int) (24 : Int) = some (some H) := cutAt (i := 0) (n := 24) (a := []) (by rw [hE]; rfl) rfl hH (by omega)
  have x1 := numX_len 5 Z
  have x2 := numX_len 1 ver.toNat
  have x3 := numX_len 5 B
  have x4 := numX_len 4 id.toNat
  have e1 : List.drop (Int.toNat (16 : Int)) (List.take (Int.toNat (20 : Int)) H) = numX id.toNat 4 := by
    have : H = (numX Z 5 ++ [110] ++ [kb] ++ numX ver.toNat 1 ++ lang ++ numX B 5) ++ (numX id.toNat 4 ++ [52, 53, 48, 48]) := by rw [hHe]; simp only [List.append_assoc]
    rw [this]
    exact seg 16 4 (by simp only [List.length_append, List.length_singleton]; omega) x4
  have e2 : List.drop (Int.toNat (7 : Int)) (List.take (Int.toNat (8 : Int)) H) = numX ver.toNat 1 := by
    have : H = (numX Z 5 ++ [110] ++ [kb]) ++ (numX ver.toNat 1 ++ (lang ++ (numX B 5 ++ (numX id.toNat 4 ++ [52, 53, 48, 48])))) := by rw [hHe]; simp only [List.append_assoc]
    rw [this]
    exact seg 7 1 (by simp only [List.length_append, List.length_singleton]; omega) x2
  have e3 : List.getD H (Int.toNat (6 : Int)) 0 = kb := by
    have : H = (numX Z 5 ++ [110]) ++ ([kb] ++ (numX ver.toNat 1 ++ (lang ++ (numX B 5 ++ (numX id.toNat 4 ++ [52, 53, 48, 48]))))) := by rw [hHe]; simp only [List.append_assoc]
    rw [this]
    exact getAt (i := 6) (by simp only [List.length_append, List.length_singleton]; omega)
  have e4 : List.drop (Int.toNat (8 : Int)) (List.take (Int.toNat (11 : Int)) H) = lang := by
    have : H = (numX Z 5 ++ [110] ++ [kb] ++ numX ver.toNat 1) ++ (lang ++ (numX B 5 ++ (numX id.toNat 4 ++ [52, 53, 48, 48]))) := by rw [hHe]; simp only [List.append_assoc]
    rw [this]
    exact seg 8 3 (by simp only [List.length_append, List.length_singleton]; omega) hll
  have e5 : List.drop (Int.toNat (11 : Int)) (List.take (Int.toNat (16 : Int)) H) = numX B 5 := by
    have : H = (numX Z 5 ++ [110] ++ [kb] ++ numX ver.toNat 1 ++ lang) ++ (numX B 5 ++ (numX id.toNat 4 ++ [52, 53, 48, 48])) := by rw [hHe]; simp only [List.append_assoc]
    rw [this]
    exact seg 11 5 (by simp only [List.length_append, List.length_singleton]; omega) x3
  have n1 : F29 (numX id.toNat 4) = some (some id) := by rw [f29X _ 4 (by rw [show (10 : Nat) ^ 4 = 10000 by decide]; omega) (by omega), Int.toNat_of_nonneg hi0]
  have n2 : F29 (numX ver.toNat 1) = some (some ver) := by rw [f29X _ 1 (by rw [show (10 : Nat) ^ 1 = 10 by decide]; omega) (by omega), Int.toNat_of_nonneg (by omega)]
  have n3 : F29 (numX B 5) = some (some (B : Int)) := f29X _ 5 (by rw [show (10 : Nat) ^ 5 = 100000 by decide]; omega) (by omega)
  have hlH : (H.length : Int) = 24 := by omega
  unfold F32
  rw [c0, caseO_some]
  simp only [e1, e2, e3, e4, e5, hlH]
  rw [gd_pos (by decide), bnd_eq, n1, caseO_some, gd_pos (by decide), bnd_eq, n2, caseO_some, gd_pos (by decide)]
  unfold fIdxB
  rw [bindO_some, hki, bnd_eq, i64_wrap (by omega), gd_pos (by decide), bnd_eq, gd_pos (by decide), bnd_eq, n3, caseO_some]
  rw [show ∀ x : Option (Option Rec), gdN 0 ([] : List Field).length x = x from fun x => gdN_self]
  refine loopK_rule (fun p : Int × Rec => ∃ i : Nat, p.1 = ((24 + 12 * i : Nat) : Int) ∧ i ≤ fl.length ∧ p.2 = (id, ver, kind, lang, fl.take i)) (fun p => 24 + 12 * fl.length - p.1.toNat) ⟨0, rfl, by omega, by simp⟩ rfl ?_
  rintro ⟨_, _⟩ again ⟨i, rfl, hi, rfl⟩ hag
  simp only [gdN_self]
  rw [bnd_eq, i64_wrap (by omega)]
  by_cases hlt : i < fl.length
  · rw [dT (by omega), cond_true]
    have hsp := split3 F00 hlt
    have hf := hff _ (getD_mem F00 hlt)
    have htl : fl.take (i + 1) = fl.take i ++ [fl.getD i F00] := take_succ' F00 hlt
    generalize hfd : fl.getD i F00 = f at *
    generalize hpre : fl.take i = pre at *
    generalize fl.drop (i + 1) = post at *
    have hpl : pre.length = i := by rw [← hpre, List.length_take]; omega
    have hok := okF_of hf
    have ht := tagF_len hok
    have hdp := dirX_len pre 0 (fun x hx => hff x (by rw [hsp]; exact List.mem_append_left _ hx))
    have hbd : bodyE fl = bodyE pre ++ (fieldE f ++ bodyE post) := by rw [hsp, bodyE_app]; rfl
    have hbd2 := congrArg List.length hbd
    simp only [List.length_append] at hbd2
    have hdd : dirX 0 fl = dirX 0 pre ++ (entryE (bodyE pre).length f ++ dirX ((bodyE pre).length + (fieldE f).length) post) := by
      rw [hsp, dirX_app, Nat.zero_add]; rfl
    have k1 : F30 s ((24 + 12 * i : Nat) : Int) (12 : Int) = some (some (entryE (bodyE pre).length f)) := by
      refine cutAt (i := 24 + 12 * i) (n := 12) (a := H ++ dirX 0 pre) (c := dirX ((bodyE pre).length + (fieldE f).length) post ++ ([30] ++ (bodyE fl ++ [29]))) ?_ ?_ (entry_len hok) (by omega)
      · rw [hE, hdd]; simp only [List.append_assoc]
      · rw [List.length_append, hH, hdp, hpl]
    have m1 := numX_len 4 (fieldE f).length
    have m2 := numX_len 5 (bodyE pre).length
    have t1 : List.take (Int.toNat (3 : Int)) (entryE (bodyE pre).length f) = f.1 := List.take_left' ht
    have t2 : List.drop (Int.toNat (7 : Int)) (entryE (bodyE pre).length f) = numX (bodyE pre).length 5 := by
      unfold entryE
      rw [← List.append_assoc]
      exact List.drop_left' (by rw [List.length_append, ht, m1]; rfl)
    have t3 : List.drop (Int.toNat (3 : Int)) (List.take (Int.toNat (7 : Int)) (entryE (bodyE pre).length f)) = numX (fieldE f).length 4 := seg 3 4 ht m1
    have hel : ((entryE (bodyE pre).length f).length : Int) = 12 := by rw [entry_len hok]; rfl
    have q1 : F29 (numX (bodyE pre).length 5) = some (some ((bodyE pre).length : Int)) := f29X _ 5 (by rw [show (10 : Nat) ^ 5 = 100000 by decide]; omega) (by omega)
    have q2 : F29 (numX (fieldE f).length 4) = some (some ((fieldE f).length : Int)) := f29X _ 4 (by rw [show (10 : Nat) ^ 4 = 10000 by decide]; omega) (by omega)
    have k2 : F30 s ((B : Int) + ((bodyE pre).length : Int)) ((fieldE f).length : Int) = some (some (fieldE f)) := by
      have := cutAt (i := B + (bodyE pre).length) (n := (fieldE f).length) (s := s) (a := H ++ (dirX 0 fl ++ ([30] ++ bodyE pre))) (b := fieldE f) (c := bodyE post ++ [29]) (by rw [hE, hbd]; simp only [List.append_assoc]) (by simp only [List.length_append, List.length_singleton, hH, hdl]; omega) rfl (by omega)
      rwa [Int.natCast_add] at this
    rw [k1, caseO_some]
    simp only [t1, t2, t3, hel]
    rw [gd_pos (by decide), bnd_eq, gd_pos (by decide), bnd_eq, q1, caseO_some, bnd_eq, i64_wrap (by omega), gd_pos (by decide), bnd_eq, q2, caseO_some, k2, caseO_some, f41 hok, caseO_some]
    unfold big
    rw [gd_pos (by rw [hpl]; simp only [List.length_singleton]; omega), bnd_eq, bnd_eq]
    exact hag _ ⟨i + 1, by omega, by omega, by rw [htl]⟩ (by simp only; omega)
  · rw [dF (by omega), cond_false, List.take_of_length_le (by omega)]

theorem small_of {r : Rec} (h : OkR r) : SmallR r := by
  intro f hf s hs
  have := (errS_zero ((okF_of (h.fields f hf)).subs s hs)).2.2.2
  omega
theorem enc_good {r : Rec} (g : Good r) : encP r = (recE r, 0) := by
  unfold encP
  rw [if_neg (by rw [errR_of g.ok]; simp), if_neg (by have := g.size; omega)]
theorem f13 {r : Rec} (g : Good r) : F13 (recE r) = some (r, 0) := by
  unfold F13
  rw [f32 g, caseO_some, f9 r (small_of g.ok), bindO_some, enc_good g, dT rfl, Bool.not_true, cond_false, dT rfl, Bool.not_true, cond_false]

theorem rec_first {r : Rec} (g : Good r) (c : List UInt8) : recE r ++ c = [] ++ (numX (sizeE r) 5 ++ ((recE r).drop 5 ++ c)) := by
  have : recE r = numX (sizeE r) 5 ++ (recE r).drop 5 := by
    have h5 := numX_len 5 (sizeE r)
    conv => lhs; rw [g.eq]
    conv => rhs; rw [g.eq]
    unfold headE
    simp only [List.append_assoc]
    rw [List.drop_left' h5]
  conv => lhs; rw [this]
  simp only [List.append_assoc, List.nil_append]
theorem rec_cut5 {r : Rec} (g : Good r) (c : List UInt8) (hl : (recE r ++ c).length ≤ 1000000000) : F30 (recE r ++ c) (0 : Int) (5 : Int) = some (some (numX (sizeE r) 5)) := by
  have e := rec_first g c
  have hx5 := numX_len 5 (sizeE r)
  generalize recE r ++ c = s at *
  generalize numX (sizeE r) 5 = b at *
  exact cutAt (i := 0) (n := 5) e rfl hx5 hl
theorem rec_cutN {s c : List UInt8} {n : Nat} (h : s.length = n) (hl : (s ++ c).length ≤ 1000000000) : F30 (s ++ c) (0 : Int) (n : Int) = some (some s) :=
  cutAt (i := 0) (n := n) (a := []) rfl rfl h hl
theorem cat_len : ∀ l : List Rec, (∀ r ∈ l, Good r) → (l.flatMap recE).length ≤ 9999 * l.length
  | [], _ => by simp
  | r :: l, h => by
    have := cat_len l fun x hx => h x (List.mem_cons_of_mem _ hx)
    have g := h r (by simp)
    rw [List.flatMap_cons, List.length_append, g.len, List.length_cons]
    have := g.size
    omega
theorem f11 (l : List Rec) (h : ∀ r ∈ l, Good r) (hl : l.length ≤ 64) : F11 (l.flatMap recE) = some (l.map recE, 0) := by
  unfold F11
  rw [show ∀ x : Option (List (List UInt8) × Int), gdN 0 ([] : List (List UInt8)).length x = x from fun x => gdN_self]
  refine loopK_rule (fun p : List UInt8 × List (List UInt8) => ∃ i : Nat, i ≤ l.length ∧ p = ((l.drop i).flatMap recE, (l.take i).map recE)) (fun p => p.1.length) ⟨0, by omega, by simp⟩ rfl ?_
  rintro _ again ⟨i, hi, rfl⟩ hag
  simp only [gdN_self]
  by_cases hlt : i < l.length
  · have g := h _ (getD_mem R00 hlt)
    have hd := drop_getD R00 hlt
    have htl := take_succ' R00 hlt
    have hcl := cat_len (l.drop (i + 1)) fun r hr => h r (List.mem_of_mem_drop hr)
    have hdl : (l.drop (i + 1)).length ≤ 64 := by rw [List.length_drop]; omega
    generalize l.getD i R00 = r at *
    rw [hd, List.flatMap_cons]
    generalize hc : (l.drop (i + 1)).flatMap recE = c at *
    have hz := g.size
    have hrl := g.len
    have hb : 25 ≤ baseE r := by rw [g.base]; omega
    have hz2 : 26 ≤ sizeE r := by unfold sizeE; omega
    have hne : recE r ++ c ≠ [] := by
      intro e
      have := congrArg List.length e
      simp only [List.length_append, List.length_nil] at this
      omega
    rw [dF hne, Bool.not_false, cond_true]
    have hcl2 : (recE r ++ c).length ≤ 1000000000 := by rw [List.length_append]; omega
    have k1 : F30 (recE r ++ c) (0 : Int) (5 : Int) = some (some (numX (sizeE r) 5)) := rec_cut5 g c hcl2
    have k2 : F30 (recE r ++ c) (0 : Int) (sizeE r : Int) = some (some (recE r)) := rec_cutN hrl hcl2
    rw [k1, caseO_some, f29X _ 5 (by rw [show (10 : Nat) ^ 5 = 100000 by decide]; omega) (by omega), caseO_some, dF (by omega), cond_false, k2, caseO_some]
    have htk : (l.take i).length ≤ 64 := by rw [List.length_take]; omega
    unfold big
    rw [gd_pos (by simp only [List.length_map, List.length_singleton]; omega), bnd_eq, gd_pos ⟨by omega, by rw [List.length_append]; omega⟩, bnd_eq, Int.toNat_natCast, List.drop_left' hrl]
    refine hag _ ⟨i + 1, by omega, ?_⟩ ?_
    · rw [hc, htl, List.map_append]
      rfl
    · show c.length < ((l.drop i).flatMap recE).length
      rw [hd, List.flatMap_cons, List.length_append, hc]
      omega
  · rw [List.drop_eq_nil_of_le (by omega), List.take_of_length_le (by omega), List.flatMap_nil]
    rw [dT rfl, Bool.not_true, cond_false]

theorem f18 (l : List Rec) (h : ∀ r ∈ l, Good r) (hl : l.length ≤ 64) : F18 (l.flatMap recE) = some (l, (-1 : Int), (0 : Int)) := by
  unfold F18
  rw [jn_eq]
  rw [f11 l h hl, bindO_some]
  dsimp only
  rw [dT rfl, Bool.not_true, cond_false, dF (by rw [List.length_map]; omega), cond_false, gdN_self]
  refine loopK_rule (fun p : List Rec × Int => ∃ i : Nat, p = (l.take i, (i : Int)) ∧ i ≤ l.length) (fun p => l.length - p.2.toNat) ⟨0, by simp, by omega⟩ rfl ?_
  rintro _ again ⟨i, rfl, hi⟩ hag
  simp only [gdN_self, List.length_map]
  by_cases hlt : i < l.length
  · have g := h _ (getD_mem R00 hlt)
    have htl := take_succ' R00 hlt
    have hgd : List.getD (l.map recE) (Int.toNat (i : Int)) [] = recE (l.getD i R00) := by
      rw [Int.toNat_natCast, List.getD_eq_getElem?_getD, List.getElem?_map, List.getElem?_eq_getElem hlt, List.getD_eq_getElem?_getD, List.getElem?_eq_getElem hlt]
      rfl
    rw [dT (by omega), cond_true, gd_pos ⟨by omega, by omega⟩, hgd]
    generalize l.getD i R00 = r at *
    rw [f13 g, bindO_some, dT rfl, Bool.not_true, cond_false]
    have htk : (l.take i).length ≤ 64 := by rw [List.length_take]; omega
    unfold big
    rw [gd_pos (by simp only [List.length_singleton]; omega), bnd_eq, bnd_eq, i64_wrap (by omega)]
    exact hag _ ⟨i + 1, by rw [htl]; rfl, by omega⟩ (by simp only [toNat1, Int.toNat_natCast]; omega)
  · rw [dF (by omega), cond_false, List.take_of_length_le (by omega)]

/-! ### sameness -/
theorem f42 (f : Field) (hf : f.2.2.1.length ≤ 1000) : F42 f f = some true := by
  unfold F42
  rw [dT rfl, Bool.not_true, cond_false, dT rfl, Bool.not_true, cond_false, dT rfl, Bool.not_true, cond_false, dT rfl, Bool.not_true, cond_false]
  refine loopK_rule (fun p : Int => ∃ i : Nat, p = i ∧ i ≤ f.2.2.1.length) (fun p => f.2.2.1.length - p.toNat) ⟨0, rfl, by omega⟩ rfl ?_
  rintro _ again ⟨i, rfl, hi⟩ hag
  by_cases hlt : i < f.2.2.1.length
  · rw [dT (by omega), cond_true, gd_pos ⟨by omega, by omega⟩, gd_pos ⟨by omega, by omega⟩, dT rfl, dT rfl, bnd_eq, i64_wrap (by omega)]
    exact hag _ ⟨i + 1, rfl, by omega⟩ (by simp only [toNat1, Int.toNat_natCast]; omega)
  · rw [dF (by omega), cond_false]
theorem f33 (l : List Field) (hl : l.length ≤ 64) (hf : ∀ f ∈ l, f.2.2.1.length ≤ 1000) : F33 l l = some true := by
  unfold F33
  rw [dT rfl, Bool.not_true, cond_false]
  refine loopK_rule (fun p : Int => ∃ i : Nat, p = i ∧ i ≤ l.length) (fun p => l.length - p.toNat) ⟨0, rfl, by omega⟩ rfl ?_
  rintro _ again ⟨i, rfl, hi⟩ hag
  by_cases hlt : i < l.length
  · rw [dT (by omega), cond_true, gd_pos ⟨by omega, by omega⟩, gd_pos ⟨by omega, by omega⟩, toNat_nat, f42 _ (hf _ (getD_mem F00 hlt)), bindO_some, Bool.not_true, cond_false, bnd_eq, i64_wrap (by omega)]
    exact hag _ ⟨i + 1, rfl, by omega⟩ (by simp only [toNat1, Int.toNat_natCast]; omega)
  · rw [dF (by omega), cond_false]
theorem f17 {r : Rec} (h : OkR r) : F17 r r = some true := by
  unfold F17
  rw [dT rfl, Bool.not_true, cond_false, dT rfl, Bool.not_true, cond_false, dT rfl, Bool.not_true, cond_false, dT rfl, Bool.not_true, cond_false, f33 _ h.len fun f hf => by have := (okF_of (h.fields f hf)).len; omega]
  rfl
theorem f19 (l : List Rec) (hl : l.length ≤ 64) (h : ∀ r ∈ l, Good r) : F19 l l = some true := by
  unfold F19
  rw [dT rfl, Bool.not_true, cond_false]
  refine loopK_rule (fun p : Int => ∃ i : Nat, p = i ∧ i ≤ l.length) (fun p => l.length - p.toNat) ⟨0, rfl, by omega⟩ rfl ?_
  rintro _ again ⟨i, rfl, hi⟩ hag
  by_cases hlt : i < l.length
  · rw [dT (by omega), cond_true, gd_pos ⟨by omega, by omega⟩, gd_pos ⟨by omega, by omega⟩, toNat_nat, f17 (h _ (getD_mem R00 hlt)).ok, bindO_some, Bool.not_true, cond_false, bnd_eq, i64_wrap (by omega)]
    exact hag _ ⟨i + 1, rfl, by omega⟩ (by simp only [toNat1, Int.toNat_natCast]; omega)
  · rw [dF (by omega), cond_false]

/-! ### the law -/
theorem enc_zero {r : Rec} (h : (encP r).2 = 0) : Good r := by
  unfold encP at h
  split at h
  · rename_i h1; exact (h1 h).elim
  · rename_i h1
    split at h
    · cases h
    · rename_i h2
      exact good_of (okR_of (by simpa using h1)) (by omega)
theorem out_zero : ∀ {l : List Rec}, (outE l).2 = 0 → (∀ r ∈ l, Good r) ∧ (outE l).1 = l.flatMap recE
  | [], _ => ⟨fun r hr => by (cases hr), rfl⟩
  | r :: l, h => by
    unfold outE at h ⊢
    by_cases h1 : (encP r).2 = 0
    · rw [if_neg (by simpa using h1)] at h ⊢
      by_cases h2 : (outE l).2 = 0
      · rw [if_neg (by simpa using h2)]
        obtain ⟨q1, q2⟩ := out_zero h2
        have g := enc_zero h1
        refine ⟨fun x hx => ?_, ?_⟩
        · rcases List.mem_cons.1 hx with rfl | hx
          · exact g
          · exact q1 x hx
        · rw [q2, enc_good g, List.flatMap_cons]
      · rw [if_pos h2] at h
        exact absurd h h2
    · rw [if_pos h1] at h
      exact absurd h h1
theorem law6 (l : List Rec) : F6 l = some true := by
  unfold F6
  rw [f7, bindO_some, Bool.not_true, cond_false]
  obtain ⟨b, h1, h2⟩ := f14 l
  rw [h1, bindO_some]
  cases b with
  | false => rfl
  | true =>
    obtain ⟨hl, hs⟩ := h2 rfl
    rw [Bool.not_true, cond_false, f15 l hs, bindO_some]
    by_cases hz : (expP l).2 = 0
    · have hex : (outE l).2 = 0 ∧ (expP l).1 = (outE l).1 := by
        unfold expP at hz ⊢
        rw [if_neg (by omega)] at hz ⊢
        by_cases ho : (outE l).2 = 0
        · rw [if_neg (by simpa using ho)] at hz ⊢
          refine ⟨ho, ?_⟩
          split at hz
          · cases hz
          · rename_i h6; rw [if_neg h6]
        · rw [if_pos ho] at hz
          exact absurd hz ho
      obtain ⟨hg, hc⟩ := out_zero hex.1
      rw [dT hz, Bool.not_true, cond_false, hex.2, hc, f11 l hg (by omega), bindO_some]
      dsimp only
      rw [dT rfl, Bool.not_true, cond_false, List.length_map, dT rfl, Bool.not_true, cond_false]
      refine loopK_rule (fun p : Int => ∃ i : Nat, p = i ∧ i ≤ l.length) (fun p => l.length - p.toNat) ⟨0, rfl, by omega⟩ rfl ?_
      rintro _ again ⟨i, rfl, hi⟩ hag
      by_cases hlt : i < l.length
      · have g := hg _ (getD_mem R00 hlt)
        have hgd : List.getD (l.map recE) (Int.toNat (i : Int)) [] = recE (l.getD i R00) := by
          rw [Int.toNat_natCast, List.getD_eq_getElem?_getD, List.getElem?_map, List.getElem?_eq_getElem hlt, List.getD_eq_getElem?_getD, List.getElem?_eq_getElem hlt]
          rfl
        rw [dT (by omega), cond_true, gd_pos ⟨by omega, by omega⟩, hgd, toNat_nat]
        generalize l.getD i R00 = r at *
        rw [f9 r (small_of g.ok), bindO_some, gd_pos ⟨by omega, by omega⟩, f13 g, bindO_some, enc_good g, dT rfl, Bool.not_true, cond_false, gd_pos ⟨by omega, by omega⟩, dT rfl, Bool.not_true, cond_false, cond_false, gd_pos ⟨by omega, by omega⟩, f17 g.ok, bindO_some, Bool.not_true, cond_false, bnd_eq, i64_wrap (by omega)]
        exact hag _ ⟨i + 1, rfl, by omega⟩ (by simp only [toNat1, Int.toNat_natCast]; omega)
      · rw [dF (by omega), cond_false, f18 l hg (by omega), bindO_some, dT rfl, cond_true, dT rfl, cond_true, f19 l (by omega) hg, bindO_some]
    · have : (expP l).1 = [] := by
        unfold expP at hz ⊢
        split at hz
        · rename_i h; rw [if_pos h]
        · rename_i h
          rw [if_neg h]
          split at hz
          · rename_i h'; rw [if_pos h']
          · rename_i h'
            rw [if_neg h']
            split at hz
            · rename_i h3; rw [if_pos h3]
            · exact absurd rfl hz
      rw [dF hz, Bool.not_false, cond_true, this, dT rfl]
end Go.Proofs.YtnhjoplleldbfaaDoor
