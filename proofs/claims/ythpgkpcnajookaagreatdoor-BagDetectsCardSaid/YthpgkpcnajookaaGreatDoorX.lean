/-
  Chapter 44: packages and manifests, there and back. No condition beyond what each line says.
-/
import Derived.Test.YthpgkpcnajookaaGreatDoorV
import Derived.Test.YthpgkpcnajookaaGreatDoorH2
namespace Go.Proofs.YthpgkpcnajookaaGreatDoor
open Go Go.Nu
set_option linter.unusedVariables false

/-! ### paths -/
theorem path_all {p : List UInt8} (h : pathB p = true) : p.all (fun c => pcB c.toNat || decide (c = 47)) = true := by
  unfold pathB at h
  rw [Bool.and_eq_true] at h
  rw [← segs_all (p := fun c => pcB c.toNat) p.length p (Nat.le_refl _)]
  rw [List.all_eq_true] at h ⊢
  intro t ht
  have := h.2 t ht
  unfold partB at this
  rw [Bool.and_eq_true] at this
  exact this.1
theorem path_no {p : List UInt8} (h : pathB p = true) : (10 : UInt8) ∉ p ∧ (32 : UInt8) ∉ p := ⟨not_mem_of (path_all h) rfl, not_mem_of (path_all h) rfl⟩

/-! ### files that are right -/
theorem rightL_cons (q : Option (List UInt8)) (f : File) (l : List File) : rightL q (f :: l) = if pathB f.1 = false then 3 else if badO q f.1 = true then 7 else if 2000 < f.2.length then 4 else rightL (some f.1) l := rfl
theorem rightL_zero {q : Option (List UInt8)} {f : File} {l : List File} (h : rightL q (f :: l) = 0) : pathB f.1 = true ∧ badO q f.1 = false ∧ f.2.length ≤ 2000 ∧ rightL (some f.1) l = 0 := by
  rw [rightL_cons] at h
  split at h
  · cases h
  · split at h
    · cases h
    · split at h
      · cases h
      · rename_i h1 h2 h3
        exact ⟨by simpa using h1, by simpa using h2, by omega, h⟩
theorem rightL_all : ∀ (l : List File) (q : Option (List UInt8)), rightL q l = 0 → ∀ f ∈ l, pathB f.1 = true ∧ f.2.length ≤ 2000
  | [], _, _, f, hf => by cases hf
  | g :: l, q, h, f, hf => by
    obtain ⟨h1, h2, h3, h4⟩ := rightL_zero h
    rcases List.mem_cons.1 hf with rfl | hf
    · exact ⟨h1, h3⟩
    · exact rightL_all l _ h4 f hf
theorem rightP_zero {l : List File} (h : rightP l = 0) : 1 ≤ l.length ∧ l.length ≤ 16 ∧ rightL none l = 0 := by
  unfold rightP at h
  split at h
  · cases h
  · split at h
    · cases h
    · exact ⟨by omega, by omega, h⟩
theorem right_all {l : List File} (h : rightP l = 0) : ∀ f ∈ l, pathB f.1 = true ∧ f.2.length ≤ 2000 := rightL_all l _ (rightP_zero h).2.2
theorem right_fit {l : List File} (h : rightP l = 0) : Fit l := by
  refine ⟨by have := right_len h; omega, fun f hf => ?_⟩
  obtain ⟨h1, h2⟩ := right_all h f hf
  have := (path_ne h1).2
  exact ⟨by omega, by omega⟩
theorem rightP_of {l : List File} (h1 : 1 ≤ l.length) (h2 : l.length ≤ 16) (h : rightL none l = 0) : rightP l = 0 := by
  unfold rightP
  rw [if_neg (by omega), if_neg (by omega), h]
theorem up_16 : ∀ (q : List (List UInt8)), (∀ s ∈ q, s.length = 16) → ∀ s ∈ up q, s.length = 16
  | [], _, s, h => by rw [up] at h; cases h
  | [a], hs, s, h => by rw [up] at h; exact hs s h
  | a :: b :: l, hs, s, h => by
    rw [up] at h
    rcases List.mem_cons.1 h with rfl | h
    · exact join_len _ _
    · exact up_16 l (fun s h => hs s (List.mem_cons_of_mem _ (List.mem_cons_of_mem _ h))) s h
theorem top_len : ∀ (n : Nat) (q : List (List UInt8)), q.length ≤ n → 1 ≤ q.length → (∀ s ∈ q, s.length = 16) → (top q).length = 16
  | 0, q, h1, h2, _ => by omega
  | n + 1, q, h1, h2, hs => by
    by_cases h : q.length ≤ 1
    · rw [top_one h]
      match q, h2 with
      | s :: _, _ => exact hs s List.mem_cons_self
    · rw [top_up h]
      refine top_len n _ (by rw [up_len]; omega) (by rw [up_len]; omega) ?_
      exact up_16 q hs
theorem root_len {l : List File} (h : 1 ≤ l.length) : (rootP l).length = 16 := by
  unfold rootP root
  rw [if_neg (by rw [List.length_map]; omega)]
  refine top_len _ _ (Nat.le_refl _) (by rw [List.length_map, List.length_map]; exact h) fun s hs => ?_
  obtain ⟨x, _, rfl⟩ := List.mem_map.1 hs
  exact dig_len _

/-! ### packages -/
def sizesOf (l : List File) : List (List UInt8 × Nat) := l.map fun f => (f.1, f.2.length)
theorem dec_no {n : Nat} {c : UInt8} (hc : isD c = false) : c ∉ Lib.decDigits n := not_mem_of (dec_digits n).1 hc
theorem headOf_ent {p : List UInt8} {k : Nat} (hk : k ≤ 2000) : headOf (Lib.decDigits k ++ 32 :: p) = some (p, k) := by
  unfold headOf
  rw [cut_at (dec_no rfl)]
  simp only [if_true]
  rw [num_of (by omega)]
  simp only []
  rw [if_pos hk]
theorem heads_pack : ∀ (l : List File) (r : List UInt8), (∀ f ∈ l, pathB f.1 = true ∧ f.2.length ≤ 2000) → headsP l.length (l.flatMap entF ++ r) = some (sizesOf l, r)
  | [], r, _ => rfl
  | f :: l, r, h => by
    obtain ⟨h1, h2⟩ := h f List.mem_cons_self
    rw [List.length_cons, headsP_succ, List.flatMap_cons]
    have e : entF f ++ l.flatMap entF ++ r = (Lib.decDigits f.2.length ++ 32 :: f.1) ++ 10 :: (l.flatMap entF ++ r) := by unfold entF; simp
    rw [e, cut_at (by
      rw [List.mem_append, List.mem_cons]
      rintro (h | h | h)
      · exact dec_no rfl h
      · cases h
      · exact (path_no h1).1 h)]
    simp only [if_true]
    rw [headOf_ent h2]
    simp only []
    rw [heads_pack l r fun g hg => h g (List.mem_cons_of_mem _ hg)]
    rfl
theorem datas_pack : ∀ (l : List File) (r : List UInt8), datas (sizesOf l) (l.flatMap Prod.snd ++ r) = some (l, r)
  | [], r => rfl
  | f :: l, r => by
    show datas ((f.1, f.2.length) :: sizesOf l) _ = _
    rw [datas_cons, List.flatMap_cons, List.append_assoc]
    rw [if_neg (by simp), List.drop_left, List.take_left, datas_pack l r]
    rfl
theorem open_pack {l : List File} (hn : l.length ≤ 16) (h : ∀ f ∈ l, pathB f.1 = true ∧ f.2.length ≤ 2000) (r : List UInt8) : openP (headP l.length ++ l.flatMap entF ++ r) = some (sizesOf l, r) := by
  have e : headP l.length ++ l.flatMap entF ++ r = [66, 65, 71, 49] ++ 10 :: (Lib.decDigits l.length ++ 10 :: (l.flatMap entF ++ r)) := by unfold headP; simp
  unfold openP
  rw [e, cut_at (by simp)]
  simp only []
  rw [cut_at (dec_no rfl)]
  simp only []
  rw [if_pos ⟨trivial, trivial, trivial⟩, num_of (by omega)]
  simp only []
  rw [if_pos hn, heads_pack l r h]
theorem unpack_any {l l2 : List File} (hn : l.length ≤ 16) (h : ∀ f ∈ l, pathB f.1 = true ∧ f.2.length ≤ 2000) (hs : sizesOf l = sizesOf l2) (t : List UInt8) : unpackP (headP l.length ++ l.flatMap entF ++ (l2.flatMap Prod.snd ++ t)) = finP l2 t := by
  unfold unpackP
  rw [open_pack hn h, Option.bind_some]
  simp only []
  rw [hs, datas_pack]
  rfl
theorem unpack_pack {l : List File} (h : rightP l = 0) : unpackP (packT l) = (l, 0) := by
  unfold packT
  rw [List.append_assoc, unpack_any (right_len h).2 (right_all h) rfl]
  unfold finP
  rw [if_pos ⟨root_len (right_len h).1, h⟩, if_pos rfl]

theorem heads_back : ∀ (n : Nat) (r : List UInt8) (hd : List (List UInt8 × Nat)) (r' : List UInt8), headsP n r = some (hd, r') → hd.length = n ∧ r = hd.flatMap (fun h => Lib.decDigits h.2 ++ 32 :: (h.1 ++ [10])) ++ r'
  | 0, r, hd, r', h => by cases h; exact ⟨rfl, rfl⟩
  | n + 1, r, hd, r', h => by
    rw [headsP_succ] at h
    split at h
    · rename_i h1
      split at h
      · rename_i x hx
        rw [Option.map_eq_some_iff] at h
        obtain ⟨y, hy, e⟩ := h
        cases e
        obtain ⟨i1, i2⟩ := heads_back n _ y.1 y.2 hy
        refine ⟨by rw [List.length_cons, i1], ?_⟩
        have e1 := (cut_true h1).1
        unfold headOf at hx
        split at hx
        · rename_i h2
          have e2 := (cut_true h2).1
          split at hx
          · rename_i k hk
            split at hx
            · cases hx
              rw [(num_dec hk).1] at e2
              rw [List.flatMap_cons]
              simp only []
              conv => lhs; rw [e1, e2, i2]
              simp
            · cases hx
          · cases hx
        · cases hx
      · cases h
    · cases h
theorem datas_back : ∀ (hd : List (List UInt8 × Nat)) (r : List UInt8) (l : List File) (r' : List UInt8), datas hd r = some (l, r') → hd = sizesOf l ∧ r = l.flatMap Prod.snd ++ r'
  | [], r, l, r', h => by cases h; exact ⟨rfl, rfl⟩
  | h0 :: hd, r, l, r', h => by
    rw [datas_cons] at h
    split at h
    · cases h
    · rename_i hlt
      rw [Option.map_eq_some_iff] at h
      obtain ⟨y, hy, e⟩ := h
      cases e
      obtain ⟨i1, i2⟩ := datas_back hd _ y.1 y.2 hy
      refine ⟨?_, ?_⟩
      · show h0 :: hd = (h0.1, (r.take h0.2).length) :: sizesOf y.1
        rw [← i1, List.length_take, Nat.min_eq_left (by omega)]
      · rw [List.flatMap_cons, List.append_assoc, ← i2, List.take_append_drop]
theorem pack_unpack {s : List UInt8} {l : List File} (h : unpackP s = (l, 0)) : rightP l = 0 ∧ packT l = s := by
  unfold unpackP unpackO at h
  split at h
  · rename_i x hx
    rw [Option.bind_eq_some_iff] at hx
    obtain ⟨y, hy, hd⟩ := hx
    unfold finP at h
    split at h
    · rename_i h1
      split at h
      · rename_i h2
        obtain ⟨x1, x2⟩ := x
        cases h
        refine ⟨h1.2, ?_⟩
        obtain ⟨d1, d2⟩ := datas_back _ _ _ _ hd
        unfold openP at hy
        split at hy
        · rename_i h3
          split at hy
          · rename_i n hn
            split at hy
            · obtain ⟨i1, i2⟩ := heads_back _ _ y.1 y.2 hy
              have e1 := (cut_true h3.1).1
              have e2 := (cut_true h3.2.2).1
              rw [(num_dec hn).1, i2, d2, d1] at e2
              rw [h3.2.1, e2] at e1
              rw [e1, ← show x1.length = n by rw [← i1, d1]; exact (List.length_map _).symm]
              simp only [] at h2
              unfold packT headP
              rw [← h2]
              have : (sizesOf x1).flatMap (fun h => Lib.decDigits h.2 ++ 32 :: (h.1 ++ [10])) = x1.flatMap entF := by
                unfold sizesOf
                rw [List.flatMap_map]
                rfl
              rw [this]
              simp
            · cases hy
          · cases hy
        · cases hy
      · cases h
    · cases h
  · cases h
theorem unpack_no {s : List UInt8} (h : (unpackP s).2 ≠ 0) : (unpackP s).1 = [] := by
  unfold unpackP unpackO at h ⊢
  split
  · rename_i x hx
    rw [hx] at h
    unfold finP at h ⊢
    simp only [] at h
    split
    · rename_i h1
      rw [if_pos h1] at h
      split
      · rename_i h2
        rw [if_pos h2] at h
        exact absurd rfl h
      · rfl
    · rfl
  · rfl

/-! ### manifests -/
def entM (l : List File) : List File := l.map fun f => (dig f.2, f.1)
theorem ents_man (l : List File) : ∀ (k : Nat) (last : List UInt8) (q : Option (List UInt8)), (q = some last ∨ (q = none ∧ last = [])) → rightL q l = 0 → (l.flatMap manF).length < k → entsG k (l.flatMap manF) last = some (entM l) := by
  induction l with
  | nil =>
    intro k last q _ _ hk
    obtain ⟨k, rfl⟩ : ∃ k', k = k' + 1 := ⟨k - 1, by omega⟩
    rw [List.flatMap_nil, entsG_step, if_pos rfl]; rfl
  | cons f l ih =>
    intro k last q hq hr hk
    obtain ⟨k, rfl⟩ : ∃ k', k = k' + 1 := ⟨k - 1, by omega⟩
    obtain ⟨h1, h2, h3, h4⟩ := rightL_zero hr
    have hd := isDig_no (dig_isDig f.2)
    have e : (f :: l).flatMap manF = (dig f.2 ++ 32 :: f.1) ++ 10 :: l.flatMap manF := by rw [List.flatMap_cons]; unfold manF; simp
    rw [e] at hk ⊢
    rw [entsG_step, if_neg (by simp), cut_at (by
      rw [List.mem_append, List.mem_cons]
      rintro (h | h | h)
      · exact hd.2.2 h
      · cases h
      · exact (path_no h1).1 h)]
    simp only []
    rw [cut_at hd.2.1]
    simp only []
    have hb : (Op.bytesLess f.1 last || decide (f.1 = last)) = false := by
      rcases hq with rfl | ⟨rfl, rfl⟩
      · exact h2
      · exact less_nil (path_ne h1).1
    rw [if_neg (by rw [dig_isDig, h1, hb]; simp), ih k f.1 (some f.1) (.inl rfl) h4 (by rw [List.length_append, List.length_cons] at hk; omega)]
    rfl
theorem entsP_man {l : List File} (h : rightP l = 0) : entsP (l.flatMap manF) = some (entM l) := ents_man l _ [] none (.inr ⟨rfl, rfl⟩) (rightP_zero h).2.2 (Nat.lt_succ_self _)
theorem man_len {l : List File} (h : rightP l = 0) : (l.flatMap manF).length ≤ 1000000 := by
  have := flat_len manF 60000 l (manF_len (right_fit h))
  have := right_len h
  have : 60000 * l.length ≤ 60000 * 16 := Nat.mul_le_mul_left _ (by omega)
  omega

/-! ### Verify at manifests -/
theorem miss_all {g : File → Bool} : ∀ (l : List File) (n : Int), (∀ f ∈ l, g f = true) → missL g n l = []
  | [], _, _ => rfl
  | f :: l, n, h => by
    show (if g f = true then [] else [n]) ++ missL g (n + 1) l = []
    rw [if_pos (h f List.mem_cons_self), miss_all l _ fun x hx => h x (List.mem_cons_of_mem _ hx)]; rfl
theorem miss_app {g : File → Bool} : ∀ (a b : List File) (n : Int), missL g n (a ++ b) = missL g n a ++ missL g (n + a.length) b
  | [], b, n => by simp [missL]
  | f :: a, b, n => by
    show (if g f = true then [] else [n]) ++ missL g (n + 1) (a ++ b) = ((if g f = true then [] else [n]) ++ missL g (n + 1) a) ++ _
    rw [miss_app a b, List.append_assoc, List.length_cons]
    congr 3
    push_cast; omega
theorem miss_one {g : File → Bool} {a b : List File} {f : File} (ha : ∀ x ∈ a, g x = true) (hf : g f = false) (hb : ∀ x ∈ b, g x = true) : missL g 0 (a ++ f :: b) = [(a.length : Int)] := by
  rw [miss_app, miss_all a _ ha]
  show [] ++ ((if g f = true then [] else [_]) ++ missL g _ b) = _
  rw [if_neg (by rw [hf]; simp), miss_all b _ hb]
  simp
def Dist (l : List File) : Prop := l.Pairwise fun x y => x.1 ≠ y.1
theorem rightL_sorted : ∀ (l : List File) (q : Option (List UInt8)), rightL q l = 0 → (∀ p, q = some p → ∀ f ∈ l, Op.bytesLess p f.1 = true) ∧ l.Pairwise fun x y => Op.bytesLess x.1 y.1 = true
  | [], _, _ => ⟨fun _ _ _ h => (by cases h), .nil⟩
  | f :: l, q, h => by
    obtain ⟨h1, h2, h3, h4⟩ := rightL_zero h
    obtain ⟨i1, i2⟩ := rightL_sorted l _ h4
    refine ⟨fun p hp g hg => ?_, .cons (i1 f.1 rfl) i2⟩
    subst hp
    have hlt : Op.bytesLess p f.1 = true := not_le h2
    rcases List.mem_cons.1 hg with rfl | hg
    · exact hlt
    · exact less_trans _ _ _ hlt (i1 f.1 rfl g hg)
theorem right_sorted {l : List File} (h : rightP l = 0) : l.Pairwise fun x y => Op.bytesLess x.1 y.1 = true := (rightL_sorted l _ (rightP_zero h).2.2).2
theorem right_dist {l : List File} (h : rightP l = 0) : Dist l := (right_sorted h).imp less_ne
/-- In order, each right: all right. -/
theorem rightL_of : ∀ (l : List File) (q : Option (List UInt8)), (∀ p, q = some p → ∀ f ∈ l, Op.bytesLess p f.1 = true) → (l.Pairwise fun x y => Op.bytesLess x.1 y.1 = true) → (∀ f ∈ l, pathB f.1 = true ∧ f.2.length ≤ 2000) → rightL q l = 0
  | [], _, _, _, _ => rfl
  | f :: l, q, hq, hs, ha => by
    obtain ⟨s1, s2⟩ := List.pairwise_cons.1 hs
    obtain ⟨a1, a2⟩ := ha f List.mem_cons_self
    have hb : badO q f.1 = false := by
      cases q with
      | none => rfl
      | some p =>
        have h := hq p rfl f List.mem_cons_self
        show (Op.bytesLess f.1 p || decide (f.1 = p)) = false
        rw [dF (less_ne h).symm, Bool.or_false]
        cases hc : Op.bytesLess f.1 p
        · rfl
        · have := less_trans _ _ _ h hc
          rw [less_self] at this
          cases this
    rw [rightL_cons, if_neg (by rw [a1]; simp), if_neg (by rw [hb]; simp), if_neg (by omega)]
    refine rightL_of l _ (fun p hp => ?_) s2 fun g hg => ha g (List.mem_cons_of_mem _ hg)
    cases hp
    exact s1
theorem sum_at : ∀ {l : List File}, Dist l → ∀ f ∈ l, sumOf (entM l) f.1 = some (dig f.2)
  | [], _, f, hf => by cases hf
  | g :: l, hd, f, hf => by
    obtain ⟨d1, d2⟩ := List.pairwise_cons.1 hd
    show sumOf ((dig g.2, g.1) :: entM l) f.1 = _
    rw [sumOf_cons]
    rcases List.mem_cons.1 hf with rfl | hf
    · rw [if_pos rfl]
    · rw [if_neg (d1 f hf), sum_at d2 f hf]
theorem sum_out {l : List File} {p : List UInt8} (h : ∀ f ∈ l, f.1 ≠ p) : sumOf (entM l) p = none := by
  rw [sum_none]
  intro x hx
  obtain ⟨f, hf, rfl⟩ := List.mem_map.1 hx
  exact h f hf
theorem match_at {l : List File} (hd : Dist l) {f : File} (hf : f ∈ l) : matchB (entM l) f = true := by
  unfold matchB
  rw [sum_at hd f hf]
  exact dT rfl
theorem surplus_no {l l2 : List File} (h : ∀ f ∈ l, ∃ g ∈ l2, g.1 = f.1) : surplusB (entM l) l2 = false := by
  unfold surplusB
  rw [List.any_eq_false]
  intro x hx
  obtain ⟨f, hf, rfl⟩ := List.mem_map.1 hx
  obtain ⟨g, hg, e⟩ := h f hf
  simp only [Bool.not_eq_true', Bool.not_eq_false]
  exact List.any_eq_true.2 ⟨g, hg, dT e⟩
theorem surplus_yes {l l2 : List File} {f : File} (hf : f ∈ l) (h : ∀ g ∈ l2, g.1 ≠ f.1) : surplusB (entM l) l2 = true := by
  unfold surplusB
  refine List.any_eq_true.2 ⟨(dig f.2, f.1), List.mem_map.2 ⟨f, hf, rfl⟩, ?_⟩
  rw [Bool.not_eq_true']
  rw [List.any_eq_false]
  intro g hg
  rw [dF (h g hg)]; simp
theorem verify_man {l : List File} (h : rightP l = 0) (l2 : List File) : verifyP l2 (l.flatMap manF) = missL (matchB (entM l)) 0 l2 ++ (if surplusB (entM l) l2 = true then [(l2.length : Int)] else []) := by
  unfold verifyP
  rw [entsP_man h]
end Go.Proofs.YthpgkpcnajookaaGreatDoor
