/-
  Chapter 44: Unpack, both ways. No condition.
-/
import Derived.Test.YthpgkpcnajookaaGreatDoorU
namespace Go.Proofs.YthpgkpcnajookaaGreatDoor
open Go Go.Nu

/-- A line of a package's head: the path and the number of bytes. -/
def headOf (t : List UInt8) : Option (List UInt8 × Nat) :=
  if (Lib.cut t [32]).2.2 = true then match num? (Lib.cut t [32]).1 with
    | some k => if k ≤ 2000 then some ((Lib.cut t [32]).2.1, k) else none
    | none => none else none
def headsP : Nat → List UInt8 → Option (List (List UInt8 × Nat) × List UInt8)
  | 0, r => some ([], r)
  | n + 1, r => if (Lib.cut r [10]).2.2 = true then match headOf (Lib.cut r [10]).1 with
    | some h => (headsP n (Lib.cut r [10]).2.1).map fun x => (h :: x.1, x.2)
    | none => none else none
def datas : List (List UInt8 × Nat) → List UInt8 → Option (List File × List UInt8)
  | [], r => some ([], r)
  | h :: t, r => if r.length < h.2 then none else (datas t (r.drop h.2)).map fun x => ((h.1, r.take h.2) :: x.1, x.2)
def openP (s : List UInt8) : Option (List (List UInt8 × Nat) × List UInt8) :=
  if (Lib.cut s [10]).2.2 = true ∧ (Lib.cut s [10]).1 = [66, 65, 71, 49] ∧ (Lib.cut (Lib.cut s [10]).2.1 [10]).2.2 = true then match num? (Lib.cut (Lib.cut s [10]).2.1 [10]).1 with
    | some n => if n ≤ 16 then headsP n (Lib.cut (Lib.cut s [10]).2.1 [10]).2.1 else none
    | none => none else none
def finP (l : List File) (r : List UInt8) : List File × Int := if r.length = 16 ∧ rightP l = 0 then (if r = rootP l then (l, 0) else ([], 5)) else ([], 3)
def unpackO (o : Option (List File × List UInt8)) : List File × Int := match o with | some x => finP x.1 x.2 | none => ([], 3)
def unpackP (s : List UInt8) : List File × Int := unpackO ((openP s).bind fun x => datas x.1 x.2)

theorem headsP_succ (n : Nat) (r : List UInt8) : headsP (n + 1) r = if (Lib.cut r [10]).2.2 = true then match headOf (Lib.cut r [10]).1 with
    | some h => (headsP n (Lib.cut r [10]).2.1).map fun x => (h :: x.1, x.2)
    | none => none else none := rfl
theorem datas_cons (h : List UInt8 × Nat) (t : List (List UInt8 × Nat)) (r : List UInt8) : datas (h :: t) r = if r.length < h.2 then none else (datas t (r.drop h.2)).map fun x => ((h.1, r.take h.2) :: x.1, x.2) := rfl
theorem sign_cut (s : List UInt8) : Lib.hasPrefix s [66, 65, 71, 49, 10] = true ↔ (Lib.cut s [10]).2.2 = true ∧ (Lib.cut s [10]).1 = [66, 65, 71, 49] := by
  unfold Lib.hasPrefix
  rw [List.isPrefixOf_iff_prefix]
  constructor
  · rintro ⟨t, rfl⟩
    rw [show ([66, 65, 71, 49, 10] : List UInt8) ++ t = [66, 65, 71, 49] ++ 10 :: t from rfl, cut_at (by simp)]
    exact ⟨rfl, rfl⟩
  · rintro ⟨h1, h2⟩
    have := (cut_true h1).1
    rw [h2] at this
    exact ⟨_, this.symm⟩
theorem sign_rest {s : List UInt8} (h : Lib.hasPrefix s [66, 65, 71, 49, 10] = true) : Lib.trimPrefix s [66, 65, 71, 49, 10] = (Lib.cut s [10]).2.1 := by
  unfold Lib.trimPrefix
  rw [if_pos h]
  obtain ⟨h1, h2⟩ := (sign_cut s).1 h
  have := (cut_true h1).1
  rw [h2] at this
  conv => lhs; rw [this]
  rfl
theorem trimP_len (s p : List UInt8) : (Lib.trimPrefix s p).length ≤ s.length := Lib.trimPrefix_le s p

theorem datas_fit : ∀ {hs : List (List UInt8 × Nat)} {r : List UInt8} {x : List File × List UInt8}, datas hs r = some x → x.1.length = hs.length
  | [], _, x, h => by cases h; rfl
  | h :: t, r, x, he => by
    rw [datas_cons] at he
    split at he
    · cases he
    · rw [Option.map_eq_some_iff] at he
      obtain ⟨y, hy, rfl⟩ := he
      rw [List.length_cons, List.length_cons, datas_fit hy]

theorem headOf_le {t : List UInt8} {h : List UInt8 × Nat} (he : headOf t = some h) : h.2 ≤ 2000 ∧ h.1.length ≤ t.length := by
  have := (cut_len t 32).2
  unfold headOf at he
  split at he
  · split at he
    · split at he
      · cases he; exact ⟨by assumption, this⟩
      · cases he
    · cases he
  · cases he

theorem g44y (s : List UInt8) (m : Nat) (hm : m ≤ 1000000) (hs : s.length ≤ 1000000) : ∃ y : Int × Bool, F44 s m = some y ∧ ((∃ n : Nat, num? s = some n ∧ n ≤ m ∧ y = ((n : Int), true)) ∨ ((∀ n : Nat, num? s = some n → ¬ n ≤ m) ∧ y.2 = false)) := by
  obtain ⟨x, hx⟩ := g44 s m hm hs
  refine ⟨_, hx, ?_⟩
  cases hn : num? s with
  | none => exact .inr ⟨fun n h => (by cases h), rfl⟩
  | some n =>
    simp only []
    by_cases h : n ≤ m
    · rw [if_pos h]; exact .inl ⟨n, rfl, h, rfl⟩
    · rw [if_neg h]
      refine .inr ⟨fun k hk => ?_, rfl⟩
      cases hk
      exact h
theorem num_no {α : Type} {s : List UInt8} {m : Nat} (h : ∀ n : Nat, num? s = some n → ¬ n ≤ m) (k : Nat → Option α) : (match num? s with | some n => if n ≤ m then k n else none | none => none) = none := by
  cases hn : num? s with
  | none => rfl
  | some n => exact if_neg (h n hn)
theorem g24 (s : List UInt8) (hs : s.length ≤ 50000) : F24 s = some (unpackP s) := by
  unfold F24
  rw [jn_eq]
  simp only [jn_eq]
  unfold fCutP
  rw [bindO_some]
  simp only []
  have hpl := trimP_len s [66, 65, 71, 49, 10]
  unfold fCut
  rw [if_pos (by omega), bindO_some]
  have hcl := cut_len (Lib.trimPrefix s [66, 65, 71, 49, 10]) 10
  obtain ⟨y4, hx, hy4⟩ := g44y (Lib.cut (Lib.trimPrefix s [66, 65, 71, 49, 10]) [10]).1 16 (by omega) (by omega)
  rw [show ((16 : Nat) : Int) = 16 from rfl] at hx
  rw [hx, bindO_some]
  have hsc := sign_cut s
  have hsr := @sign_rest s
  unfold unpackP openP
  cases hp : Lib.hasPrefix s [66, 65, 71, 49, 10]
  · rw [Bool.not_false, cond_true, if_neg]
    · rfl
    · rintro ⟨h1, h2, -⟩
      rw [hp] at hsc
      exact absurd (hsc.2 ⟨h1, h2⟩) (by simp)
  rw [Bool.not_true, cond_false]
  obtain ⟨h1, h2⟩ := hsc.1 hp
  rw [hsr hp] at hcl hpl hy4 ⊢
  clear hx
  generalize (Lib.cut s [10]).2.1 = r0 at *
  by_cases he : (Lib.cut r0 [10]).2.2 = true
  rotate_left
  · rw [if_neg (fun h => he h.2.2), Bool.eq_false_iff.2 he, Bool.not_false, cond_true]; rfl
  rw [if_pos ⟨h1, h2, he⟩, he, Bool.not_true, cond_false]
  rcases hy4 with ⟨n, hn, h16, rfl⟩ | ⟨hn, h16⟩
  rotate_left
  · rw [h16, Bool.not_false, cond_true, num_no hn]; rfl
  rw [hn]
  simp only []
  rw [if_pos h16, Bool.not_true, cond_false, gdN_rfl, gdN_rfl]
  have hr1 : (Lib.cut r0 [10]).2.1.length ≤ 50000 := by omega
  generalize (Lib.cut r0 [10]).2.1 = r1 at *
  generalize hR : unpackO ((headsP n r1).bind fun x => datas x.1 x.2) = R
  refine loopK_rule (fun p : List UInt8 × List File × List Int × Int => ∃ (r : List UInt8) (hd : List (List UInt8 × Nat)),
      p = (r, hd.map (fun h => (h.1, [])), hd.map (fun h => (h.2 : Int)), (hd.length : Int)) ∧ hd.length ≤ n ∧ r.length ≤ 50000 ∧ (∀ h ∈ hd, h.1.length ≤ 50000 ∧ h.2 ≤ 2000) ∧
      headsP n r1 = (headsP (n - hd.length) r).map fun x => (hd ++ x.1, x.2)) (fun p => n - p.2.2.2.toNat) ⟨r1, [], rfl, by simp, hr1, by simp, by simp⟩ rfl ?_
  rintro _ again ⟨r, hd, rfl, hi, hrl, hfit, hH⟩ hag
  simp only []
  by_cases hlt : hd.length < n
  · rw [dT (by omega), cond_true, if_pos (by omega), bindO_some]
    obtain ⟨m, hm⟩ : ∃ m, n - hd.length = m + 1 := ⟨n - hd.length - 1, by omega⟩
    rw [hm] at hH
    rw [headsP_succ] at hH
    have hc1 := cut_len r 10
    generalize Lib.cut r [10] = c at *
    have hc2 := cut_len c.1 32
    rw [if_pos (by omega), bindO_some]
    obtain ⟨y8, hx, hy8⟩ := g44y (Lib.cut c.1 [32]).1 2000 (by omega) (by omega)
    rw [show ((2000 : Nat) : Int) = 2000 from rfl] at hx
    rw [hx, bindO_some]
    clear hx
    unfold headOf at hH
    generalize Lib.cut c.1 [32] = e at *
    have bad : headsP n r1 = none → some R = some (([] : List File), (3 : Int)) := fun h => by rw [← hR, h]; rfl
    by_cases b1 : c.2.2 = true
    rotate_left
    · rw [Bool.eq_false_iff.2 b1, Bool.not_false, cond_true]
      rw [if_neg b1] at hH
      exact (bad hH).symm
    rw [b1, Bool.not_true, cond_false]
    rw [if_pos b1] at hH
    by_cases b2 : e.2.2 = true
    rotate_left
    · rw [Bool.eq_false_iff.2 b2, Bool.not_false, cond_true]
      rw [if_neg b2] at hH
      exact (bad hH).symm
    rw [b2, Bool.not_true, cond_false]
    rw [if_pos b2] at hH
    rcases hy8 with ⟨k, hk, h2k, rfl⟩ | ⟨hk, h2k⟩
    rotate_left
    · rw [h2k, Bool.not_false, cond_true]
      rw [num_no hk] at hH
      exact (bad hH).symm
    rw [hk] at hH
    simp only [] at hH ⊢
    rw [if_pos h2k] at hH
    simp only [] at hH ⊢
    rw [Bool.not_true, cond_false, gdN_rfl, gd_pos (by unfold big; simp only [List.length_map, List.length_cons, List.length_nil]; omega), bnd_eq, gdN_rfl,
      gd_pos (by unfold big; simp only [List.length_map, List.length_cons, List.length_nil]; omega), bnd_eq, bnd_eq, i64_wrap (by omega), gdN_rfl, gdN_rfl]
    refine hag _ ⟨c.2.1, hd ++ [(e.2.1, k)], ?_, ?_, by omega, ?_, ?_⟩ ?_
    · simp
    · rw [List.length_append, List.length_singleton]; omega
    · intro h hh
      rcases List.mem_append.1 hh with hh | hh
      · exact hfit h hh
      · rw [List.mem_singleton] at hh
        subst hh
        exact ⟨by simp only []; omega, h2k⟩
    · rw [hH, List.length_append, List.length_singleton, show n - (hd.length + 1) = m by omega, Option.map_map]
      congr 1
      funext x
      simp
    · simp only []; omega
  rw [dF (by omega), cond_false]
  have hln : hd.length = n := by omega
  rw [hln, Nat.sub_self] at hH
  have hH : headsP n r1 = some (hd, r) := by rw [hH]; simp [headsP]
  rw [hH] at hR
  simp only [Option.bind_some] at hR
  rw [← hR]
  clear hH hR hag
  have fin : ∀ (l : List File) (t : List UInt8), Fit l → (cond (!decide ((List.length t : Int) = (16 : Int)))
          (some (([] : List (List UInt8 × List UInt8)), (3 : Int)))
          (bindO (F13 l) fun y21 =>
          cond (!decide (y21 = (0 : Int)))
            (some (([] : List (List UInt8 × List UInt8)), (3 : Int)))
            (bindO (F15 l) fun y22 =>
            cond (!decide (t = y22))
              (some (([] : List (List UInt8 × List UInt8)), (5 : Int)))
              (some (l, (0 : Int)))))) = some (finP l t) := by
    intro l t hl
    unfold finP
    rw [g13 l hl, bindO_some, g15 l hl, bindO_some]
    by_cases h16 : t.length = 16
    rotate_left
    · rw [dF (by omega), Bool.not_false, cond_true, if_neg (fun h => h16 h.1)]
    rw [dT (by omega), Bool.not_true, cond_false]
    by_cases h0 : rightP l = 0
    rotate_left
    · rw [dF h0, Bool.not_false, cond_true, if_neg (fun h => h0 h.2)]
    rw [dT h0, Bool.not_true, cond_false, if_pos ⟨h16, h0⟩]
    by_cases hr : t = rootP l
    · rw [dT hr, Bool.not_true, cond_false, if_pos hr]
    · rw [dF hr, Bool.not_false, cond_true, if_neg hr]
  cases hd with
  | nil =>
    simp only [List.map_nil, List.isEmpty_nil, cond_true]
    refine loopK_rule (fun _ => True) (fun _ => 0) trivial rfl ?_
    rintro - again2 - -
    simp only [List.length_nil]
    rw [dF (by omega), cond_false]
    exact fin [] r ⟨by simp, by simp⟩
  | cons h0 t0 =>
    rw [show ((h0 :: t0).map fun h : List UInt8 × Nat => (h.1, ([] : List UInt8))).isEmpty = false from rfl, cond_false]
    generalize hdd : h0 :: t0 = hd at *
    have hpos : 0 < hd.length := by rw [← hdd]; simp
    rw [gdN_rfl, gd_pos (by rw [List.length_map]; omega), gdN_rfl, gdN_rfl]
    refine loopK_rule (fun p : List UInt8 × Int × List File => ∃ (t : List UInt8) (dn : List File),
        p = (t, (dn.length : Int), dn ++ (hd.drop dn.length).map fun h => (h.1, [])) ∧ dn.length ≤ hd.length ∧ (∀ f ∈ dn, f.1.length ≤ 50000 ∧ f.2.length ≤ 50000) ∧
        datas hd r = (datas (hd.drop dn.length) t).map fun x => (dn ++ x.1, x.2)) (fun p => hd.length - p.2.1.toNat) ⟨r, [], by simp, by simp, by simp, by simp⟩ rfl ?_
    rintro _ again2 ⟨t, dn, rfl, hj, hfd, hD⟩ hag2
    simp only []
    by_cases hlt2 : dn.length < hd.length
    · have hge : (hd.map fun h => (h.2 : Int)).getD dn.length 0 = ((hd.getD dn.length ([], 0)).2 : Int) := by
        simp only [List.getD_eq_getElem?_getD, List.getElem?_map]
        cases hd[dn.length]? <;> rfl
      have hmem := getD_mem ([], 0) hlt2
      have hfit2 := hfit _ hmem
      rw [dT (by rw [List.length_map]; omega), cond_true, gd_pos (by rw [List.length_map]; omega), toNat_nat, hge]
      rw [drop_getD ([], 0) hlt2] at hD ⊢
      rw [datas_cons] at hD
      generalize hd.getD dn.length ([], 0) = h at *
      rw [List.map_cons]
      by_cases hk : t.length < h.2
      · rw [dT (by omega), cond_true]
        rw [if_pos hk] at hD
        rw [hD]; rfl
      rw [if_neg hk] at hD
      rw [dF (by omega), cond_false, gd_pos (by omega), bnd_eq, gd_pos (by omega), bnd_eq, toNat_nat]
      have hat : ((dn ++ (h.1, ([] : List UInt8)) :: ((hd.drop (dn.length + 1)).map fun h => (h.1, []))).getD dn.length ([], [])) = (h.1, []) := by
        rw [List.getD_eq_getElem?_getD, List.getElem?_append_right (Nat.le_refl _), Nat.sub_self]; rfl
      have hset : ∀ v : File, (dn ++ (h.1, ([] : List UInt8)) :: ((hd.drop (dn.length + 1)).map fun h => (h.1, []))).set dn.length v = (dn ++ [v]) ++ ((hd.drop (dn.length + 1)).map fun h => (h.1, [])) := by
        intro v
        rw [List.set_append_right _ _ (Nat.le_refl _), Nat.sub_self]
        simp
      rw [gd_pos (by simp only [List.length_append, List.length_cons]; omega), gd_pos (by simp only [List.length_append, List.length_cons]; omega), gd_pos (by simp only [List.length_append, List.length_cons]; omega), bnd_eq, i64_wrap (by omega), hat, hset]
      refine hag2 _ ⟨t.drop h.2, dn ++ [(h.1, t.take h.2)], ?_, ?_, ?_, ?_⟩ ?_
      · simp
      · rw [List.length_append, List.length_singleton]; omega
      · intro f hf
        rcases List.mem_append.1 hf with hf | hf
        · exact hfd f hf
        · rw [List.mem_singleton] at hf
          subst hf
          exact ⟨hfit2.1, by rw [List.length_take]; omega⟩
      · rw [hD, List.length_append, List.length_singleton, Option.map_map]
        congr 1
        funext x
        simp
      · simp only []; omega
    · rw [dF (by rw [List.length_map]; omega), cond_false]
      have hle : dn.length = hd.length := by omega
      rw [hle, List.drop_length] at hD ⊢
      rw [List.map_nil, List.append_nil]
      rw [fin dn t ⟨by omega, hfd⟩, hD]
      simp [datas, unpackO]

theorem headOf_split (t : List UInt8) (ht : t.length ≤ 1000000) : (headOf t = none ↔ ((splitP t).2.2 = false ∨ 2000 < (splitP t).1)) ∧ (∀ h, headOf t = some h → splitP t = ((h.2 : Int), h.1, true)) := by
  unfold headOf splitP
  by_cases hc : (Lib.cut t [32]).2.2 = true
  rotate_left
  · rw [if_neg hc, if_neg hc]
    exact ⟨⟨fun _ => .inl rfl, fun _ => rfl⟩, fun h hh => by cases hh⟩
  rw [if_pos hc, if_pos hc, numP_num]
  cases hn : num? (Lib.cut t [32]).1 with
  | none => exact ⟨⟨fun _ => .inl rfl, fun _ => rfl⟩, fun h hh => by cases hh⟩
  | some k =>
    simp only []
    by_cases h2 : k ≤ 2000
    · rw [if_pos h2]
      refine ⟨⟨fun h => (by cases h), fun h => ?_⟩, fun h hh => by cases hh; rfl⟩
      rcases h with h | h
      · cases h
      · omega
    · rw [if_neg h2]
      exact ⟨⟨fun _ => .inr (by omega), fun _ => rfl⟩, fun h hh => by cases hh⟩

theorem g25 (s : List UInt8) (hs : s.length ≤ 50000) : F25 s = some (unpackP s) := by
  unfold F25
  simp only [jn_eq]
  have h0 := f50 s 0 (by omega) (by omega)
  rw [show ((0 : Nat) : Int) = 0 from rfl] at h0
  rw [h0, bindO_some]
  simp only [List.drop_zero]
  unfold unpackP openP
  have hcl := cut_len s 10
  have hcr := cut_rest (s := s) (a := 0) (by omega)
  rw [List.drop_zero] at hcr
  by_cases e1 : (Lib.cut s [10]).1 = [66, 65, 71, 49]
  rotate_left
  · rw [dF e1, Bool.not_false, cond_true, if_neg (fun h => e1 h.2.1)]; rfl
  rw [dT e1, Bool.not_true, cond_false]
  by_cases e2 : (Lib.cut s [10]).2.2 = true
  rotate_left
  · rw [if_neg (fun h => e2 h.1), Bool.eq_false_iff.2 e2, Bool.not_false, cond_true]; rfl
  rw [show (!(Lib.cut s [10]).2.2) = false by rw [e2]; rfl, cond_false, f50 s _ (by omega) (by omega), bindO_some, hcr]
  simp only [f76, bindO_some]
  generalize (Lib.cut s [10]).2.1 = r0 at *
  have hcl2 := cut_len r0 10
  have hcr2 := cut_rest (s := s) (a := s.length - r0.length) (by omega)
  rw [hcr] at hcr2
  rw [numP_num]
  by_cases e3 : (Lib.cut r0 [10]).2.2 = true
  rotate_left
  · rw [if_neg (fun h => e3 h.2.2)]
    cases num? (Lib.cut r0 [10]).1 with
    | none => rfl
    | some n => rw [Bool.eq_false_iff.2 e3]; rfl
  rw [if_pos ⟨e2, e1, e3⟩, e3]
  cases hn : num? (Lib.cut r0 [10]).1 with
  | none => rfl
  | some n =>
  simp only []
  rw [Bool.not_true, cond_false, cond_false]
  by_cases h16 : n ≤ 16
  rotate_left
  · rw [dT (by omega), cond_true, if_neg h16]; rfl
  rw [dF (by omega), cond_false, if_pos h16, gdN_rfl, gdN_rfl]
  have hr1 : (Lib.cut r0 [10]).2.1.length ≤ s.length := by omega
  generalize (Lib.cut r0 [10]).2.1 = r1 at *
  generalize hR : unpackO ((headsP n r1).bind fun x => datas x.1 x.2) = R
  refine loopK_rule (fun p : Int × List Int × List (List UInt8) × Int => ∃ (a : Nat) (hd : List (List UInt8 × Nat)),
      p = ((a : Int), hd.map (fun h => (h.2 : Int)), hd.map (fun h => h.1), (hd.length : Int)) ∧ hd.length ≤ n ∧ a ≤ s.length ∧ (∀ h ∈ hd, h.1.length ≤ 50000 ∧ h.2 ≤ 2000) ∧
      headsP n r1 = (headsP (n - hd.length) (s.drop a)).map fun x => (hd ++ x.1, x.2)) (fun p => n - p.2.2.2.toNat) ⟨s.length - r1.length, [], rfl, by simp, by omega, by simp, by rw [hcr2]; simp⟩ rfl ?_
  rintro _ again ⟨a, hd, rfl, hi, hrl, hfit, hH⟩ hag
  simp only []
  by_cases hlt : hd.length < n
  · rw [dT (by omega), cond_true, f50 s a hrl (by omega), bindO_some]
    simp only []
    obtain ⟨m, hm⟩ : ∃ m, n - hd.length = m + 1 := ⟨n - hd.length - 1, by omega⟩
    rw [hm] at hH
    rw [headsP_succ] at hH
    have hdl : (s.drop a).length = s.length - a := List.length_drop
    have hc1 := cut_len (s.drop a) 10
    have hc3 := cut_rest (s := s) hrl
    generalize Lib.cut (s.drop a) [10] = c at *
    rw [g47 _ (by omega), bindO_some]
    have hho := headOf_split c.1 (by omega)
    have bad : headsP n r1 = none → some R = some (([] : List File), (3 : Int)) := fun h => by rw [← hR, h]; rfl
    cases hh : headOf c.1 with
    | none =>
      have hb := hho.1.1 hh
      rw [hh] at hH
      simp only [ite_self] at hH
      rw [bad hH]
      cases hb1 : (splitP c.1).2.2
      · rfl
      · rcases hb with hb | hb
        · rw [hb1] at hb; cases hb
        · rw [dT hb]
          cases c.2.2 <;> rfl
    | some h =>
    have hsp := hho.2 h hh
    have hle := headOf_le hh
    rw [hsp]
    simp only []
    rw [hh] at hH
    by_cases b1 : c.2.2 = true
    rotate_left
    · rw [Bool.eq_false_iff.2 b1]
      rw [if_neg b1] at hH
      exact (bad hH).symm
    rw [if_pos b1] at hH
    simp only [] at hH
    rw [b1, Bool.not_true, cond_false, cond_false, dF (by omega), cond_false, gdN_rfl, gd_pos (by unfold big; simp only [List.length_map, List.length_cons, List.length_nil]; omega), bnd_eq, gdN_rfl,
      gd_pos (by unfold big; simp only [List.length_map, List.length_cons, List.length_nil]; omega), bnd_eq, bnd_eq, i64_wrap (by omega), gdN_rfl, gdN_rfl]
    refine hag _ ⟨s.length - c.2.1.length, hd ++ [h], ?_, ?_, by omega, ?_, ?_⟩ ?_
    · simp
    · rw [List.length_append, List.length_singleton]; omega
    · intro g hg
      rcases List.mem_append.1 hg with hg | hg
      · exact hfit g hg
      · rw [List.mem_singleton] at hg
        subst hg
        exact ⟨by omega, hle.1⟩
    · rw [hH, hc3, List.length_append, List.length_singleton, show n - (hd.length + 1) = m by omega, Option.map_map]
      congr 1
      funext x
      simp
    · simp only []; omega
  rw [dF (by omega), cond_false, gdN_rfl]
  have hln : hd.length = n := by omega
  rw [hln, Nat.sub_self] at hH
  have hH : headsP n r1 = some (hd, s.drop a) := by rw [hH]; simp [headsP]
  rw [hH] at hR
  simp only [Option.bind_some] at hR
  rw [← hR]
  clear hH hR hag
  refine loopK_rule (fun p : Int × List File × Int => ∃ (b : Nat) (dn : List File),
      p = ((b : Int), dn, (dn.length : Int)) ∧ dn.length ≤ hd.length ∧ b ≤ s.length ∧ (∀ f ∈ dn, f.1.length ≤ 50000 ∧ f.2.length ≤ 50000) ∧
      datas hd (s.drop a) = (datas (hd.drop dn.length) (s.drop b)).map fun x => (dn ++ x.1, x.2)) (fun p => hd.length - p.2.2.toNat) ⟨a, [], by simp, by simp, hrl, by simp, by simp⟩ rfl ?_
  rintro _ again2 ⟨b, dn, rfl, hj, hbl, hfd, hD⟩ hag2
  simp only []
  have hdl : (s.drop b).length = s.length - b := List.length_drop
  by_cases hlt2 : dn.length < hd.length
  · have hge : (hd.map fun h => (h.2 : Int)).getD dn.length 0 = ((hd.getD dn.length ([], 0)).2 : Int) := by
      simp only [List.getD_eq_getElem?_getD, List.getElem?_map]
      cases hd[dn.length]? <;> rfl
    have hge2 : (hd.map fun h => h.1).getD dn.length [] = (hd.getD dn.length ([], 0)).1 := by
      simp only [List.getD_eq_getElem?_getD, List.getElem?_map]
      cases hd[dn.length]? <;> rfl
    have hmem := getD_mem ([], 0) hlt2
    have hfit2 := hfit _ hmem
    rw [dT (by omega), cond_true, gd_pos (by rw [List.length_map]; omega), toNat_nat, hge, hge2]
    rw [drop_getD ([], 0) hlt2, datas_cons] at hD
    generalize hd.getD dn.length ([], 0) = h at *
    rw [bnd_eq, i64_wrap (by omega)]
    by_cases hk : (s.drop b).length < h.2
    · rw [dT (by omega), cond_true]
      rw [if_pos hk] at hD
      rw [hD]; rfl
    rw [if_neg hk] at hD
    rw [dF (by omega), cond_false, gd_pos (by rw [List.length_map]; omega), gd_pos (by rw [List.length_map]; omega), bnd_eq, i64_wrap (by omega), gd_pos (by omega), bnd_eq,
      toNat_nat, show ((b : Int) + (h.2 : Int)).toNat = b + h.2 by omega, gdN_rfl, gd_pos (by unfold big; simp only [List.length_cons, List.length_nil]; omega), bnd_eq, gd_pos (by rw [List.length_map]; omega), bnd_eq, bnd_eq, i64_wrap (by omega), gdN_rfl]
    have hdt : List.drop b (List.take (b + h.2) s) = (s.drop b).take h.2 := by rw [List.drop_take, Nat.add_sub_cancel_left]
    rw [hdt]
    refine hag2 _ ⟨b + h.2, dn ++ [(h.1, (s.drop b).take h.2)], ?_, ?_, by omega, ?_, ?_⟩ ?_
    · simp
    · rw [List.length_append, List.length_singleton]; omega
    · intro f hf
      rcases List.mem_append.1 hf with hf | hf
      · exact hfd f hf
      · rw [List.mem_singleton] at hf
        subst hf
        exact ⟨hfit2.1, by rw [List.length_take]; omega⟩
    · rw [hD, List.length_append, List.length_singleton, Option.map_map, List.drop_drop]
      congr 1
      funext x
      simp
    · simp only []; omega
  · rw [dF (by omega), cond_false, bnd_eq, i64_wrap (by omega)]
    have hle : dn.length = hd.length := by omega
    rw [hle, List.drop_length] at hD
    have hl : Fit dn := ⟨by omega, hfd⟩
    rw [hD]
    simp only [datas, Option.map_some, unpackO, List.append_nil]
    unfold finP
    rw [g14 _ hl, bindO_some, g16 _ hl, gd_pos (by omega), bnd_eq, bindO_some, toNat_nat]
    by_cases h16 : (s.drop b).length = 16
    rotate_left
    · rw [dF (by omega), Bool.not_false, cond_true, if_neg (fun h => h16 h.1)]
    rw [dT (by omega), Bool.not_true, cond_false]
    by_cases h0 : rightP dn = 0
    rotate_left
    · rw [dF h0, Bool.not_false, cond_true, if_neg (fun h => h0 h.2)]
    rw [dT h0, Bool.not_true, cond_false, if_pos ⟨h16, h0⟩]
    by_cases hr : s.drop b = rootP dn
    · rw [dT hr, Bool.not_true, cond_false, if_pos hr]
    · rw [dF hr, Bool.not_false, cond_true, if_neg hr]
end Go.Proofs.YthpgkpcnajookaaGreatDoor
