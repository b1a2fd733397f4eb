/-
  Chapter 17: Parse.
-/
import Derived.Test.YtdffccmlfhdkpaaDoorQ
namespace Go.Proofs.YtdffccmlfhdkpaaDoor
open Go Go.Nu

abbrev It := Int × Int × Bool
def itemP (t : List UInt8) : It × Bool :=
  if (numP (t.take (findN t 45))).2 = false then ((0, 0, false), false)
  else if findN t 45 = t.length then (((numP (t.take (findN t 45))).1, (numP (t.take (findN t 45))).1, false), true)
  else if findN t 45 + 1 = t.length then (((numP (t.take (findN t 45))).1, 10000, true), true)
  else (((numP (t.take (findN t 45))).1, (numP (t.drop (findN t 45 + 1))).1, false), (numP (t.drop (findN t 45 + 1))).2)
def okIt (x : It) : Prop := (x.2.2 = true → x.2.1 = 10000) ∧ 0 ≤ x.1 ∧ x.1 ≤ 10000 ∧ 0 ≤ x.2.1 ∧ x.2.1 ≤ 10000
theorem itemP_ok (t : List UInt8) : okIt (itemP t).1 := by
  have h1 := numP_range (t.take (findN t 45))
  have h2 := numP_range (t.drop (findN t 45 + 1))
  unfold itemP
  split
  · exact ⟨(fun h => by cases h), by simp, by simp, by simp, by simp⟩
  · split
    · exact ⟨(fun h => by cases h), h1.1, h1.2, h1.1, h1.2⟩
    · split
      · exact ⟨fun _ => rfl, h1.1, h1.2, by simp, by simp⟩
      · exact ⟨(fun h => by cases h), h1.1, h1.2, h2.1, h2.2⟩

theorem f64 (t : List UInt8) (ht : t.length ≤ 1000000) : F64 t = some (itemP t) := by
  unfold F64 itemP
  have e45 : UInt8.ofNat (Int.toNat (45 : Int)) = 45 := rfl
  have hle := findN_le t 45
  rw [gd_pos (by omega), e45, f63 t 45 ht, bindO_some, gd_pos (by omega), bnd_eq, Int.toNat_natCast, f79 _ (by simp; omega), bindO_some]
  cases ha : (numP (t.take (findN t 45))).2
  · rfl
  · rw [Bool.not_true, cond_false, if_neg (by simp)]
    by_cases h1 : findN t 45 = t.length
    · rw [decide_eq_true (by omega), cond_true, if_pos h1]
    · rw [decide_eq_false (by omega), cond_false, if_neg h1, bnd_eq, i64_wrap (by omega)]
      by_cases h2 : findN t 45 + 1 = t.length
      · rw [decide_eq_true (by omega), cond_true, if_pos h2]
      · have e : ((findN t 45 : Int) + 1).toNat = findN t 45 + 1 := by omega
        rw [decide_eq_false (by omega), cond_false, if_neg h2, bnd_eq, i64_wrap (by omega), gd_pos (by omega), bnd_eq, e, f79 _ (by simp; omega), bindO_some]

def pieces (s : List UInt8) : List (It × Bool) := (splitP 44 s).map fun t => itemP (trimP t)
theorem pieces_eq (s : List UInt8) : pieces s = if findN s 44 < s.length then itemP (trimP (s.take (findN s 44))) :: pieces (s.drop (findN s 44 + 1)) else [itemP (trimP (s.take (findN s 44)))] := by
  unfold pieces
  by_cases h : findN s 44 < s.length
  · rw [splitP, dif_pos h, if_pos h]; rfl
  · rw [splitP, dif_neg h, if_neg h]
    have := findN_le s 44
    rw [List.take_of_length_le (by omega)]; rfl

def itemsP (acc : List It) (s : List UInt8) : List It × Bool := if (pieces s).all (·.2) then (acc ++ (pieces s).map (·.1), true) else ([], false)
theorem f42 (s : List UInt8) (hs : s.length ≤ 1000000) : F42 s = some (itemsP [] s) := by
  unfold F42
  simp only [jn_eq, gdN_self]
  refine loopK_rule (fun x => x.2.length + x.1.length ≤ 1000000 ∧ itemsP x.2 x.1 = itemsP [] s) (fun x => x.1.length) ⟨by simpa using hs, rfl⟩ rfl ?_
  rintro ⟨p, acc⟩ again ⟨hl, hr⟩ hag
  simp only [] at hl hr hag ⊢
  have e44 : UInt8.ofNat (Int.toNat (44 : Int)) = 44 := rfl
  have hle := findN_le p 44
  have hb : acc.length + 1 ≤ big := by unfold big; omega
  have htl := trimP_len (p.take (findN p 44))
  rw [List.length_take] at htl
  rw [gd_pos (by omega), e44, f63 p 44 (by omega), bindO_some, gd_pos (by omega), bnd_eq, Int.toNat_natCast, f65 _ (by simp; omega), bindO_some, f64 _ (by omega), bindO_some]
  generalize itemsP [] s = R at hr hag ⊢
  unfold itemsP at hr
  rw [pieces_eq] at hr
  generalize itemP (trimP (p.take (findN p 44))) = x at hr ⊢
  cases hx : x.2
  · rw [Bool.not_false, cond_true]
    have : ∀ r : List (It × Bool), (x :: r).all (·.2) = false := fun r => by rw [List.all_cons, hx, Bool.false_and]
    split at hr
    · rw [this] at hr
      rw [← hr]; rfl
    · rw [this] at hr
      rw [← hr]; rfl
  · rw [Bool.not_true, cond_false, gd_pos (by simp; omega), bnd_eq]
    by_cases h : findN p 44 < p.length
    · have e : ((findN p 44 : Int) + 1).toNat = findN p 44 + 1 := by omega
      rw [if_pos h] at hr
      rw [decide_eq_false (by omega), cond_false, bnd_eq, i64_wrap (by omega), gd_pos (by omega), bnd_eq, e]
      refine hag _ ⟨by simp; omega, ?_⟩ (by simp; omega)
      unfold itemsP
      rw [List.all_cons, hx, Bool.true_and] at hr
      rw [← hr]
      simp
    · rw [if_neg h] at hr
      rw [decide_eq_true (by omega), cond_true, ← hr]
      simp [hx]

def badR (x : It) : Bool := decide (x.1 < 1) || (decide (9999 < x.1) || (decide (x.2.1 < x.1) || (decide (9999 < x.2.1) && !x.2.2)))
def spanR (x : It) : Sp := (x.1, x.2.1)
def parseP (s : List UInt8) : List Sp × Int :=
  if s = [] then ([], 0) else if (pieces s).all (·.2) = false then ([], 3) else if (pieces s).any (fun x => badR x.1) then ([], 2) else finish (putAll [] ((pieces s).map fun x => spanR x.1))

theorem bad_ok {x : It} (h : okIt x) (hb : badR x = false) : okX (spanR x) ∧ (x.2.2 = true ∨ x.2.1 ≤ 9999) := by
  unfold badR at hb
  simp only [Bool.or_eq_false_iff, Bool.and_eq_false_iff, decide_eq_false_iff_not, Bool.not_eq_false'] at hb
  obtain ⟨h1, h2, h3, h4, h5⟩ := h
  obtain ⟨b1, b2, b3, b4⟩ := hb
  unfold okX spanR
  refine ⟨⟨by simp only []; omega, by simp only []; omega, by simp only []; omega, by simp only []; omega⟩, ?_⟩
  rcases b4 with b4 | b4
  · exact .inr (by omega)
  · exact .inl b4
theorem pieces_okIt (s : List UInt8) : ∀ x ∈ pieces s, okIt x.1 := fun x hx => by
  obtain ⟨t, _, rfl⟩ := List.mem_map.1 hx
  exact itemP_ok _
theorem pieces_len (s : List UInt8) : (pieces s).length ≤ s.length + 1 := by
  unfold pieces
  rw [List.length_map]
  exact (split_small 44 _ s (Nat.le_refl _)).1
theorem any_drop {α : Type} {l : List α} {i : Nat} (d : α) (p : α → Bool) (h : i < l.length) : (l.drop i).any p = (p (l.getD i d) || (l.drop (i + 1)).any p) := by
  rw [drop_getD d h, List.any_cons]
theorem okX_take {L : List It} {i : Nat} (hok : ∀ x ∈ L, okIt x) (hno : (L.take i).any badR = false) : ∀ y ∈ (L.take i).map spanR, okX y := by
  intro y hy
  obtain ⟨x, hx, rfl⟩ := List.mem_map.1 hy
  have hb : badR x = false := by
    rw [Bool.eq_false_iff]
    intro h
    have := List.any_eq_true.2 ⟨x, hx, h⟩
    rw [hno] at this; cases this
  exact (bad_ok (hok x (List.mem_of_mem_take hx)) hb).1
theorem any_take {α : Type} {l : List α} {i : Nat} (d : α) (p : α → Bool) (h : i < l.length) : (l.take (i + 1)).any p = ((l.take i).any p || p (l.getD i d)) := by
  rw [List.take_succ_eq_append_getElem h, List.any_append, List.getD_eq_getElem?_getD, List.getElem?_eq_getElem h]
  simp
theorem putAll_snoc (l : List Sp) (xs : List Sp) (x : Sp) : putAll l (xs ++ [x]) = putGo (putAll l xs) x false := by
  unfold putAll
  rw [List.foldl_append]; rfl

theorem f17 (s : List UInt8) (hs : s.length ≤ 100000) : F17 s = some (parseP s) := by
  unfold F17 parseP
  rw [jn_eq]
  by_cases h0 : s = []
  · rw [decide_eq_true h0, cond_true, if_pos h0]
  rw [decide_eq_false h0, cond_false, if_neg h0, f42 s (by omega), bindO_some]
  unfold itemsP
  cases hall : (pieces s).all (·.2)
  · rfl
  simp only [if_true, List.nil_append, Bool.not_true, cond_false, Bool.true_eq_false, if_false]
  have hokL : ∀ x ∈ (pieces s).map (·.1), okIt x := fun x hx => by
    obtain ⟨y, hy, rfl⟩ := List.mem_map.1 hx
    exact pieces_okIt s y hy
  have hlen : ((pieces s).map (·.1)).length ≤ 100001 := by
    have := pieces_len s
    simp only [List.length_map]; omega
  have e1 : (pieces s).any (fun x => badR x.1) = ((pieces s).map (·.1)).any badR := by rw [List.any_map]; rfl
  have e2 : ((pieces s).map fun x => spanR x.1) = ((pieces s).map (·.1)).map spanR := by rw [List.map_map]; rfl
  rw [e1, e2]
  generalize (pieces s).map (·.1) = L at hokL hlen ⊢
  refine loopK_rule (fun x => ∃ i : Nat, x = (putAll [] ((L.take i).map spanR), (i : Int)) ∧ i ≤ L.length ∧ (L.take i).any badR = false) (fun x => L.length - x.2.toNat) ⟨0, rfl, by omega, rfl⟩ rfl ?_
  rintro x again ⟨i, rfl, hi, hno⟩ hag
  simp only []
  obtain ⟨g1, g2, g3⟩ := putAll_ok (l := []) (xs := (L.take i).map spanR) (by trivial) (okX_take hokL hno)
  by_cases hlt : i < L.length
  · have hsub : badR (L.getD i (0, (0, false))) = true → L.any badR = true := fun h => List.any_eq_true.2 ⟨_, by rw [List.getD_eq_getElem?_getD, List.getElem?_eq_getElem hlt]; exact List.getElem_mem hlt, h⟩
    have hoki : okIt (L.getD i (0, (0, false))) := hokL _ (by rw [List.getD_eq_getElem?_getD, List.getElem?_eq_getElem hlt]; exact List.getElem_mem hlt)
    have hnext : badR (L.getD i (0, (0, false))) = false → again (putGo (putAll [] ((L.take i).map spanR)) (spanR (L.getD i (0, (0, false)))) false, (i : Int) + 1) = some (if L.any badR then ([], 2) else finish (putAll [] (L.map spanR))) := by
      intro hb
      have := hag (putAll [] ((L.take (i + 1)).map spanR), (i : Int) + 1) ⟨i + 1, by simp, by omega, by rw [any_take (0, (0, false)) badR hlt, hno, hb]; rfl⟩ (by simp; omega)
      rw [take_map_succ spanR (0, (0, false)) hlt, putAll_snoc] at this
      exact this
    rw [decide_eq_true (by omega), cond_true, gd_pos (by omega), jn_eq, Int.toNat_natCast]
    generalize L.getD i (0, (0, false)) = x at hsub hoki hnext ⊢
    have hmod : badR x = false → (bindO (F43 (putAll [] ((L.take i).map spanR)) (x.1, x.2.1)) fun y5 => bnd (IntKind.wrap .i64 ((i : Int) + (1 : Int))) fun x6 => again (y5, x6)) = some (if L.any badR then ([], 2) else finish (putAll [] (L.map spanR))) := by
      intro hb
      obtain ⟨o1, o2, o3, o4⟩ := (bad_ok hoki hb).1
      unfold spanR at o1 o2 o3 o4
      simp only [] at o1 o2 o3 o4
      rw [f43 _ _ (by simp only [List.length_nil, List.length_map, List.length_take, Nat.zero_add] at g2; omega) (fun p hp => (good_mod (by omega) g1 p hp).2.2.2.2) ⟨by simp only []; omega, by simp only []; omega, by simp only []; omega, by simp only []; omega⟩, bindO_some, bnd_eq, i64_wrap (by omega)]
      exact hnext hb
    have hbadT : badR x = true → (some (([] : List Sp), (2 : Int))) = some (if L.any badR then ([], 2) else finish (putAll [] (L.map spanR))) := fun h => by rw [hsub h]; rfl
    unfold badR at hmod hbadT
    by_cases c1 : x.1 < 1
    · rw [decide_eq_true c1, cond_true]
      exact hbadT (by rw [decide_eq_true c1]; rfl)
    · rw [decide_eq_false c1] at hmod hbadT ⊢
      rw [cond_false]
      by_cases c2 : 9999 < x.1
      · rw [decide_eq_true c2, cond_true]
        exact hbadT (by rw [decide_eq_true c2]; rfl)
      · rw [decide_eq_false c2] at hmod hbadT ⊢
        rw [cond_false]
        by_cases c3 : x.2.1 < x.1
        · rw [decide_eq_true c3, cond_true]
          exact hbadT (by rw [decide_eq_true c3]; rfl)
        · rw [decide_eq_false c3] at hmod hbadT ⊢
          rw [cond_false]
          by_cases c4 : 9999 < x.2.1
          · rw [decide_eq_true c4] at hmod hbadT ⊢
            rw [cond_true]
            cases hx : x.2.2
            · rw [Bool.not_false, cond_true]
              exact hbadT (by rw [hx]; rfl)
            · rw [Bool.not_true, cond_false]
              exact hmod (by rw [hx]; rfl)
          · rw [decide_eq_false c4] at hmod hbadT ⊢
            rw [cond_false]
            exact hmod rfl
  · have hi : i = L.length := by omega
    subst hi
    rw [List.take_length] at hno ⊢
    rw [decide_eq_false (by omega), cond_false, f44, bindO_some, hno]
    rfl

/-! ### the code's Parse -/
def spanC (x : It × Bool) : Sp := (x.1.1, if x.1.2.2 then 0 else x.1.2.1)
theorem f16 (s : List UInt8) (hs : s.length ≤ 900000) : F16 s = some (parseP s) := by
  unfold F16 parseP
  rw [jn_eq]
  by_cases h0 : s = []
  · rw [decide_eq_true h0, cond_true, if_pos h0]
  rw [decide_eq_false h0, cond_false, if_neg h0, fSplit_ok (by omega), bindO_some]
  obtain ⟨hsl, hst⟩ := split_small 44 _ s (Nat.le_refl _)
  have hPl : (pieces s).length = (splitP 44 s).length := by unfold pieces; rw [List.length_map]
  have hPi : ∀ i, i < (splitP 44 s).length → (pieces s).getD i ((0, 0, false), false) = itemP (trimP ((splitP 44 s).getD i [])) := by
    intro i hi
    unfold pieces
    rw [List.getD_eq_getElem?_getD, List.getD_eq_getElem?_getD, List.getElem?_map, List.getElem?_eq_getElem hi]; rfl
  have hokP := pieces_okIt s
  simp only [gdN_self]
  generalize hP : pieces s = P at hPl hPi hokP ⊢
  refine loopK_rule (fun x => ∃ i : Nat, x = ((P.take i).map spanC, (P.take i).any (fun x => badR x.1), (i : Int)) ∧ i ≤ P.length ∧ (P.take i).all (·.2) = true) (fun x => P.length - x.2.2.toNat) ⟨0, rfl, by omega, rfl⟩ rfl ?_
  rintro x again ⟨i, rfl, hi, hall⟩ hag
  simp only []
  have hol : ((P.take i).map spanC).length = i := by simp; omega
  by_cases hlt : i < P.length
  · have hmem : P.getD i ((0, 0, false), false) ∈ P := by rw [List.getD_eq_getElem?_getD, List.getElem?_eq_getElem hlt]; exact List.getElem_mem hlt
    have hoki := hokP _ hmem
    have hbad3 : (P.getD i ((0, 0, false), false)).2 = false → some (([] : List Sp), (3 : Int)) = some (if P.all (·.2) = false then ([], 3) else if P.any (fun x => badR x.1) then ([], 2) else finish (putAll [] (P.map fun x => spanR x.1))) := by
      intro h
      have : P.all (·.2) = false := by
        rw [Bool.eq_false_iff]
        intro h2
        rw [List.all_eq_true] at h2
        rw [h2 _ hmem] at h; cases h
      rw [if_pos this]
    have hnext : (P.getD i ((0, 0, false), false)).2 = true → again ((P.take i).map spanC ++ [spanC (P.getD i ((0, 0, false), false))], ((P.take i).any (fun x => badR x.1) || badR (P.getD i ((0, 0, false), false)).1), (i : Int) + 1) = some (if P.all (·.2) = false then ([], 3) else if P.any (fun x => badR x.1) then ([], 2) else finish (putAll [] (P.map fun x => spanR x.1))) := by
      intro h
      have := hag ((P.take (i + 1)).map spanC, (P.take (i + 1)).any (fun x => badR x.1), (i : Int) + 1) ⟨i + 1, by simp, by omega, by
        rw [List.take_succ_eq_append_getElem hlt, List.all_append, hall]
        rw [List.getD_eq_getElem?_getD, List.getElem?_eq_getElem hlt, Option.getD_some] at h
        simp [h]⟩ (by simp; omega)
      rw [take_map_succ spanC ((0, 0, false), false) hlt, any_take ((0, 0, false), false) _ hlt] at this
      exact this
    generalize some (if P.all (·.2) = false then (([] : List Sp), (3 : Int)) else if P.any (fun x => badR x.1) then ([], 2) else finish (putAll [] (P.map fun x => spanR x.1))) = R at hbad3 hnext ⊢
    rw [hPi i (by omega)] at hoki hbad3 hnext
    rw [decide_eq_true (by omega), cond_true, gd_pos (by omega), Int.toNat_natCast]
    have htl : ((splitP 44 s).getD i []).length ≤ 900000 := by
      have hi2 : i < (splitP 44 s).length := by omega
      have := hst ((splitP 44 s).getD i []) (by rw [List.getD_eq_getElem?_getD, List.getElem?_eq_getElem hi2]; exact List.getElem_mem hi2)
      omega
    rw [fTrim_sp (by omega), bindO_some]
    have htl2 := trimP_len ((splitP 44 s).getD i [])
    generalize trimP ((splitP 44 s).getD i []) = t at htl2 hoki hbad3 hnext ⊢
    generalize (P.take i).any (fun x => badR x.1) = bad at hnext ⊢
    have hb : i + 1 ≤ big := by unfold big; omega
    have hle := findN_le t 45
    -- the rest of a round
    have fin : ∀ (j7 : Bool × Int × Bool), ((numP (t.take (findN t 45))).2 && j7.2.2) = (itemP t).2 → ((itemP t).2 = true → spanC (itemP t) = ((numP (t.take (findN t 45))).1, j7.2.1) ∧ (j7.1 || !decide (1 ≤ (numP (t.take (findN t 45))).1 ∧ (numP (t.take (findN t 45))).1 ≤ 9999)) = (bad || badR (itemP t).1)) →
        (cond (!(numP (t.take (findN t 45))).2)
          (some (([] : List (Int × Int)), (3 : Int)))
          (cond (!j7.2.2)
            (some (([] : List (Int × Int)), (3 : Int)))
            (jn (σ := Bool) (fun nextj11 =>
              cond (j7.1)
                (nextj11 true)
                (bindO (F32 (numP (t.take (findN t 45))).1) fun y12 =>
                nextj11 (!y12))) fun j11 =>
            gd (List.length ((P.take i).map spanC) + List.length [((numP (t.take (findN t 45))).1, j7.2.1)] ≤ big) <|
            bnd ((P.take i).map spanC ++ [((numP (t.take (findN t 45))).1, j7.2.1)]) fun l13 =>
            bnd (IntKind.wrap .i64 ((i : Int) + (1 : Int))) fun x14 =>
            again (l13, j11, x14)))) = R := by
      intro j7 h1 h2
      cases ha : (numP (t.take (findN t 45))).2
      · rw [Bool.not_false, cond_true]
        rw [ha, Bool.false_and] at h1
        exact hbad3 h1.symm
      · rw [Bool.not_true, cond_false]
        rw [ha, Bool.true_and] at h1
        cases hj : j7.2.2
        · rw [Bool.not_false, cond_true]
          rw [hj] at h1
          exact hbad3 h1.symm
        · rw [hj] at h1
          obtain ⟨h3, h4⟩ := h2 h1.symm
          have hn := hnext h1.symm
          rw [h3, ← h4] at hn
          rw [Bool.not_true, cond_false, jn_eq]
          have hg : ∀ j11 : Bool, j11 = (j7.1 || !decide (1 ≤ (numP (t.take (findN t 45))).1 ∧ (numP (t.take (findN t 45))).1 ≤ 9999)) → (gd (List.length ((P.take i).map spanC) + List.length [((numP (t.take (findN t 45))).1, j7.2.1)] ≤ big) <|
            bnd ((P.take i).map spanC ++ [((numP (t.take (findN t 45))).1, j7.2.1)]) fun l13 =>
            bnd (IntKind.wrap .i64 ((i : Int) + (1 : Int))) fun x14 =>
            again (l13, j11, x14)) = R := by
            rintro _ rfl
            rw [gd_pos (by rw [hol]; simp; omega), bnd_eq, bnd_eq, i64_wrap (by omega)]
            exact hn
          cases hj1 : j7.1
          · rw [cond_false, f32, bindO_some]
            exact hg _ (by rw [hj1]; rfl)
          · rw [cond_true]
            exact hg _ (by rw [hj1]; rfl)
    have hr1 := numP_range (t.take (findN t 45))
    have hr2 := numP_range (t.drop (findN t 45 + 1))
    rw [fCut_ok (by omega), bindO_some]
    by_cases hk : findN t 45 < t.length
    · rw [if_pos hk]
      simp only []
      rw [f39 _ (by simp; omega), bindO_some, jn_eq, jn_eq, cond_true]
      by_cases hk2 : findN t 45 + 1 = t.length
      · have hd : t.drop (findN t 45 + 1) = [] := List.drop_eq_nil_of_le (by omega)
        rw [hd, decide_eq_true rfl, cond_true]
        refine fin _ ?_ fun hok => ?_
        · unfold itemP
          rw [if_neg (show ¬ findN t 45 = t.length by omega), if_pos hk2]
          cases (numP (t.take (findN t 45))).2 <;> rfl
        · have ha : (numP (t.take (findN t 45))).2 = true := by
            cases ha : (numP (t.take (findN t 45))).2
            · unfold itemP at hok; rw [ha] at hok; cases hok
            · rfl
          unfold itemP
          rw [ha, if_neg (by simp), if_neg (show ¬ findN t 45 = t.length by omega), if_pos hk2]
          refine ⟨rfl, ?_⟩
          unfold badR
          simp only []
          generalize (numP (t.take (findN t 45))).1 = f at hr1 ⊢
          by_cases q1 : f < 1
          · rw [decide_eq_true q1, decide_eq_false (show ¬ (1 ≤ f ∧ f ≤ 9999) by omega)]; cases bad <;> rfl
          · by_cases q2 : 9999 < f
            · rw [decide_eq_true q2, decide_eq_false (show ¬ (1 ≤ f ∧ f ≤ 9999) by omega)]; cases bad <;> simp
            · rw [decide_eq_false q1, decide_eq_false q2, decide_eq_true (show (1 ≤ f ∧ f ≤ 9999) by omega), decide_eq_false (show ¬ (10000 < f) by omega)]; cases bad <;> rfl
      · have hd : t.drop (findN t 45 + 1) ≠ [] := by
          intro h
          have := congrArg List.length h
          simp at this; omega
        rw [decide_eq_false hd]
        simp only []
        rw [cond_false, cond_true, f39 _ (by simp; omega), bindO_some]
        have h1 : ((numP (t.take (findN t 45))).2 && (numP (t.drop (findN t 45 + 1))).2) = (itemP t).2 := by
          unfold itemP
          rw [if_neg (show ¬ findN t 45 = t.length by omega), if_neg hk2]
          cases (numP (t.take (findN t 45))).2 <;> rfl
        have h2 : ∀ b' : Bool, b' = (bad || (!decide (1 ≤ (numP (t.drop (findN t 45 + 1))).1 ∧ (numP (t.drop (findN t 45 + 1))).1 ≤ 9999) || decide ((numP (t.drop (findN t 45 + 1))).1 < (numP (t.take (findN t 45))).1))) → (itemP t).2 = true → spanC (itemP t) = ((numP (t.take (findN t 45))).1, (numP (t.drop (findN t 45 + 1))).1) ∧ (b' || !decide (1 ≤ (numP (t.take (findN t 45))).1 ∧ (numP (t.take (findN t 45))).1 ≤ 9999)) = (bad || badR (itemP t).1) := by
          intro b' hb' hok
          have ha : (numP (t.take (findN t 45))).2 = true := by
            rw [← h1, Bool.and_eq_true] at hok; exact hok.1
          unfold itemP
          rw [ha, if_neg (by simp), if_neg (show ¬ findN t 45 = t.length by omega), if_neg hk2]
          refine ⟨rfl, ?_⟩
          rw [hb']
          unfold badR
          simp only []
          generalize (numP (t.take (findN t 45))).1 = f at hr1 ⊢
          generalize (numP (t.drop (findN t 45 + 1))).1 = g at hr2 ⊢
          rw [Bool.eq_iff_iff]
          simp only [Bool.or_eq_true, Bool.not_eq_true', decide_eq_false_iff_not, decide_eq_true_eq, Bool.and_eq_true]
          cases bad
          · simp only [Bool.false_eq_true, false_or]
            constructor
            · intro h; simp only [Bool.not_false, and_true]; omega
            · intro h; simp only [Bool.not_false, and_true] at h; omega
          · simp
        cases bad
        · rw [cond_false, f32, bindO_some]
          by_cases hv : 1 ≤ (numP (t.drop (findN t 45 + 1))).1 ∧ (numP (t.drop (findN t 45 + 1))).1 ≤ 9999
          · rw [decide_eq_true hv, Bool.not_true, cond_false]
            exact fin (decide ((numP (t.drop (findN t 45 + 1))).1 < (numP (t.take (findN t 45))).1), (numP (t.drop (findN t 45 + 1))).1, (numP (t.drop (findN t 45 + 1))).2) h1 (h2 _ (by rw [decide_eq_true hv]; rfl))
          · rw [decide_eq_false hv, Bool.not_false, cond_true]
            exact fin (true, (numP (t.drop (findN t 45 + 1))).1, (numP (t.drop (findN t 45 + 1))).2) h1 (h2 _ (by rw [decide_eq_false hv]; rfl))
        · rw [cond_true]
          exact fin (true, (numP (t.drop (findN t 45 + 1))).1, (numP (t.drop (findN t 45 + 1))).2) h1 (h2 _ rfl)
    · rw [if_neg hk]
      simp only []
      have hkk : findN t 45 = t.length := by omega
      have htk : t.take (findN t 45) = t := List.take_of_length_le (by omega)
      rw [htk] at fin hr1
      rw [f39 _ (by omega), bindO_some, jn_eq, jn_eq, cond_false]
      simp only []
      rw [cond_false, cond_false]
      refine fin (bad, (numP t).1, true) ?_ fun hok => ?_
      · unfold itemP
        rw [htk, if_pos hkk]
        cases (numP t).2 <;> rfl
      · have ha : (numP t).2 = true := by
          cases ha : (numP t).2
          · unfold itemP at hok; rw [htk, ha] at hok; cases hok
          · rfl
        unfold itemP
        rw [htk, ha, if_neg (by simp), if_pos hkk]
        refine ⟨rfl, ?_⟩
        unfold badR
        simp only []
        generalize (numP t).1 = f at hr1 ⊢
        rw [Bool.eq_iff_iff]
        simp only [Bool.or_eq_true, Bool.not_eq_true', decide_eq_false_iff_not, decide_eq_true_eq, Bool.and_eq_true]
        cases bad
        · simp only [Bool.false_eq_true, false_or, Bool.not_false, and_true]; omega
        · simp
  · have hi : i = P.length := by omega
    subst hi
    rw [List.take_length] at hall ⊢
    rw [decide_eq_false (by omega), cond_false, hall, if_neg (by simp)]
    cases hbad : P.any (fun x => badR x.1)
    · rw [cond_false, if_neg (by simp)]
      have hno : ∀ x ∈ P, badR x.1 = false := fun x hx => by
        rw [Bool.eq_false_iff]
        intro h
        have : P.any (fun x => badR x.1) = true := List.any_eq_true.2 ⟨x, hx, h⟩
        rw [hbad] at this; cases this
      have hE : ends (P.map spanC) = P.map fun x => spanR x.1 := by
        unfold ends
        rw [List.map_map]
        refine List.map_congr_left fun x hx => ?_
        obtain ⟨⟨o1, o2, o3, o4⟩, o5⟩ := bad_ok (hokP x hx) (hno x hx)
        have o6 := (hokP x hx).1
        unfold spanR at o1 o2 o3 o4
        simp only [] at o1 o2 o3 o4
        show endS (spanC x) = spanR x.1
        unfold spanC endS spanR
        cases hx2 : x.1.2.2
        · simp only [Bool.false_eq_true, if_false]
          rw [if_neg (by omega)]
        · simp only [if_true]
          rw [o6 hx2]
      have hokS : ∀ p ∈ P.map spanC, okS p := by
        intro p hp
        obtain ⟨x, hx, rfl⟩ := List.mem_map.1 hp
        obtain ⟨⟨o1, o2, o3, o4⟩, o5⟩ := bad_ok (hokP x hx) (hno x hx)
        unfold spanR at o1 o2 o3 o4
        simp only [] at o1 o2 o3 o4
        unfold spanC okS
        cases hx2 : x.1.2.2
        · simp only [Bool.false_eq_true, if_false]
          rw [hx2] at o5
          simp only [Bool.false_eq_true, false_or] at o5
          exact ⟨by omega, by omega, .inr ⟨by omega, by omega⟩⟩
        · simp only [if_true, true_or, and_true]
          exact ⟨by omega, by omega⟩
      have hokX : ∀ y ∈ P.map fun x => spanR x.1, okX y := by
        intro y hy
        obtain ⟨x, hx, rfl⟩ := List.mem_map.1 hy
        exact (bad_ok (hokP x hx) (hno x hx)).1
      obtain ⟨g1, g2, g3⟩ := putAll_ok (l := []) (by trivial) hokX
      have hrep := reps_iff (reps_of hokS) (M' := fun n => mem n (putAll [] (P.map fun x => spanR x.1))) fun n => by rw [g3, hE]; simp [mem]
      rw [f40 _ (by rw [List.length_map]; omega) hokS, bindO_some, f41 _ _ g1 (by simp only [List.length_nil, List.length_map, Nat.zero_add] at g2; omega) hrep, bindO_some, gdN_self]
    · rw [cond_true, if_pos rfl]
end Go.Proofs.YtdffccmlfhdkpaaDoor
