/-
  Chapter 47: decimal digits, paths, files (turned from chapter 44). No condition.
-/
import Derived.Test.YtecjedagdpnemaaGreatDoorA
namespace Go.Proofs.YtecjedagdpnemaaGreatDoor
open Go Go.Nu
theorem bnd_eq {α β : Type} {a : α} {k : α → Option β} : bnd a k = k a := rfl
theorem drop_getD {α : Type} {l : List α} {i : Nat} (d : α) (h : i < l.length) : l.drop i = l.getD i d :: l.drop (i + 1) := by
  rw [List.drop_eq_getElem_cons h, List.getD_eq_getElem?_getD, List.getElem?_eq_getElem h]; rfl
theorem dec_lt {u : Nat} (h : u < 10) : Lib.decDigits u = [UInt8.ofNat (48 + u)] := by rw [Lib.decDigits, dif_pos h]
theorem dec_ge {u : Nat} (h : ¬ u < 10) : Lib.decDigits u = Lib.decDigits (u / 10) ++ [UInt8.ofNat (48 + u % 10)] := by rw [Lib.decDigits, dif_neg h]
theorem dropWhile_nil {p : UInt8 → Bool} : ∀ {l : List UInt8}, l.dropWhile p = [] ↔ l.all p = true
  | [] => by simp
  | c :: l => by
    rw [List.dropWhile_cons, List.all_cons]
    cases hc : p c
    · simp
    · simp only [if_true, Bool.true_and]
      exact dropWhile_nil
theorem findN_cons (x : UInt8) (s : List UInt8) (c : UInt8) : findN (x :: s) c = if x = c then 0 else findN s c + 1 := by
  unfold findN
  rw [List.takeWhile_cons]
  by_cases h : x = c
  · simp [h]
  · simp [h]
theorem index_one (c : UInt8) : ∀ s : List UInt8, Lib.index s [c] = if findN s c < s.length then (findN s c : Int) else -1
  | [] => by simp [Lib.index, findN]
  | x :: s => by
    rw [Lib.index, findN_cons, index_one c s]
    by_cases h : x = c
    · subst h; simp [List.isPrefixOf]
    · have : ([c] : List UInt8).isPrefixOf (x :: s) = false := by
        simp [List.isPrefixOf]
        exact fun e => h e.symm
      rw [this, if_neg h, if_neg (by simp)]
      by_cases h2 : findN s c < s.length
      · have h3 : findN s c + 1 < (x :: s).length := by simp; omega
        have : ((findN s c : Int) == -1) = false := by rw [beq_eq_false_iff_ne]; omega
        rw [if_pos h2, if_pos h3, this]; simp
      · have h3 : ¬ findN s c + 1 < (x :: s).length := by simp; omega
        rw [if_neg h2, if_neg h3]; rfl
theorem findN_all {a : List UInt8} {c : UInt8} (h : ∀ x ∈ a, x ≠ c) (b : List UInt8) : findN (a ++ b) c = a.length + findN b c := by
  induction a with
  | nil => simp
  | cons x a ih =>
    rw [List.cons_append, findN_cons, if_neg (h x (by simp)), ih fun y hy => h y (List.mem_cons_of_mem _ hy)]
    simp only [List.length_cons]; omega
theorem findN_split {s : List UInt8} {c : UInt8} (h : findN s c < s.length) : s = s.take (findN s c) ++ c :: s.drop (findN s c + 1) ∧ c ∉ s.take (findN s c) := by
  induction s with
  | nil => simp at h
  | cons x s ih =>
    rw [findN_cons] at h ⊢
    by_cases hx : x = c
    · subst hx; simp
    · rw [if_neg hx] at h ⊢
      simp only [List.length_cons] at h
      obtain ⟨h1, h2⟩ := ih (by omega)
      constructor
      · rw [List.take_succ_cons, List.drop_succ_cons, List.cons_append, ← h1]
      · rw [List.take_succ_cons, List.mem_cons]
        rintro (h3 | h3)
        · exact hx h3.symm
        · exact h2 h3
theorem findN_none {s : List UInt8} {c : UInt8} (h : ¬ findN s c < s.length) : c ∉ s := by
  induction s with
  | nil => simp
  | cons x s ih =>
    rw [findN_cons] at h
    by_cases hx : x = c
    · rw [if_pos hx] at h; simp at h
    · rw [if_neg hx] at h
      simp only [List.length_cons] at h
      rw [List.mem_cons]
      rintro (h3 | h3)
      · exact hx h3.symm
      · exact ih (by omega) h3
theorem findN_at {a b : List UInt8} {c : UInt8} (h : c ∉ a) : findN (a ++ c :: b) c = a.length := by
  rw [findN_all (a := a) (c := c) (fun x hx e => h (by rw [← e]; exact hx)), findN_cons, if_pos rfl]; rfl
theorem findN_no {a : List UInt8} {c : UInt8} (h : c ∉ a) : findN a c = a.length := by
  have := findN_all (a := a) (c := c) (fun x hx e => h (by rw [← e]; exact hx)) ([] : List UInt8)
  rw [List.append_nil] at this
  rw [this]; rfl
theorem index_at {a b : List UInt8} {c : UInt8} (h : c ∉ a) : Lib.index (a ++ c :: b) [c] = (a.length : Int) := by
  rw [index_one, findN_at h, if_pos (by simp)]
theorem index_no {a : List UInt8} {c : UInt8} (h : c ∉ a) : Lib.index a [c] = -1 := by
  rw [index_one, findN_no h, if_neg (by omega)]
theorem split_at {a b : List UInt8} {c : UInt8} (h : c ∉ a) (k : Nat) : Lib.splitK [c] 0 (k + 1) (a ++ c :: b) = a :: Lib.splitK [c] 0 k b := by
  have hx : ¬ (((a.length : Int) == -1) = true) := by rw [beq_iff_eq]; omega
  rw [Lib.splitK, index_at h, if_neg hx, Int.toNat_natCast]
  simp
theorem split_no {a : List UInt8} {c : UInt8} (h : c ∉ a) : ∀ k : Nat, Lib.splitK [c] 0 k a = [a]
  | 0 => rfl
  | k + 1 => by rw [Lib.splitK, index_no h, if_pos (by rfl)]
theorem split_len {c : UInt8} : ∀ (k : Nat) (s : List UInt8), (Lib.splitK [c] 0 k s).length ≤ k + 1
  | 0, s => by simp [Lib.splitK]
  | k + 1, s => by
    rw [Lib.splitK]
    split
    · simp
    · have := split_len (c := c) k (s.drop ((Lib.index s [c]).toNat + [c].length))
      rw [List.length_cons]; omega
theorem toNat_nat (n : Nat) : ((n : Int)).toNat = n := Int.toNat_natCast n
theorem dT {p : Prop} [Decidable p] (h : p) : decide p = true := decide_eq_true h
theorem dF {p : Prop} [Decidable p] (h : ¬ p) : decide p = false := decide_eq_false h
theorem trim_all {cs : List UInt8} {p : UInt8 → Bool} (hp : ∀ c, cs.contains c = p c) (s : List UInt8) : Lib.trimS s cs = [] ↔ s.all p = true := by
  unfold Lib.trimS Lib.trimLeftS Lib.trimRightS
  have e : (fun x => cs.contains x) = p := funext hp
  rw [e, dropWhile_nil, List.all_reverse]
  constructor
  · intro h
    have key : ∀ l : List UInt8, (l.dropWhile p).all p = true → l.all p = true := by
      intro l
      induction l with
      | nil => intro _; rfl
      | cons c l ih =>
        rw [List.dropWhile_cons]
        cases hc : p c
        · intro h; simp [hc] at h
        · intro h
          rw [List.all_cons, hc, Bool.true_and]
          exact ih (by simpa using h)
    have := key s.reverse h
    rwa [List.all_reverse] at this
  · intro h
    have : s.reverse.dropWhile p = [] := dropWhile_nil.2 (by rw [List.all_reverse]; exact h)
    rw [this]; rfl
theorem getD_mem {α : Type} {l : List α} {i : Nat} (d : α) (h : i < l.length) : l.getD i d ∈ l := by
  rw [List.getD_eq_getElem?_getD, List.getElem?_eq_getElem h]
  exact List.getElem_mem h
theorem segs_no {s : List UInt8} (h : (47 : UInt8) ∉ s) : segs s = [s] := by
  rw [segs.eq_def, if_neg (by rw [findN_no h]; omega)]
theorem segs_at {a b : List UInt8} (h : (47 : UInt8) ∉ a) : segs (a ++ 47 :: b) = a :: segs b := by
  rw [segs.eq_def, if_pos (by rw [findN_at h]; simp), findN_at h]
  simp
theorem split_segs : ∀ (k : Nat) (s : List UInt8), s.count 47 ≤ k → Lib.splitK [47] 0 k s = segs s
  | 0, s, h => by
    have : (47 : UInt8) ∉ s := by rw [← List.count_eq_zero]; omega
    rw [segs_no this]; rfl
  | k + 1, s, h => by
    by_cases h1 : findN s 47 < s.length
    · obtain ⟨e, hno⟩ := findN_split h1
      have hc : s.count 47 = (s.drop (findN s 47 + 1)).count 47 + 1 := by
        conv => lhs; rw [e]
        rw [List.count_append, List.count_cons_self, List.count_eq_zero.2 hno]; omega
      rw [e, split_at hno, segs_at hno, split_segs k _ (by omega)]
    · rw [split_no (findN_none h1), segs_no (findN_none h1)]
theorem segs_all {p : UInt8 → Bool} : ∀ (n : Nat) (s : List UInt8), s.length ≤ n → (segs s).all (fun t => t.all p) = s.all (fun c => p c || decide (c = 47))
  | 0, s, h => by
    obtain rfl : s = [] := List.length_eq_zero_iff.1 (by omega)
    rw [segs_no (by simp)]; rfl
  | n + 1, s, h => by
    have hin : ∀ {a : List UInt8}, (47 : UInt8) ∉ a → a.all (fun c => p c || decide (c = 47)) = a.all p := by
      intro a ha
      induction a with
      | nil => rfl
      | cons x a ih =>
        rw [List.all_cons, List.all_cons, ih (fun hm => ha (List.mem_cons_of_mem _ hm)), dF (fun e => ha (by rw [e]; exact List.mem_cons_self)), Bool.or_false]
    by_cases h1 : findN s 47 < s.length
    · obtain ⟨e, hno⟩ := findN_split h1
      have hl := congrArg List.length e
      rw [List.length_append, List.length_cons] at hl
      rw [e, segs_at hno, List.all_cons, segs_all n _ (by omega), List.all_append, List.all_cons, hin hno, dT rfl, Bool.or_true, Bool.true_and]
    · rw [segs_no (findN_none h1), hin (findN_none h1), List.all_cons, List.all_nil, Bool.and_true]
theorem getD_nat {α : Type} (l : List α) (i : Nat) (d : α) : List.getD l (Int.toNat (i : Int)) d = l.getD i d := by rw [Int.toNat_natCast]
set_option maxRecDepth 10000 in
theorem path_mem (b : UInt8) : (([97, 98, 99, 100, 101, 102, 103, 104, 105, 106, 107, 108, 109, 110, 111, 112, 113, 114, 115, 116, 117, 118, 119, 120, 121, 122, 48, 49, 50, 51, 52, 53, 54, 55, 56, 57, 46, 95, 45, 47] : List UInt8).contains b) = (pcB b.toNat || decide (b = 47)) := by
  have : ∀ k : Fin 256, (([97, 98, 99, 100, 101, 102, 103, 104, 105, 106, 107, 108, 109, 110, 111, 112, 113, 114, 115, 116, 117, 118, 119, 120, 121, 122, 48, 49, 50, 51, 52, 53, 54, 55, 56, 57, 46, 95, 45, 47] : List UInt8).contains (UInt8.ofNat k)) = (pcB (UInt8.ofNat k).toNat || decide (UInt8.ofNat k = 47)) := by decide
  have h := this ⟨b.toNat, b.toNat_lt⟩
  simpa using h
def plainB (s : List UInt8) : Bool := decide (s ≠ []) && (decide (s ≠ [46]) && decide (s ≠ [46, 46]))
theorem all_and {α : Type} (l : List α) (p q : α → Bool) : (l.all fun x => p x && q x) = (l.all p && l.all q) := by
  induction l with
  | nil => rfl
  | cons a l ih =>
    rw [List.all_cons, List.all_cons, List.all_cons, ih]
    cases p a <;> cases q a <;> simp
theorem g29 (s : List UInt8) (hs : s.length ≤ 1000000) : F76 s = some (pathB s) := by
  unfold F76 pathB
  by_cases h0 : s = []
  · subst h0
    rw [segs_no (by simp)]; rfl
  have hp : 0 < s.length := List.length_pos_iff.2 h0
  rw [dF (by omega), cond_false]
  by_cases h60 : 60 < s.length
  · rw [dT (by omega), cond_true, dF (by omega), Bool.false_and]
  rw [dF (by omega), cond_false, dT (by omega), Bool.true_and]
  unfold fTrim
  rw [if_pos ⟨by omega, by simp, by decide⟩, bindO_some]
  have hall : (segs s).all partB = (s.all (fun c => pcB c.toNat || decide (c = 47)) && (segs s).all plainB) := by
    show ((segs s).all fun t => (t.all fun c => pcB c.toNat) && plainB t) = _
    rw [all_and, segs_all (p := fun c => pcB c.toNat) s.length s (Nat.le_refl _)]
  rw [hall]
  have ht := trim_all path_mem s
  cases hx : (s.all fun c => pcB c.toNat || decide (c = 47)) with
  | false =>
    rw [dF (fun e => by rw [ht.1 e] at hx; cases hx), Bool.not_false, cond_true, Bool.false_and]
  | true =>
    rw [dT (ht.2 hx), Bool.not_true, cond_false, Bool.true_and]
    unfold fSplit
    rw [if_pos ⟨by omega, by simp⟩, bindO_some, split_segs _ _ (by rw [Lib.count_one]; exact Nat.le_refl _)]
    have hlen : (segs s).length ≤ 1000000 := by
      rw [← split_segs _ _ (Nat.le_refl _)]
      have := split_len (c := 47) (s.count 47) s
      have := List.count_le_length (l := s) (a := (47 : UInt8))
      omega
    generalize segs s = l at hlen
    refine loopK_rule (fun x : Int => ∃ i : Nat, x = (i : Int) ∧ i ≤ l.length ∧ (l.drop i).all plainB = l.all plainB) (fun x => l.length - x.toNat) ⟨0, rfl, by omega, rfl⟩ rfl ?_
    rintro _ again ⟨i, rfl, h1, h2⟩ hag
    by_cases hc : i < l.length
    · rw [dT (by omega), cond_true, gd_pos (by omega), getD_nat]
      rw [drop_getD [] hc, List.all_cons] at h2
      rw [← h2]
      unfold plainB
      by_cases e1 : l.getD i [] = []
      · rw [dT e1, cond_true, e1]; rfl
      rw [dF e1, cond_false, dT e1]
      by_cases e2 : l.getD i [] = [46]
      · rw [dT e2, cond_true, e2]; rfl
      rw [dF e2, cond_false, dT e2]
      by_cases e3 : l.getD i [] = [46, 46]
      · rw [dT e3, cond_true, e3]; rfl
      rw [dF e3, cond_false, dT e3, Bool.true_and, Bool.true_and, Bool.true_and]
      simp only [bnd_eq]
      rw [i64_wrap (by omega)]
      have h2' : (l.drop (i + 1)).all plainB = l.all plainB := by
        rw [← h2]
        unfold plainB
        rw [dT e1, dT e2, dT e3]; rfl
      have := hag ((i : Int) + 1) ⟨i + 1, by simp, by omega, h2'⟩ (by omega)
      rw [this, ← h2']; rfl
    · rw [dF (by omega), cond_false, ← h2, List.drop_of_length_le (by omega)]; rfl
theorem dec_len9 : ∀ (k u : Nat), u < 10 ^ (k + 1) → (Lib.decDigits u).length ≤ k + 1
  | 0, u, h => by rw [dec_lt (by simpa using h)]; simp
  | k + 1, u, h => by
    by_cases h1 : u < 10
    · rw [dec_lt h1]; simp
    · rw [dec_ge h1, List.length_append, List.length_singleton]
      have := dec_len9 k (u / 10) (by rw [Nat.pow_succ] at h; omega)
      omega
def Fit (l : List File) : Prop := l.length ≤ 1000 ∧ ∀ f ∈ l, f.1.length ≤ 50000 ∧ f.2.length ≤ 50000
theorem fit_at {l : List File} (h : Fit l) (i : Nat) : (l.getD i ([], [])).1.length ≤ 50000 ∧ (l.getD i ([], [])).2.length ≤ 50000 := by
  by_cases hi : i < l.length
  · exact h.2 _ (getD_mem _ hi)
  · rw [List.getD_eq_getElem?_getD, List.getElem?_eq_none (by omega)]; simp
def prev (l : List File) (i : Nat) : Option (List UInt8) := if i = 0 then none else some (l.getD (i - 1) ([], [])).1
theorem right_step {l : List File} {i : Nat} (h : i < l.length) : rightL (prev l i) (l.drop i) = if pathB (l.getD i ([], [])).1 = false then 3 else if badO (prev l i) (l.getD i ([], [])).1 = true then 7 else if 2000 < (l.getD i ([], [])).2.length then 4 else rightL (prev l (i + 1)) (l.drop (i + 1)) := by
  rw [drop_getD ([], []) h, rightL]
  have : prev l (i + 1) = some (l.getD i ([], [])).1 := by unfold prev; rw [if_neg (by omega), Nat.add_sub_cancel]
  rw [this]
theorem bad_pos (l : List File) {i : Nat} (h : 0 < i) : badO (prev l i) (l.getD i ([], [])).1 = (Op.bytesLess (l.getD i ([], [])).1 (l.getD (i - 1) ([], [])).1 || decide ((l.getD i ([], [])).1 = (l.getD (i - 1) ([], [])).1)) := by
  unfold prev; rw [if_neg (by omega)]; rfl
theorem g13 (l : List File) (hs : Fit l) : F38 l = some (rightP l) := by
  unfold F38 rightP
  by_cases h0 : l.length = 0
  · rw [dT (by omega), cond_true, if_pos h0]
  rw [dF (by omega), cond_false, if_neg h0]
  by_cases h16 : 16 < l.length
  · rw [dT (by omega), cond_true, if_pos h16]
  rw [dF (by omega), cond_false, if_neg h16]
  refine loopK_rule (fun x : Int => ∃ i : Nat, x = (i : Int) ∧ i ≤ l.length ∧ rightL (prev l i) (l.drop i) = rightL none l) (fun x => l.length - x.toNat) ⟨0, rfl, by omega, rfl⟩ rfl ?_
  rintro _ again ⟨i, rfl, h1, h2⟩ hag
  by_cases hc : i < l.length
  · have hf := fit_at hs i
    rw [dT (by omega), cond_true, gd_pos (by omega), getD_nat, g29 _ (by omega), bindO_some, ← h2, right_step hc]
    rw [right_step hc] at h2
    cases hp : pathB (l.getD i ([], [])).1 with
    | false => rfl
    | true =>
      rw [hp] at h2
      rw [Bool.not_true, cond_false, if_neg (by simp), jn_eq]
      dsimp only
      rw [if_neg (by simp)] at h2
      have rest : ∀ b : Bool, b = badO (prev l i) (l.getD i ([], [])).1 → (cond b
              (some (7 : Int))
              (cond (decide ((2000 : Int) < (List.length ((l.getD i ([], [])).2) : Int)))
                (some (4 : Int))
                (bnd (IntKind.wrap .i64 ((i : Int) + (1 : Int))) fun x5 =>
                again x5))) = some (if badO (prev l i) (l.getD i ([], [])).1 = true then 7 else if 2000 < (l.getD i ([], [])).2.length then 4 else rightL (prev l (i + 1)) (l.drop (i + 1))) := by
        rintro b rfl
        cases hb : badO (prev l i) (l.getD i ([], [])).1 with
        | true => rfl
        | false =>
          rw [cond_false, if_neg (by simp)]
          rw [hb, if_neg (by simp)] at h2
          by_cases h3 : 2000 < (l.getD i ([], [])).2.length
          · rw [dT (by omega), cond_true, if_pos h3]
          · rw [dF (by omega), cond_false, if_neg h3]
            rw [if_neg h3] at h2
            simp only [bnd_eq]
            rw [i64_wrap (by omega), h2]
            exact hag _ ⟨i + 1, by simp, by omega, h2⟩ (by omega)
      by_cases hi : 0 < i
      · rw [dT (by omega), cond_true]
        simp only [bnd_eq]
        rw [i64_wrap (by omega), gd_pos (by omega), show ((i : Int) - 1).toNat = i - 1 by omega]
        exact rest _ (bad_pos l hi).symm
      · rw [dF (by omega), cond_false]
        refine rest false ?_
        unfold prev
        rw [if_pos (by omega)]; rfl
  · rw [dF (by omega), cond_false, ← h2, List.drop_of_length_le (by omega)]; rfl
theorem leaves_ok {l : List File} (hs : Fit l) : Ok (l.map leafF) := by
  refine ⟨by rw [List.length_map]; have := hs.1; omega, fun s h => ?_⟩
  obtain ⟨f, _, rfl⟩ := List.mem_map.1 h
  unfold leafF; rw [dig_len]; omega
theorem take_map {α β : Type} (g : α → β) (l : List α) (d : α) {i : Nat} (h : i < l.length) : (l.map g).take (i + 1) = (l.map g).take i ++ [g (l.getD i d)] := by
  rw [List.take_succ_eq_append_getElem (by rw [List.length_map]; exact h), List.getElem_map, List.getD_eq_getElem?_getD, List.getElem?_eq_getElem h]; rfl
theorem gdN_rfl {α : Type} (n : Nat) (x : Option α) : gdN n n x = x := if_pos rfl
theorem g15 (l : List File) (hs : Fit l) : F40 l = some (rootP l) := by
  unfold F40
  rw [gdN_rfl]
  have hl := hs.1
  refine loopK_rule (fun p : List (List UInt8) × Int => ∃ i : Nat, p = ((l.map leafF).take i, (i : Int)) ∧ i ≤ l.length) (fun p => l.length - p.2.toNat) ⟨0, rfl, by omega⟩ rfl ?_
  rintro _ again ⟨i, rfl, h1⟩ hag
  simp only []
  by_cases hc : i < l.length
  · have hf := fit_at hs i
    rw [dT (by omega), cond_true, gd_pos (by omega), getD_nat]
    simp only [bnd_eq]
    rw [gd_pos (by unfold big; simp only [List.length_cons, List.length_nil]; omega), gd_pos (by unfold big; rw [List.length_append]; simp only [List.length_cons, List.length_nil]; omega),
      f11 _ (by rw [List.length_append, List.length_append]; simp only [List.length_cons, List.length_nil]; omega), bindO_some, gdN_rfl,
      gd_pos (by unfold big; rw [List.length_take]; simp only [List.length_cons, List.length_nil]; omega), i64_wrap (by omega), gdN_rfl]
    refine hag _ ⟨i + 1, ?_, by omega⟩ (by simp only []; omega)
    rw [take_map leafF l ([], []) hc]; rfl
  · rw [dF (by omega), cond_false, List.take_of_length_le (by rw [List.length_map]; omega), f18 _ (leaves_ok hs), bindO_some]; rfl
end Go.Proofs.YtecjedagdpnemaaGreatDoor
