/-
  Chapter 11: records are read line by line, by the program and by the reference. No condition.
-/
import Derived.Test.YtbkaenpcmbplpaaGreatDoorV
namespace Go.Proofs.YtbkaenpcmbplpaaGreatDoor
open Go Go.Nu

theorem gdN_nil {α β : Type} {x : Option β} : gdN (List.length ([] : List α)) 0 x = x := if_pos rfl
def zeroR : Rec := (0, 0, 0, [], [])
noncomputable def hdrP (s : List UInt8) : Option Rec := open Classical in if h : ∃ r, OkH r ∧ headR r = s ∧ r.2.2.2.2 = [] then some h.choose else none
theorem hdrP_some {s : List UInt8} {r : Rec} (h : hdrP s = some r) : OkH r ∧ headR r = s ∧ r.2.2.2.2 = [] := by
  unfold hdrP at h
  split at h
  · rename_i hx
    cases h
    exact hx.choose_spec
  · cases h
theorem hdrP_print {r : Rec} (h : OkH r) (hn : r.2.2.2.2 = []) : hdrP (headR r) = some r := by
  unfold hdrP
  have hx : ∃ q, OkH q ∧ headR q = headR r ∧ q.2.2.2.2 = [] := ⟨r, h, rfl, hn⟩
  rw [dif_pos hx]
  have := hx.choose_spec
  rw [headR_inj this.1 h this.2.1 (by rw [this.2.2, hn])]
theorem okH_nil {r : Rec} (h : OkH r) : OkH (r.1, r.2.1, r.2.2.1, r.2.2.2.1, []) := ⟨h.id0, h.id1, h.v0, h.v1, h.k0, h.k1, h.lang⟩
theorem hdrP_none {s : List UInt8} (h : ¬ ∃ r, OkH r ∧ headR r = s) : hdrP s = none := by
  unfold hdrP
  rw [dif_neg]
  rintro ⟨r, h1, h2, _⟩
  exact h ⟨r, h1, h2⟩
theorem hdr_true {s : List UInt8} {y : Rec × Bool} (h : HdrOk s y) (e : y.2 = true) : hdrP s = some y.1 := by
  obtain ⟨h1, h2⟩ := h.yes e
  rw [← h2]
  exact hdrP_print h1 h.nil
theorem hdr_false {s : List UInt8} {y : Rec × Bool} (h : HdrOk s y) (e : y.2 = false) : hdrP s = none := hdrP_none (h.no e)

theorem cut_true {s : List UInt8} {c : UInt8} (h : (Lib.cut s [c]).2.2 = true) : s = (Lib.cut s [c]).1 ++ c :: (Lib.cut s [c]).2.1 ∧ c ∉ (Lib.cut s [c]).1 := by
  rw [cut_one] at h ⊢
  split at h
  · rename_i hk
    rw [if_pos hk]
    exact findN_split hk
  · cases h
theorem cut_false {s : List UInt8} {c : UInt8} (h : (Lib.cut s [c]).2.2 = false) : Lib.cut s [c] = (s, [], false) := by
  rw [cut_one] at h ⊢
  split at h
  · cases h
  · rename_i hk
    rw [if_neg hk]
theorem cut_len (s : List UInt8) (c : UInt8) : (Lib.cut s [c]).1.length ≤ s.length ∧ (Lib.cut s [c]).2.1.length ≤ s.length := by
  rw [cut_one]
  split
  · simp only [List.length_take, List.length_drop]; omega
  · simp
noncomputable def linesG : Nat → List UInt8 → List Field → Int → List Field × List UInt8 × Int × Int
  | 0, s, _, n => ([], s, n + 1, 3)
  | k + 1, s, fs, n =>
    if (Lib.cut s [10]).1 = [] then (if (Lib.cut s [10]).2.2 = true then (fs, (Lib.cut s [10]).2.1, n + 1, 0) else ([], s, n + 1, 3))
    else if 64 ≤ fs.length then ([], s, n + 1, 4)
    else if (Lib.cut s [10]).2.2 = true ∧ (parseP (Lib.cut s [10]).1).2 = 0 then linesG k (Lib.cut s [10]).2.1 (fs ++ [(parseP (Lib.cut s [10]).1).1]) (n + 1)
    else ([], s, n + 1, 3)
theorem linesG_fuel : ∀ (k m : Nat) (s : List UInt8) (fs : List Field) (n : Int), s.length < k → s.length < m → linesG k s fs n = linesG m s fs n
  | 0, _, _, _, _, h, _ => by omega
  | _ + 1, 0, _, _, _, _, h => by omega
  | k + 1, m + 1, s, fs, n, h1, h2 => by
    unfold linesG
    split
    · rfl
    · split
      · rfl
      · split
        · rename_i hc
          have := congrArg List.length (cut_true hc.1).1
          rw [List.length_append, List.length_cons] at this
          exact linesG_fuel k m _ _ _ (by omega) (by omega)
        · rfl
noncomputable def linesP (s : List UInt8) (fs : List Field) (n : Int) : List Field × List UInt8 × Int × Int := linesG (s.length + 1) s fs n
theorem linesP_step (s : List UInt8) (fs : List Field) (n : Int) : linesP s fs n =
    if (Lib.cut s [10]).1 = [] then (if (Lib.cut s [10]).2.2 = true then (fs, (Lib.cut s [10]).2.1, n + 1, 0) else ([], s, n + 1, 3))
    else if 64 ≤ fs.length then ([], s, n + 1, 4)
    else if (Lib.cut s [10]).2.2 = true ∧ (parseP (Lib.cut s [10]).1).2 = 0 then linesP (Lib.cut s [10]).2.1 (fs ++ [(parseP (Lib.cut s [10]).1).1]) (n + 1)
    else ([], s, n + 1, 3) := by
  unfold linesP
  conv => lhs; unfold linesG
  split
  · rfl
  · split
    · rfl
    · split
      · rename_i hc
        have := congrArg List.length (cut_true hc.1).1
        rw [List.length_append, List.length_cons] at this
        exact linesG_fuel _ _ _ _ _ (by omega) (by omega)
      · rfl
def withF (h : Rec) (fs : List Field) : Rec := (h.1, h.2.1, h.2.2.1, h.2.2.2.1, fs)
noncomputable def nextP (s : List UInt8) : Rec × List UInt8 × Int × Int :=
  match hdrP (Lib.cut s [10]).1 with
  | none => (zeroR, [], 1, 3)
  | some h => if (Lib.cut s [10]).2.2 = true then
      (if (linesP (Lib.cut s [10]).2.1 [] 1).2.2.2 = 0 then (withF h (linesP (Lib.cut s [10]).2.1 [] 1).1, (linesP (Lib.cut s [10]).2.1 [] 1).2.1, (linesP (Lib.cut s [10]).2.1 [] 1).2.2.1, 0)
        else (zeroR, [], (linesP (Lib.cut s [10]).2.1 [] 1).2.2.1, (linesP (Lib.cut s [10]).2.1 [] 1).2.2.2))
    else (zeroR, [], 1, 3)

theorem f31 (s : List UInt8) (hs : s.length ≤ 1000000) : F31 s = some (nextP s) := by
  unfold F31 nextP
  have hcl := cut_len s 10
  unfold fCut
  rw [if_pos (by omega), bindO_some]
  generalize hc : Lib.cut s [10] = c at *
  obtain ⟨y, hy, hk⟩ := f48 c.1 (by omega)
  rw [hy, bindO_some, hk.nil, gdN_nil]
  by_cases hend' : ¬ c.2.2 = true
  · have hend : c.2.2 = false := by simpa using hend'
    rw [hend]
    refine jn_rule (fun b => b = true) (fun next hn => ?_) ?_
    · rw [Bool.not_false, cond_true]
      exact hn _ rfl
    rintro _ rfl
    rw [cond_true]
    cases hdrP c.1 with
    | none => rfl
    | some h => rfl
  have hend : c.2.2 = true := Decidable.not_not.1 hend'
  rw [hend]
  refine jn_rule (fun b => b = !y.2) (fun next hn => ?_) ?_
  · rw [Bool.not_true, cond_false]
    exact hn _ rfl
  rintro _ rfl
  cases hy2 : y.2 with
  | false =>
    rw [hdr_false hk hy2, Bool.not_false, cond_true]; rfl
  | true =>
  rw [hdr_true hk hy2, Bool.not_true, cond_false]
  simp only [eq_self, if_true]
  rw [show gdN 0 (List.length ([] : List Field)) = id from funext fun x => if_pos rfl]
  simp only [id]
  generalize hQ : linesP c.2.1 [] 1 = Q
  refine loopK_rule (fun p : Int × List UInt8 × Rec × Rec => ∃ fs : List Field, p.2.2.2 = withF y.1 fs ∧ linesP p.2.1 fs p.1 = Q ∧ p.2.1.length ≤ 1000000 ∧ 0 ≤ p.1 ∧ p.1 + p.2.1.length ≤ 1000001 ∧ fs.length ≤ 64) (fun p => p.2.1.length)
    ⟨[], rfl, hQ, by simp only []; omega, by simp only []; omega, by simp only []; omega, by simp⟩ (by split <;> rfl) ?_
  rintro ⟨n, t, junk, _⟩ again ⟨fs, rfl, he, ht, hn0, hn1, hfl⟩ hag
  simp only at he ht hn0 hn1 hag ⊢
  unfold big
  have hct := cut_len t 10
  rw [bnd_eq, i64_wrap (by omega), if_pos (by omega), bindO_some]
  rw [linesP_step] at he
  have hlt : (Lib.cut t [10]).2.2 = true → (Lib.cut t [10]).2.1.length < t.length := fun h => by
    have := congrArg List.length (cut_true h).1
    rw [List.length_append, List.length_cons] at this
    omega
  generalize Lib.cut t [10] = d at *
  by_cases h1 : d.1 = []
  · rw [dT h1, cond_true]
    rw [if_pos h1] at he
    cases hd : d.2.2 with
    | false =>
      rw [hd, if_neg (by simp)] at he
      rw [← he]; rfl
    | true =>
      rw [hd, if_pos rfl] at he
      rw [← he]; rfl
  rw [dF h1, cond_false]
  rw [if_neg h1] at he
  simp only [show (withF y.1 fs).2.2.2.2 = fs from rfl, show (withF y.1 fs).1 = y.1.1 from rfl, show (withF y.1 fs).2.1 = y.1.2.1 from rfl, show (withF y.1 fs).2.2.1 = y.1.2.2.1 from rfl, show (withF y.1 fs).2.2.2.1 = y.1.2.2.2.1 from rfl]
  by_cases h64 : 64 ≤ fs.length
  · rw [dT (by omega), cond_true]
    rw [if_pos h64] at he
    rw [← he]; rfl
  rw [dF (by omega), cond_false, f49 _ (by omega), bindO_some]
  rw [if_neg h64] at he
  refine jn_rule (fun b => b = decide (¬ (d.2.2 = true ∧ (parseP d.1).2 = 0))) (fun next hn => ?_) ?_
  · cases hd : d.2.2 with
    | false =>
      rw [Bool.not_false, cond_true]
      exact hn _ (by rw [hd]; simp)
    | true =>
      rw [Bool.not_true, cond_false]
      refine hn _ ?_
      rw [hd]
      by_cases hz : (parseP d.1).2 = 0
      · simp [hz]
      · simp [hz]
  rintro _ rfl
  by_cases hg : d.2.2 = true ∧ (parseP d.1).2 = 0
  · rw [if_pos hg] at he
    rw [dF (by simpa using hg), cond_false, gdN_self, gd_pos (by simp only [List.length_singleton]; omega)]
    simp only [bnd_eq, gdN_self]
    have := hlt hg.1
    exact hag _ ⟨fs ++ [(parseP d.1).1], rfl, he, by simp only []; omega, by simp only []; omega, by simp only []; omega, by simp only [List.length_append, List.length_singleton]; omega⟩ (by simp only []; omega)
  · rw [if_neg hg] at he
    rw [dT hg, cond_true, ← he]; rfl

/-! ### the reference -/
theorem f50 (s : List UInt8) (a : Nat) (ha : a ≤ s.length) (hs : s.length ≤ 1000000) :
    F50 s a = some ((Lib.cut (s.drop a) [10]).1, ((s.length - (Lib.cut (s.drop a) [10]).2.1.length : Nat) : Int), (Lib.cut (s.drop a) [10]).2.2) := by
  unfold F50
  rw [cut_one]
  have hl : (s.drop a).length = s.length - a := List.length_drop
  have hfl := findN_le (s.drop a) 10
  refine loopK_rule (fun p : Int => ∃ i : Nat, p = i ∧ a ≤ i ∧ i ≤ s.length ∧ i + findN (s.drop i) 10 = a + findN (s.drop a) 10) (fun p => s.length - p.toNat) ⟨a, rfl, Nat.le_refl _, ha, rfl⟩ (by split <;> rfl) ?_
  rintro _ again ⟨i, rfl, hai, hi, he⟩ hag
  by_cases hlt : i < s.length
  · rw [dT (by omega), cond_true, gd_pos (by omega), toNat_nat]
    rw [drop_cons hlt, findN_cons] at he
    by_cases hc : s.getD i 0 = 10
    · have h10 : (s.getD i 0).toNat = 10 := by rw [hc]; rfl
      rw [dT (by omega), cond_true, gd_pos (by omega), bnd_eq, bnd_eq, i64_wrap (by omega)]
      rw [if_pos hc] at he
      have hk : findN (s.drop a) 10 = i - a := by omega
      rw [hk, if_pos (by omega)]
      congr 1
      refine Prod.ext ?_ (Prod.ext ?_ rfl)
      · simp only [toNat_nat]
        rw [List.drop_take]
      · simp only [List.length_drop]; omega
    · have h10 : ¬ (s.getD i 0).toNat = 10 := fun e => hc (by rw [← UInt8.toNat_inj]; exact e)
      rw [dF (by omega), cond_false, bnd_eq, i64_wrap (by omega)]
      rw [if_neg hc] at he
      exact hag _ ⟨i + 1, by omega, by omega, by omega, by omega⟩ (by omega)
  · rw [dF (by omega), cond_false, gd_pos (by omega), bnd_eq, toNat_nat]
    have hi2 : i = s.length := by omega
    subst hi2
    have hf0 : findN (s.drop s.length) 10 = 0 := by rw [List.drop_length]; rfl
    rw [hf0] at he
    rw [if_neg (by omega)]
    simp
noncomputable def outR (s : List UInt8) (a : Nat) (line : Int) : Rec × (Int × Int) × Int :=
  match hdrP (Lib.cut (s.drop a) [10]).1 with
  | none => (zeroR, ((a : Int), line), 3)
  | some h => if (Lib.cut (s.drop a) [10]).2.2 = true then
      (if (linesP (Lib.cut (s.drop a) [10]).2.1 [] 1).2.2.2 = 0 then
          (withF h (linesP (Lib.cut (s.drop a) [10]).2.1 [] 1).1, (((s.length - (linesP (Lib.cut (s.drop a) [10]).2.1 [] 1).2.1.length : Nat) : Int), line + (linesP (Lib.cut (s.drop a) [10]).2.1 [] 1).2.2.1), 0)
        else (zeroR, (((s.length - (linesP (Lib.cut (s.drop a) [10]).2.1 [] 1).2.1.length : Nat) : Int), line + (linesP (Lib.cut (s.drop a) [10]).2.1 [] 1).2.2.1 - 1), (linesP (Lib.cut (s.drop a) [10]).2.1 [] 1).2.2.2))
    else (zeroR, ((a : Int), line), 3)
theorem cut_rest {s : List UInt8} {a : Nat} (ha : a ≤ s.length) : s.drop (s.length - (Lib.cut (s.drop a) [10]).2.1.length) = (Lib.cut (s.drop a) [10]).2.1 := by
  have hl : (s.drop a).length = s.length - a := List.length_drop
  rw [cut_one]
  split
  · rename_i h
    simp only [List.length_drop]
    rw [List.drop_drop]
    congr 1
    omega
  · simp
theorem f32 (s : List UInt8) (a : Nat) (line : Int) (ha : a ≤ s.length) (hs : s.length ≤ 1000000) (hl0 : 0 ≤ line) (hl1 : line ≤ 100000000) : F32 s ((a : Int), line) = some (outR s a line) := by
  unfold F32 outR
  dsimp only
  have hcl := cut_len (s.drop a) 10
  have hdl : (s.drop a).length = s.length - a := List.length_drop
  rw [f50 s a ha hs, bindO_some]
  have hcr := cut_rest ha
  generalize hc : Lib.cut (s.drop a) [10] = c at *
  dsimp only
  obtain ⟨y, hy, hk⟩ := f51 c.1 (by omega)
  rw [hy, bindO_some, hk.nil, gdN_nil]
  cases hy2 : y.2 with
  | false =>
    refine jn_rule (fun b => b = true) (fun next hn => ?_) ?_
    · rw [Bool.not_false, cond_true]
      exact hn _ rfl
    rintro _ rfl
    rw [cond_true, hdr_false hk hy2]; rfl
  | true =>
  rw [hdr_true hk hy2]
  by_cases hend' : ¬ c.2.2 = true
  · have hend : c.2.2 = false := by simpa using hend'
    rw [hend]
    refine jn_rule (fun b => b = true) (fun next hn => ?_) ?_
    · rw [Bool.not_true, cond_false]
      exact hn _ rfl
    rintro _ rfl
    rw [cond_true]; rfl
  have hend : c.2.2 = true := Decidable.not_not.1 hend'
  rw [hend]
  refine jn_rule (fun b => b = false) (fun next hn => ?_) ?_
  · rw [Bool.not_true, cond_false]
    exact hn _ rfl
  rintro _ rfl
  rw [cond_false]
  simp only [eq_self, if_true]
  rw [show gdN 0 (List.length ([] : List Field)) = id from funext fun x => if_pos rfl]
  simp only [id]
  generalize hQ : linesP c.2.1 [] 1 = Q
  refine loopK_rule (fun p : Int × (Int × Int) × Rec × (Int × Int) × Rec => ∃ (b : Nat) (fs : List Field) (n : Int), p.1 = b ∧ b ≤ s.length ∧ p.2.1.2 = line + n - 1 ∧ p.2.2.2.2 = withF y.1 fs ∧ linesP (s.drop b) fs n = Q ∧ 0 ≤ n ∧ n + (s.length - b) ≤ 1000001 ∧ fs.length ≤ 64) (fun p => s.length - p.1.toNat)
    ⟨s.length - c.2.1.length, [], 1, rfl, by omega, by simp only []; omega, rfl, by rw [hcr]; exact hQ, by omega, by omega, by simp⟩ (by split <;> rfl) ?_
  rintro ⟨_, ⟨pa, _⟩, junk, junk2, _⟩ again ⟨b, fs, n, rfl, hb, rfl, rfl, he, hn0, hn1, hfl⟩ hag
  simp only at he hn0 hn1 hag ⊢
  unfold big
  rw [bnd_eq, i64_wrap (by omega), f50 s b hb hs, bindO_some]
  have hbr := cut_rest hb
  have hbl := cut_len (s.drop b) 10
  have hbd : (s.drop b).length = s.length - b := List.length_drop
  rw [linesP_step] at he
  have hlt : (Lib.cut (s.drop b) [10]).2.2 = true → (Lib.cut (s.drop b) [10]).2.1.length < s.length - b := fun h => by
    have := congrArg List.length (cut_true h).1
    rw [List.length_append, List.length_cons] at this
    omega
  generalize Lib.cut (s.drop b) [10] = d at *
  dsimp only
  simp only [show (withF y.1 fs).2.2.2.2 = fs from rfl, show (withF y.1 fs).1 = y.1.1 from rfl, show (withF y.1 fs).2.1 = y.1.2.1 from rfl, show (withF y.1 fs).2.2.1 = y.1.2.2.1 from rfl, show (withF y.1 fs).2.2.2.1 = y.1.2.2.2.1 from rfl]
  have hplace : ∀ e : Int, ([], s.drop b, n + 1, e) = Q → e ≠ 0 → (zeroR, ((b : Int), line + n - 1 + 1), e) = (if Q.2.2.2 = 0 then (withF y.1 Q.1, (((s.length - Q.2.1.length : Nat) : Int), line + Q.2.2.1), (0 : Int)) else (zeroR, (((s.length - Q.2.1.length : Nat) : Int), line + Q.2.2.1 - 1), Q.2.2.2)) := by
    rintro e rfl he0
    rw [if_neg he0]
    simp only [hbd]
    refine Prod.ext rfl (Prod.ext (Prod.ext ?_ ?_) rfl) <;> simp only [] <;> omega
  refine jn_rule (fun x => x = decide (d.1 ≠ [] ∧ 64 ≤ fs.length)) (fun next hn => ?_) ?_
  · by_cases h1 : d.1 = []
    · rw [dT h1, Bool.not_true, cond_false]
      exact hn _ (dF (fun h => h.1 h1)).symm
    · rw [dF h1, Bool.not_false, cond_true]
      refine hn _ ?_
      rw [Bool.eq_iff_iff, decide_eq_true_eq, decide_eq_true_eq]
      constructor
      · intro h; exact ⟨h1, by omega⟩
      · intro h; omega
  rintro _ rfl
  by_cases h1 : d.1 = []
  · rw [dF (fun h => h.1 h1), cond_false]
    rw [if_pos h1] at he
    cases hd : d.2.2 with
    | false =>
      rw [hd, if_neg (by simp)] at he
      rw [Bool.not_false, cond_true]
      exact congrArg some (hplace 3 he (by decide))
    | true =>
      rw [hd, if_pos rfl] at he
      rw [Bool.not_true, cond_false, dT h1, cond_true, bnd_eq, i64_wrap (by omega), ← he]
      simp only [if_true]
      congr 1
      refine Prod.ext rfl (Prod.ext (Prod.ext rfl ?_) rfl)
      simp only []
      omega
  rw [if_neg h1] at he
  by_cases h64 : 64 ≤ fs.length
  · rw [dT ⟨h1, h64⟩, cond_true]
    rw [if_pos h64] at he
    exact congrArg some (hplace 4 he (by decide))
  rw [dF (fun h => h64 h.2), cond_false]
  rw [if_neg h64] at he
  cases hd : d.2.2 with
  | false =>
    rw [if_neg (by rw [hd]; simp)] at he
    rw [Bool.not_false, cond_true]
    exact congrArg some (hplace 3 he (by decide))
  | true =>
  rw [Bool.not_true, cond_false, dF h1, cond_false, f52 _ (by omega), bindO_some]
  by_cases hz : (parseP d.1).2 = 0
  · rw [if_pos ⟨hd, hz⟩] at he
    rw [dT hz, Bool.not_true, cond_false, gdN_self, gd_pos (by simp only [List.length_singleton]; omega)]
    simp only [bnd_eq, gdN_self]
    have := hlt hd
    exact hag _ ⟨s.length - d.2.1.length, fs ++ [(parseP d.1).1], n + 1, rfl, by omega, by simp only []; omega, rfl, by rw [hbr]; exact he, by omega, by omega, by simp only [List.length_append, List.length_singleton]; omega⟩ (by simp only [Int.toNat_natCast]; omega)
  · rw [if_neg (fun h => hz h.2)] at he
    rw [dF hz, Bool.not_false, cond_true]
    exact congrArg some (hplace 3 he (by decide))
end Go.Proofs.YtbkaenpcmbplpaaGreatDoor
