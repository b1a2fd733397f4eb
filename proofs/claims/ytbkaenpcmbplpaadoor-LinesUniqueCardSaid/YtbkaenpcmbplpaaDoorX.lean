/-
  Chapter 11: records are read line by line, by the program and by the reference. No condition.
-/
import Derived.Test.YtbkaenpcmbplpaaDoorV
namespace Go.Proofs.YtbkaenpcmbplpaaDoor
open Go Go.Nu

theorem gdN_nil {α β : Type} {x : Option β} : gdN (List.length ([] : List α)) 0 x = x := if_pos rfl
def zeroR : Rec := (0, 0, 0, [], [])
noncomputable def hdrP (s : List UInt8) : Option Rec := open Classical in if h : ∃ r, OkH r ∧ headR r = s ∧ r.2.2.2.2 = [] then some h.choose else none
theorem hdrP_some {s : List UInt8} {r : Rec} (h : hdrP s = some r) : OkH r ∧ headR r = s ∧ r.2.2.2.2 = [] := by
  unfold hdrP at h
  split at h
  · rename_i hx
    cases h
    exact hx.choose_spec
  · cases h
theorem hdrP_print {r : Rec} (h : OkH r) (hn : r.2.2.2.2 = []) : hdrP (headR r) = some r := by
  unfold hdrP
  have hx : ∃ q, OkH q ∧ headR q = headR r ∧ q.2.2.2.2 = [] := ⟨r, h, rfl, hn⟩
  rw [dif_pos hx]
  have := hx.choose_spec
  rw [headR_inj this.1 h this.2.1 (by rw [this.2.2, hn])]
theorem okH_nil {r : Rec} (h : OkH r) : OkH (r.1, r.2.1, r.2.2.1, r.2.2.2.1, []) := ⟨h.id0, h.id1, h.v0, h.v1, h.k0, h.k1, h.lang⟩
theorem hdrP_none {s : List UInt8} (h : ¬ ∃ r, OkH r ∧ headR r = s) : hdrP s = none := by
  unfold hdrP
  rw [dif_neg]
  rintro ⟨r, h1, h2, _⟩
  exact h ⟨r, h1, h2⟩
theorem hdr_true {s : List UInt8} {y : Rec × Bool} (h : HdrOk s y) (e : y.2 = true) : hdrP s = some y.1 := by
  obtain ⟨h1, h2⟩ := h.yes e
  rw [← h2]
  exact hdrP_print h1 h.nil
theorem hdr_false {s : List UInt8} {y : Rec × Bool} (h : HdrOk s y) (e : y.2 = false) : hdrP s = none := hdrP_none (h.no e)

theorem cut_true {s : List UInt8} {c : UInt8} (h : (Lib.cut s [c]).2.2 = true) : s = (Lib.cut s [c]).1 ++ c :: (Lib.cut s [c]).2.1 ∧ c ∉ (Lib.cut s [c]).1 := by
  rw [cut_one] at h ⊢
  split at h
  · rename_i hk
    rw [if_pos hk]
    exact findN_split hk
  · cases h
theorem cut_false {s : List UInt8} {c : UInt8} (h : (Lib.cut s [c]).2.2 = false) : Lib.cut s [c] = (s, [], false) := by
  rw [cut_one] at h ⊢
  split at h
  · cases h
  · rename_i hk
    rw [if_neg hk]
theorem cut_len (s : List UInt8) (c : UInt8) : (Lib.cut s [c]).1.length ≤ s.length ∧ (Lib.cut s [c]).2.1.length ≤ s.length := by
  rw [cut_one]
  split
  · simp only [List.length_take, List.length_drop]; omega
  · simp
noncomputable def linesG : Nat → List UInt8 → List Field → Int → List Field × List UInt8 × Int × Int
  | 0, s, _, n => ([], s, n + 1, 3)
  | k + 1, s, fs, n =>
    if (Lib.cut s [10]).1 = [] then (if (Lib.cut s [10]).2.2 = true then (fs, (Lib.cut s [10]).2.1, n + 1, 0) else ([], s, n + 1, 3))
    else if 64 ≤ fs.length then ([], s, n + 1, 4)
    else if (Lib.cut s [10]).2.2 = true ∧ (parseP (Lib.cut s [10]).1).2 = 0 then linesG k (Lib.cut s [10]).2.1 (fs ++ [(parseP (Lib.cut s [10]).1).1]) (n + 1)
    else ([], s, n + 1, 3)
theorem linesG_fuel : ∀ (k m : Nat) (s : List UInt8) (fs : List Field) (n : Int), s.length < k → s.length < m → linesG k s fs n = linesG m s fs n
  | 0, _, _, _, _, h, _ => by omega
  | _ + 1, 0, _, _, _, _, h => by omega
  | k + 1, m + 1, s, fs, n, h1, h2 => by
    unfold linesG
    split
    · rfl
    · split
      · rfl
      · split
        · rename_i hc
          have := congrArg List.length (cut_true hc.1).1
          rw [List.length_append, List.length_cons] at this
          exact linesG_fuel k m _ _ _ (by omega) (by omega)
        · rfl
noncomputable def linesP (s : List UInt8) (fs : List Field) (n : Int) : List Field × List UInt8 × Int × Int := linesG (s.length + 1) s fs n
theorem linesP_step (s : List UInt8) (fs : List Field) (n : Int) : linesP s fs n =
    if (Lib.cut s [10]).1 = [] then (if (Lib.cut s [10]).2.2 = true then (fs, (Lib.cut s [10]).2.1, n + 1, 0) else ([], s, n + 1, 3))
    else if 64 ≤ fs.length then ([], s, n + 1, 4)
    else if (Lib.cut s [10]).2.2 = true ∧ (parseP (Lib.cut s [10]).1).2 = 0 then linesP (Lib.cut s [10]).2.1 (fs ++ [(parseP (Lib.cut s [10]).1).1]) (n + 1)
    else ([], s, n + 1, 3) := by
  unfold linesP
  conv => lhs; unfold linesG
  split
  · rfl
  · split
    · rfl
    · split
      · rename_i hc
        have := congrArg List.length (cut_true hc.1).1
        rw [List.length_append, List.length_cons] at this
        exact linesG_fuel _ _ _ _ _ (by omega) (by omega)
      · rfl
def withF (h : Rec) (fs : List Field) : Rec := (h.1, h.2.1, h.2.2.1, h.2.2.2.1, fs)
noncomputable def nextP (s : List UInt8) : Rec × List UInt8 × Int × Int :=
  match hdrP (Lib.cut s [10]).1 with
  | none => (zeroR, [], 1, 3)
  | some h => if (Lib.cut s [10]).2.2 = true then
      (if (linesP (Lib.cut s [10]).2.1 [] 1).2.2.2 = 0 then (withF h (linesP (Lib.cut s [10]).2.1 [] 1).1, (linesP (Lib.cut s [10]).2.1 [] 1).2.1, (linesP (Lib.cut s [10]).2.1 [] 1).2.2.1, 0)
        else (zeroR, [], (linesP (Lib.cut s [10]).2.1 [] 1).2.2.1, (linesP (Lib.cut s [10]).2.1 [] 1).2.2.2))
    else (zeroR, [], 1, 3)

theorem f31 (s : List UInt8) (hs : s.length ≤ 1000000) : F9 s = some (nextP s) := by
  unfold F9 nextP
  have hcl := cut_len s 10
  unfold fCut
  rw [if_pos (by omega), bindO_some]
  generalize hc : Lib.cut s [10] = c at *
  obtain ⟨y, hy, hk⟩ := f48 c.1 (by omega)
  rw [hy, bindO_some, hk.nil, gdN_nil]
  by_cases hend' : ¬ c.2.2 = true
  · have hend : c.2.2 = false := by simpa using hend'
    rw [hend]
    refine jn_rule (fun b => b = true) (fun next hn => ?_) ?_
    · rw [Bool.not_false, cond_true]
      exact hn _ rfl
    rintro _ rfl
    rw [cond_true]
    cases hdrP c.1 with
    | none => rfl
    | some h => rfl
  have hend : c.2.2 = true := Decidable.not_not.1 hend'
  rw [hend]
  refine jn_rule (fun b => b = !y.2) (fun next hn => ?_) ?_
  · rw [Bool.not_true, cond_false]
    exact hn _ rfl
  rintro _ rfl
  cases hy2 : y.2 with
  | false =>
    rw [hdr_false hk hy2, Bool.not_false, cond_true]; rfl
  | true =>
  rw [hdr_true hk hy2, Bool.not_true, cond_false]
  simp only [eq_self, if_true]
  rw [show gdN 0 (List.length ([] : List Field)) = id from funext fun x => if_pos rfl]
  simp only [id]
  generalize hQ : linesP c.2.1 [] 1 = Q
  refine loopK_rule (fun p : Int × List UInt8 × Rec × Rec => ∃ fs : List Field, p.2.2.2 = withF y.1 fs ∧ linesP p.2.1 fs p.1 = Q ∧ p.2.1.length ≤ 1000000 ∧ 0 ≤ p.1 ∧ p.1 + p.2.1.length ≤ 1000001 ∧ fs.length ≤ 64) (fun p => p.2.1.length)
    ⟨[], rfl, hQ, by simp only []; omega, by simp only []; omega, by simp only []; omega, by simp⟩ (by split <;> rfl) ?_
  rintro ⟨n, t, junk, _⟩ again ⟨fs, rfl, he, ht, hn0, hn1, hfl⟩ hag
  simp only at he ht hn0 hn1 hag ⊢
  unfold big
  have hct := cut_len t 10
  rw [bnd_eq, i64_wrap (by omega), if_pos (by omega), bindO_some]
  rw [linesP_step] at he
  have hlt : (Lib.cut t [10]).2.2 = true → (Lib.cut t [10]).2.1.length < t.length := fun h => by
    have := congrArg List.length (cut_true h).1
    rw [List.length_append, List.length_cons] at this
    omega
  generalize Lib.cut t [10] = d at *
  by_cases h1 : d.1 = []
  · rw [dT h1, cond_true]
    rw [if_pos h1] at he
    cases hd : d.2.2 with
    | false =>
      rw [hd, if_neg (by simp)] at he
      rw [← he]; rfl
    | true =>
      rw [hd, if_pos rfl] at he
      rw [← he]; rfl
  rw [dF h1, cond_false]
  rw [if_neg h1] at he
  simp only [show (withF y.1 fs).2.2.2.2 = fs from rfl, show (withF y.1 fs).1 = y.1.1 from rfl, show (withF y.1 fs).2.1 = y.1.2.1 from rfl, show (withF y.1 fs).2.2.1 = y.1.2.2.1 from rfl, show (withF y.1 fs).2.2.2.1 = y.1.2.2.2.1 from rfl]
  by_cases h64 : 64 ≤ fs.length
  · rw [dT (by omega), cond_true]
    rw [if_pos h64] at he
    rw [← he]; rfl
  rw [dF (by omega), cond_false, f49 _ (by omega), bindO_some]
  rw [if_neg h64] at he
  refine jn_rule (fun b => b = decide (¬ (d.2.2 = true ∧ (parseP d.1).2 = 0))) (fun next hn => ?_) ?_
  · cases hd : d.2.2 with
    | false =>
      rw [Bool.not_false, cond_true]
      exact hn _ (by rw [hd]; simp)
    | true =>
      rw [Bool.not_true, cond_false]
      refine hn _ ?_
      rw [hd]
      by_cases hz : (parseP d.1).2 = 0
      · simp [hz]
      · simp [hz]
  rintro _ rfl
  by_cases hg : d.2.2 = true ∧ (parseP d.1).2 = 0
  · rw [if_pos hg] at he
    rw [dF (by simpa using hg), cond_false, gdN_self, gd_pos (by simp only [List.length_singleton]; omega)]
    simp only [bnd_eq, gdN_self]
    have := hlt hg.1
    exact hag _ ⟨fs ++ [(parseP d.1).1], rfl, he, by simp only []; omega, by simp only []; omega, by simp only []; omega, by simp only [List.length_append, List.length_singleton]; omega⟩ (by simp only []; omega)
  · rw [if_neg hg] at he
    rw [dT hg, cond_true, ← he]; rfl

/-! ### the reference -/
end Go.Proofs.YtbkaenpcmbplpaaDoor
