/-
  Chapter 44: Manifest, Pack, split. No condition.
-/
import Derived.Test.YthpgkpcnajookaaGreatDoorS
namespace Go.Proofs.YthpgkpcnajookaaGreatDoor
open Go Go.Nu

theorem gdN_nil {α β : Type} {x : Option β} : gdN 0 (List.length ([] : List α)) x = x := if_pos rfl
/-! ### texts that are laid piece by piece -/
theorem flat_take {α : Type} (g : α → List UInt8) (l : List α) (d : α) {i : Nat} (h : i < l.length) : (l.take (i + 1)).flatMap g = (l.take i).flatMap g ++ g (l.getD i d) := by
  have : l.take (i + 1) = l.take i ++ [l.getD i d] := by
    rw [List.take_succ_eq_append_getElem h, List.getD_eq_getElem?_getD, List.getElem?_eq_getElem h]; rfl
  rw [this, List.flatMap_append, List.flatMap_cons, List.flatMap_nil, List.append_nil]
theorem flat_len {α : Type} (g : α → List UInt8) (K : Nat) : ∀ l : List α, (∀ f ∈ l, (g f).length ≤ K) → (l.flatMap g).length ≤ K * l.length
  | [], _ => by simp
  | f :: l, h => by
    rw [List.flatMap_cons, List.length_append, List.length_cons, Nat.mul_succ]
    have h1 := h f List.mem_cons_self
    have h2 := flat_len g K l fun x hx => h x (List.mem_cons_of_mem _ hx)
    omega
theorem flat_take_len {α : Type} (g : α → List UInt8) (K : Nat) (l : List α) (h : ∀ f ∈ l, (g f).length ≤ K) (i : Nat) (n : Nat) (hi : i ≤ n) : ((l.take i).flatMap g).length ≤ K * n := by
  have := flat_len g K (l.take i) fun f hf => h f (List.mem_of_mem_take hf)
  refine Nat.le_trans this (Nat.mul_le_mul_left K ?_)
  rw [List.length_take]; omega

/-! ### Manifest -/
def manF (f : File) : List UInt8 := dig f.2 ++ 32 :: (f.1 ++ [10])
def manP (l : List File) : List UInt8 × Int := if rightP l = 0 then (l.flatMap manF, 0) else ([], rightP l)
theorem manF_len {l : List File} (hs : Fit l) : ∀ f ∈ l, (manF f).length ≤ 60000 := fun f hf => by
  have := hs.2 f hf
  unfold manF
  rw [List.length_append, dig_len, List.length_cons, List.length_append, List.length_singleton]
  omega
theorem right_len {l : List File} (h : rightP l = 0) : 1 ≤ l.length ∧ l.length ≤ 16 := by
  unfold rightP at h
  split at h
  · cases h
  · split at h
    · cases h
    · omega

theorem g17 (l : List File) (hs : Fit l) : F17 l = some (manP l) := by
  unfold F17 manP
  rw [g13 l hs, bindO_some]
  by_cases h0 : rightP l = 0
  · rw [dT h0, Bool.not_true, cond_false, if_pos h0]
    have hl := (right_len h0).2
    rw [gdN_nil]
    refine loopK_rule (fun p : Int × List UInt8 => ∃ i : Nat, p = ((i : Int), (l.take i).flatMap manF) ∧ i ≤ l.length) (fun p => l.length - p.1.toNat) ⟨0, rfl, by omega⟩ rfl ?_
    rintro _ again ⟨i, rfl, h1⟩ hag
    simp only []
    have hb := flat_take_len manF 60000 l (manF_len hs) i 16 (by omega)
    by_cases hc : i < l.length
    · have hf := fit_at hs i
      rw [dT (by omega), cond_true, gd_pos (by omega), getD_nat, f11 _ (by omega), bindO_some]
      simp only [bnd_eq]
      have hd := dig_len (l.getD i ([], [])).2
      rw [gd_pos (by unfold big; (try simp only [List.length_cons, List.length_nil]); omega),
        gd_pos (by unfold big; (try simp only [List.length_append, List.length_cons, List.length_nil]); omega),
        gd_pos (by unfold big; (try simp only [List.length_append, List.length_cons, List.length_nil]); omega), gdN_rfl,
        gd_pos (by unfold big; (try simp only [List.length_append, List.length_cons, List.length_nil]); omega), i64_wrap (by omega), gdN_rfl]
      refine hag _ ⟨i + 1, ?_, by omega⟩ (by simp only []; omega)
      rw [flat_take manF l ([], []) hc]
      unfold manF
      simp
    · rw [dF (by omega), cond_false, gdN_rfl, List.take_of_length_le (by omega)]
  · rw [dF h0, Bool.not_false, cond_true, if_neg h0]

theorem g18 (l : List File) (hs : Fit l) : F18 l = some (manP l) := by
  unfold F18 manP
  rw [g14 l hs, bindO_some]
  by_cases h0 : rightP l = 0
  · rw [dT h0, Bool.not_true, cond_false, if_pos h0]
    have hl := (right_len h0).2
    refine loopK_rule (fun p : List UInt8 × Int => ∃ i : Nat, p = ((l.take i).flatMap manF, (i : Int)) ∧ i ≤ l.length) (fun p => l.length - p.2.toNat) ⟨0, rfl, by omega⟩ rfl ?_
    rintro _ again ⟨i, rfl, h1⟩ hag
    simp only []
    have hb := flat_take_len manF 60000 l (manF_len hs) i 16 (by omega)
    by_cases hc : i < l.length
    · have hf := fit_at hs i
      rw [dT (by omega), cond_true, gd_pos (by omega), getD_nat, f13 _ (by omega), bindO_some]
      simp only [bnd_eq]
      have hd := dig_len (l.getD i ([], [])).2
      rw [gd_pos (by unfold big; (try simp only [List.length_append, List.length_cons, List.length_nil]); omega),
        gd_pos (by unfold big; (try simp only [List.length_append, List.length_cons, List.length_nil]); omega), gd_pos (by omega),
        gd_pos (by unfold big; (try simp only [List.length_append, List.length_cons, List.length_nil]); omega),
        gd_pos (by unfold big; (try simp only [List.length_append, List.length_cons, List.length_nil]); omega), i64_wrap (by omega)]
      refine hag _ ⟨i + 1, ?_, by omega⟩ (by simp only []; omega)
      rw [flat_take manF l ([], []) hc]
      unfold manF
      simp
    · rw [dF (by omega), cond_false, List.take_of_length_le (by omega)]
  · rw [dF h0, Bool.not_false, cond_true, if_neg h0]

/-! ### Pack -/
def entF (f : File) : List UInt8 := Lib.decDigits f.2.length ++ 32 :: (f.1 ++ [10])
def headP (n : Nat) : List UInt8 := [66, 65, 71, 49, 10] ++ Lib.decDigits n ++ [10]
def packT (l : List File) : List UInt8 := headP l.length ++ l.flatMap entF ++ l.flatMap Prod.snd ++ rootP l
def packP (l : List File) : List UInt8 × Int := if rightP l = 0 then (packT l, 0) else ([], rightP l)
theorem dec_len5 {u : Nat} (h : u ≤ 50000) : (Lib.decDigits u).length ≤ 5 := dec_len9 4 u (by omega)
theorem entF_len {l : List File} (hs : Fit l) : ∀ f ∈ l, (entF f).length ≤ 60000 := fun f hf => by
  have := hs.2 f hf
  have := dec_len5 (u := f.2.length) (by omega)
  unfold entF
  rw [List.length_append, List.length_cons, List.length_append, List.length_singleton]
  omega
theorem snd_len {l : List File} (hs : Fit l) : ∀ f ∈ l, (Prod.snd f).length ≤ 60000 := fun f hf => by
  have := hs.2 f hf
  omega
theorem rootP_len (l : List File) (hs : Fit l) : (rootP l).length ≤ 100000 := by
  unfold rootP root
  split
  · rw [dig_len]; omega
  · have hok := leaf_ok (leaves_ok hs)
    have : ∀ (n : Nat) (q : List (List UInt8)), q.length ≤ n → Ok q → (top q).length ≤ 100000 := by
      intro n
      induction n with
      | zero => intro q hq ho; rw [top_one (by omega)]; exact getD_len ho 0
      | succ n ih =>
        intro q hq ho
        by_cases h1 : q.length ≤ 1
        · rw [top_one h1]; exact getD_len ho 0
        · rw [top_up h1]
          exact ih _ (by rw [up_len]; omega) (up_ok q ho)
    exact this _ _ (Nat.le_refl _) hok

theorem g22 (l : List File) (hs : Fit l) : F22 l = some (packP l) := by
  unfold F22 packP
  rw [g13 l hs, bindO_some]
  by_cases h0 : rightP l = 0
  · rw [dT h0, Bool.not_true, cond_false, if_pos h0]
    have hl := (right_len h0).2
    unfold fItoa
    have hr := rootP_len l hs
    have hd := dec_len5 (u := l.length) (by omega)
    rw [if_pos (by omega), bindO_some, itoa_nat]
    simp only [bnd_eq]
    rw [gd_pos (by unfold big; (try simp only [List.length_append, List.length_cons, List.length_nil]); omega),
      gd_pos (by unfold big; (try simp only [List.length_append, List.length_cons, List.length_nil]); omega), gdN_nil,
      gd_pos (by unfold big; (try simp only [List.length_append, List.length_cons, List.length_nil]); omega), gdN_rfl, List.nil_append]
    have hh : (headP l.length).length ≤ 20 := by unfold headP; simp only [List.length_append, List.length_cons, List.length_nil]; omega
    show loopK _ ((0 : Int), headP l.length) = _
    refine loopK_rule (fun p : Int × List UInt8 => ∃ i : Nat, p = ((i : Int), headP l.length ++ (l.take i).flatMap entF) ∧ i ≤ l.length) (fun p => l.length - p.1.toNat) ⟨0, by simp, by omega⟩ rfl ?_
    rintro _ again ⟨i, rfl, h1⟩ hag
    simp only []
    have hb := flat_take_len entF 60000 l (entF_len hs) i 16 (by omega)
    by_cases hc : i < l.length
    · have hf := fit_at hs i
      have hd2 := dec_len5 (u := (l.getD i ([], [])).2.length) (by omega)
      rw [dT (by omega), cond_true, gd_pos (by omega), getD_nat, if_pos (by omega), bindO_some, itoa_nat]
      rw [gd_pos (by unfold big; (try simp only [List.length_append, List.length_cons, List.length_nil]); omega),
        gd_pos (by unfold big; (try simp only [List.length_append, List.length_cons, List.length_nil]); omega),
        gd_pos (by unfold big; (try simp only [List.length_append, List.length_cons, List.length_nil]); omega), gdN_rfl,
        gd_pos (by unfold big; (try simp only [List.length_append, List.length_cons, List.length_nil]); omega), i64_wrap (by omega), gdN_rfl]
      refine hag _ ⟨i + 1, ?_, by omega⟩ (by simp only []; omega)
      rw [flat_take entF l ([], []) hc]
      unfold entF
      simp
    · rw [dF (by omega), cond_false, gdN_rfl, List.take_of_length_le (by omega)]
      rw [List.take_of_length_le (by omega)] at hb
      refine loopK_rule (fun p : Int × List UInt8 => ∃ i : Nat, p = ((i : Int), headP l.length ++ l.flatMap entF ++ (l.take i).flatMap Prod.snd) ∧ i ≤ l.length) (fun p => l.length - p.1.toNat) ⟨0, by simp, by omega⟩ rfl ?_
      rintro _ again' ⟨j, rfl, h2⟩ hag'
      simp only []
      have hb2 := flat_take_len Prod.snd 60000 l (snd_len hs) j 16 (by omega)
      by_cases hc2 : j < l.length
      · have hf := fit_at hs j
        rw [dT (by omega), cond_true, gd_pos (by omega), getD_nat, gdN_rfl, gd_pos (by unfold big; (try simp only [List.length_append]); omega), i64_wrap (by omega), gdN_rfl]
        refine hag' _ ⟨j + 1, ?_, by omega⟩ (by simp only []; omega)
        rw [flat_take Prod.snd l ([], []) hc2]
        simp
      · rw [dF (by omega), cond_false, g15 l hs, bindO_some, gdN_rfl, gd_pos (by unfold big; (try simp only [List.length_append]); omega), gdN_rfl, List.take_of_length_le (by omega)]
        rfl
  · rw [dF h0, Bool.not_false, cond_true, if_neg h0]

theorem g23 (l : List File) (hs : Fit l) : F23 l = some (packP l) := by
  unfold F23 packP
  rw [g14 l hs, bindO_some]
  by_cases h0 : rightP l = 0
  · rw [dT h0, Bool.not_true, cond_false, if_pos h0]
    have hl := (right_len h0).2
    have hr := rootP_len l hs
    have hd := dec_len5 (u := l.length) (by omega)
    rw [f43 _ (by omega), bindO_some, itoa_nat]
    simp only [bnd_eq]
    rw [gd_pos (by unfold big; (try simp only [List.length_append, List.length_cons, List.length_nil]); omega),
      gd_pos (by unfold big; (try simp only [List.length_append, List.length_cons, List.length_nil]); omega)]
    have hh : (headP l.length).length ≤ 20 := by unfold headP; simp only [List.length_append, List.length_cons, List.length_nil]; omega
    show loopK _ (headP l.length, ([] : List UInt8), (0 : Int)) = _
    refine loopK_rule (fun p : List UInt8 × List UInt8 × Int => ∃ i : Nat, p = (headP l.length ++ (l.take i).flatMap entF, (l.take i).flatMap Prod.snd, (i : Int)) ∧ i ≤ l.length) (fun p => l.length - p.2.2.toNat) ⟨0, by simp, by omega⟩ rfl ?_
    rintro _ again ⟨i, rfl, h1⟩ hag
    simp only []
    have hb := flat_take_len entF 60000 l (entF_len hs) i 16 (by omega)
    have hb2 := flat_take_len Prod.snd 60000 l (snd_len hs) i 16 (by omega)
    by_cases hc : i < l.length
    · have hf := fit_at hs i
      have hd2 := dec_len5 (u := (l.getD i ([], [])).2.length) (by omega)
      rw [dT (by omega), cond_true, gd_pos (by omega), getD_nat, f43 _ (by omega), bindO_some, itoa_nat]
      rw [gd_pos (by unfold big; (try simp only [List.length_append, List.length_cons, List.length_nil]); omega),
        gd_pos (by unfold big; (try simp only [List.length_append, List.length_cons, List.length_nil]); omega), gd_pos (by omega),
        gd_pos (by unfold big; (try simp only [List.length_append, List.length_cons, List.length_nil]); omega),
        gd_pos (by unfold big; (try simp only [List.length_append, List.length_cons, List.length_nil]); omega), gd_pos (by omega),
        gd_pos (by unfold big; (try simp only [List.length_append, List.length_cons, List.length_nil]); omega), i64_wrap (by omega)]
      refine hag _ ⟨i + 1, ?_, by omega⟩ (by simp only []; omega)
      rw [flat_take entF l ([], []) hc, flat_take Prod.snd l ([], []) hc]
      unfold entF
      simp
    · rw [dF (by omega), cond_false]
      rw [List.take_of_length_le (by omega)] at hb hb2 ⊢
      rw [gd_pos (by unfold big; (try simp only [List.length_append]); omega), g16 l hs, bindO_some, gd_pos (by unfold big; (try simp only [List.length_append]); omega)]
      rfl
  · rw [dF h0, Bool.not_false, cond_true, if_neg h0]

end Go.Proofs.YthpgkpcnajookaaGreatDoor
