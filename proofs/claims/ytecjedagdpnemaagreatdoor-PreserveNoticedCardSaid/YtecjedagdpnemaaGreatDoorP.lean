/-
  Chapter 47: conversions; what the reference makes of objects. No condition beyond what each line says.
-/
import Derived.Test.YtecjedagdpnemaaGreatDoorN
namespace Go.Proofs.YtecjedagdpnemaaGreatDoor
open Go Go.Nu
set_option linter.unusedVariables false
theorem c86 (f t : Fmt) (s : List UInt8) (ht : t.2.2.2.2.2.1.length ≤ 1000000) (hs : s.length ≤ 1000000) : F86 f t s = some (convP f t s) := by
  unfold F86 convP fCutP
  rw [bindO_some]
  simp only []
  cases h : Lib.hasPrefix s f.2.2.2.2.2.1
  · rw [Bool.not_false, cond_true, if_neg (by simp)]
  · unfold Lib.trimPrefix
    rw [Bool.not_true, cond_false, if_pos h, gd_pos (by rw [List.length_drop]; unfold big; omega), bnd_eq, if_pos rfl]
theorem convs_cons (f t : Fmt) (x : File) (l : List File) : convsP f t (x :: l) = if (convP f t x.2).2 = 0 then (convsP f t l).map fun r => (x.1, (convP f t x.2).1) :: r else none := rfl
theorem conv_len {f t : Fmt} {s : List UInt8} (ht : t.2.2.2.2.2.1.length ≤ 10000) (hs : s.length ≤ 40000) : (convP f t s).1.length ≤ 50000 := by
  unfold convP
  split
  · rw [List.length_append, List.length_drop]; omega
  · exact Nat.zero_le _
theorem conv_two (f t : Fmt) (s : List UInt8) : (convP f t s).2 = 0 ∨ convP f t s = ([], 3) := by
  unfold convP
  split
  · exact .inl rfl
  · exact .inr rfl
def FitC (l : List File) : Prop := l.length ≤ 1000 ∧ ∀ f ∈ l, f.1.length ≤ 50000 ∧ f.2.length ≤ 40000
theorem fit_app {l : List File} {x : File} (h : Fit l) (hn : l.length < 1000) (hx : x.1.length ≤ 50000 ∧ x.2.length ≤ 50000) : Fit (l ++ [x]) := by
  refine ⟨by rw [List.length_append, List.length_singleton]; omega, fun f hf => ?_⟩
  rcases List.mem_append.1 hf with hf | hf
  · exact h.2 f hf
  · rw [List.mem_singleton] at hf; subst hf; exact hx
theorem convs_fit {f t : Fmt} (ht : t.2.2.2.2.2.1.length ≤ 10000) : ∀ {l r : List File}, (∀ f ∈ l, f.1.length ≤ 50000 ∧ f.2.length ≤ 40000) → convsP f t l = some r → r.length = l.length ∧ ∀ f ∈ r, f.1.length ≤ 50000 ∧ f.2.length ≤ 50000
  | [], r, _, h => by cases h; exact ⟨rfl, fun f hf => by cases hf⟩
  | x :: l, r, hl, h => by
    rw [convs_cons] at h
    split at h
    · rw [Option.map_eq_some_iff] at h
      obtain ⟨r', h1, rfl⟩ := h
      obtain ⟨h2, h3⟩ := convs_fit ht (fun f hf => hl f (List.mem_cons_of_mem _ hf)) h1
      refine ⟨by rw [List.length_cons, List.length_cons, h2], fun g hg => ?_⟩
      rcases List.mem_cons.1 hg with rfl | hg
      · exact ⟨(hl x List.mem_cons_self).1, conv_len ht (hl x List.mem_cons_self).2⟩
      · exact h3 g hg
    · cases h
theorem convs_Fit {f t : Fmt} {l r : List File} (ht : t.2.2.2.2.2.1.length ≤ 10000) (hl : FitC l) (h : convsP f t l = some r) : Fit r := by
  obtain ⟨h1, h2⟩ := convs_fit ht hl.2 h
  exact ⟨by rw [h1]; exact hl.1, h2⟩
def convR (f t : Fmt) (l : List File) : List File × Int := match convsP f t l with | some r => (r, rightP r) | none => ([], 3)
theorem c62 (l : List File) (f t : Fmt) (ht : t.2.2.2.2.2.1.length ≤ 10000) (hl : FitC l) : F62 l f t = some (convR f t l) := by
  unfold F62
  rw [jn_eq]
  dsimp only
  rw [gdN_self]
  refine loopK_rule (fun p : List File × Int => ∃ i : Nat, p.2 = (i : Int) ∧ i ≤ l.length ∧ p.1.length = i ∧ Fit p.1 ∧ (convsP f t (l.drop i)).map (p.1 ++ ·) = convsP f t l) (fun p => l.length - p.2.toNat) ⟨0, rfl, by omega, rfl, ⟨by simp, fun f hf => by cases hf⟩, by rw [List.drop_zero]; cases convsP f t l <;> rfl⟩ rfl ?_
  rintro ⟨out, j⟩ again ⟨i, hi, hle, hn, hfit, he⟩ hag
  simp only [] at hi hn hfit he ⊢
  subst hi
  have hl1 := hl.1
  by_cases hlt : i < l.length
  · rw [dT (by omega), cond_true, gd_pos (by omega), toNat_nat]
    have hx := hl.2 _ (getD_mem ([], []) hlt)
    rw [drop_getD ([], []) hlt, convs_cons] at he
    generalize l.getD i ([], []) = x at *
    rw [c86 _ _ _ (by omega) (by omega), bindO_some]
    rcases conv_two f t x.2 with h0 | h0
    · rw [dT h0, Bool.not_true, cond_false, gdN_self, gd_pos (by rw [hn, List.length_singleton]; unfold big; omega), bnd_eq, bnd_eq, i64_wrap (by omega), gdN_self]
      rw [if_pos h0] at he
      refine hag _ ⟨i + 1, rfl, by omega, by rw [List.length_append, hn]; rfl, fit_app hfit (by omega) ⟨hx.1, conv_len ht hx.2⟩, ?_⟩ (by simp only []; omega)
      rw [← he, Option.map_map]
      congr 1
      funext r
      simp
    · rw [h0]
      rw [h0, if_neg (by decide)] at he
      unfold convR
      rw [← he]; rfl
  · rw [dF (by omega), cond_false, g13 _ hfit, bindO_some]
    rw [List.drop_eq_nil_of_le (by omega)] at he
    unfold convR
    rw [← he]
    show some (out, rightP out) = some (out ++ [], rightP (out ++ []))
    rw [List.append_nil]
theorem up_dig : ∀ (q : List (List UInt8)), (∀ s ∈ q, isDig s = true) → ∀ s ∈ up q, isDig s = true
  | [], _, s, h => by rw [up] at h; cases h
  | [a], hs, s, h => by rw [up] at h; exact hs s h
  | a :: b :: l, hs, s, h => by
    rw [up] at h
    rcases List.mem_cons.1 h with rfl | h
    · exact dig_isDig _
    · exact up_dig l (fun s h => hs s (List.mem_cons_of_mem _ (List.mem_cons_of_mem _ h))) s h
theorem top_dig : ∀ (n : Nat) (q : List (List UInt8)), q.length ≤ n → 1 ≤ q.length → (∀ s ∈ q, isDig s = true) → isDig (top q) = true
  | 0, q, h1, h2, _ => by omega
  | n + 1, q, h1, h2, hs => by
    by_cases h : q.length ≤ 1
    · rw [top_one h]
      match q, h2 with
      | s :: _, _ => exact hs s List.mem_cons_self
    · rw [top_up h]
      exact top_dig n _ (by rw [up_len]; omega) (by rw [up_len]; omega) (up_dig q hs)
theorem root_dig (l : List File) : isDig (rootP l) = true := by
  unfold rootP root
  by_cases h : l.length = 0
  · rw [if_pos (by rw [List.length_map]; exact h)]; exact dig_isDig _
  rw [if_neg (by rw [List.length_map]; omega)]
  refine top_dig _ _ (Nat.le_refl _) (by rw [List.length_map, List.length_map]; omega) fun s hs => ?_
  obtain ⟨x, _, rfl⟩ := List.mem_map.1 hs
  exact dig_isDig _
theorem isDig_len {s : List UInt8} (h : isDig s = true) : s.length = 16 := by
  unfold isDig at h
  rw [Bool.and_eq_true, decide_eq_true_eq] at h
  exact h.1
theorem root_len (l : List File) : (rootP l).length = 16 := isDig_len (root_dig l)
theorem day_in {d : Int} (h : dayB d = true) : inR d := by
  unfold dayB at h
  rw [decide_eq_true_eq] at h
  unfold inR; omega
end Go.Proofs.YtecjedagdpnemaaGreatDoor
