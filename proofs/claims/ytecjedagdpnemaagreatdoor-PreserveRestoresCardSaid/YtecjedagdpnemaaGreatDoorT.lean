/-
  Chapter 47: sizes of what is made; the laws on new objects, checks, damages, repairs. No condition beyond what each line says.
-/
import Derived.Test.YtecjedagdpnemaaGreatDoorZ
namespace Go.Proofs.YtecjedagdpnemaaGreatDoor
open Go Go.Nu
set_option linter.unusedVariables false
theorem FitO.add {o : Obj} {d k e : Int} {r : List UInt8} {g : Bool} (h : FitO o) (hn : o.2.2.2.1.length + 1 ≤ 1000) (hr : r.length ≤ 1000) : FitO (addP o d k e r g) := by
  refine ⟨h.e, by rw [add_len]; exact hn, h.el, fun x hx => ?_⟩
  rcases List.mem_append.1 (show x ∈ o.2.2.2.1 ++ [fixP o.2.2.2.1 d k e r g] from hx) with hx | hx
  · exact h.hl x hx
  · rw [List.mem_singleton] at hx; subst hx
    exact ⟨hr, by show (dig _).length ≤ 1000; rw [dig_len]; omega⟩
theorem FitO.with {o : Obj} {l : List File} (h : FitO o) (i : Nat) (hi : i < o.2.2.1.length) (hl : Fit l) : FitO (withP o i l) := by
  refine ⟨by rw [withE_len]; exact h.e, h.h, fun x hx => ?_, h.hl⟩
  rcases List.mem_or_eq_of_mem_set (show x ∈ o.2.2.1.set i _ from hx) with hx | rfl
  · exact h.el x hx
  · exact ⟨(h.el _ (getD_mem E0 hi)).1, hl⟩
theorem FitO.len {o : Obj} (h : FitO o) : LenO o := ⟨by have := h.e; omega, by have := h.h; omega, fun x hx => by have := (h.el x hx).2.1; omega⟩
theorem fitL_small {l : List File} (h : smallF l = true) : fitL l = true := by
  obtain ⟨h1, h2⟩ := smallF_all h
  unfold fitL
  rw [Bool.and_eq_true, decide_eq_true_eq, List.all_eq_true]
  exact ⟨by omega, fun f hf => by have := h2 f hf; rw [decide_eq_true_eq]; omega⟩
theorem fitO_small {o : Obj} (h : smallO o = true) : fitO o = true := by
  obtain ⟨h1, h2, h3, h4⟩ := smallO_all h
  unfold fitO
  rw [Bool.and_eq_true, Bool.and_eq_true, decide_eq_true_eq, List.all_eq_true, List.all_eq_true]
  refine ⟨⟨⟨by omega, by omega⟩, fun x hx => ?_⟩, fun x hx => ?_⟩
  · rw [Bool.and_eq_true, decide_eq_true_eq]
    exact ⟨by have := (h3 x hx).2; omega, fitL_small (h3 x hx).1⟩
  · have := h4 x hx
    rw [decide_eq_true_eq]; omega
theorem fit_spot {o : Obj} {e f a : Int} (h : FitO o) (hs : SpotIn o e f a) : Fit (spotL o e f a) := by
  have hx := (h.el _ (getD_mem E0 (show e.toNat < o.2.2.1.length by have := hs.1; omega))).2
  have hf : f.toNat < (o.2.2.1.getD e.toNat E0).2.2.2.2.length := by have := hs.2.1; omega
  refine ⟨by rw [spotL, List.length_set]; exact hx.1, fun y hy => ?_⟩
  rcases List.mem_or_eq_of_mem_set (show y ∈ (o.2.2.1.getD e.toNat E0).2.2.2.2.set f.toNat _ from hy) with hy | rfl
  · exact hx.2 y hy
  · have := hx.2 _ (getD_mem ([], []) hf)
    exact ⟨this.1, by show (List.set _ _ _).length ≤ 50000; rw [List.length_set]; exact this.2⟩
end Go.Proofs.YtecjedagdpnemaaGreatDoor
