/-
  Chapter 47: sizes of what is made; the laws on new objects, checks, damages, repairs. No condition.
-/
import Derived.Test.YtecjedagdpnemaaGreatDoorZ
namespace Go.Proofs.YtecjedagdpnemaaGreatDoor
open Go Go.Nu
set_option linter.unusedVariables false
theorem fit_O0 : FitO O0 := ⟨by show 0 ≤ 1000; omega, by show 0 ≤ 1000; omega, (fun x hx => by cases hx), (fun x hx => by cases hx)⟩
theorem FitO.add {o : Obj} {d k e : Int} {r : List UInt8} {g : Bool} (h : FitO o) (hn : o.2.2.2.1.length + 1 ≤ 1000) (hr : r.length ≤ 1000) : FitO (addP o d k e r g) := by
  refine ⟨h.e, by rw [add_len]; exact hn, h.el, fun x hx => ?_⟩
  rcases List.mem_append.1 (show x ∈ o.2.2.2.1 ++ [fixP o.2.2.2.1 d k e r g] from hx) with hx | hx
  · exact h.hl x hx
  · rw [List.mem_singleton] at hx; subst hx
    exact ⟨hr, by show (dig _).length ≤ 1000; rw [dig_len]; omega⟩
theorem FitO.len {o : Obj} (h : FitO o) : LenO o := ⟨by have := h.e; omega, by have := h.h; omega, fun x hx => by have := (h.el x hx).2.1; omega⟩
theorem fitL_small {l : List File} (h : smallF l = true) : fitL l = true := by
  obtain ⟨h1, h2⟩ := smallF_all h
  unfold fitL
  rw [Bool.and_eq_true, decide_eq_true_eq, List.all_eq_true]
  exact ⟨by omega, fun f hf => by have := h2 f hf; rw [decide_eq_true_eq]; omega⟩
theorem fitO_small {o : Obj} (h : smallO o = true) : fitO o = true := by
  obtain ⟨h1, h2, h3, h4⟩ := smallO_all h
  unfold fitO
  rw [Bool.and_eq_true, Bool.and_eq_true, decide_eq_true_eq, List.all_eq_true, List.all_eq_true]
  refine ⟨⟨⟨by omega, by omega⟩, fun x hx => ?_⟩, fun x hx => ?_⟩
  · rw [Bool.and_eq_true, decide_eq_true_eq]
    exact ⟨by have := (h3 x hx).2; omega, fitL_small (h3 x hx).1⟩
  · have := h4 x hx
    rw [decide_eq_true_eq]; omega
end Go.Proofs.YtecjedagdpnemaaGreatDoor
