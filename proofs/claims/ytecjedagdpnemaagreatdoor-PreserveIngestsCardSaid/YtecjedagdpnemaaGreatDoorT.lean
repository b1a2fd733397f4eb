/-
  Chapter 47: sizes of what is made; the laws on new objects, checks, damages, repairs. No condition beyond what each line says.
-/
import Derived.Test.YtecjedagdpnemaaGreatDoorZ
namespace Go.Proofs.YtecjedagdpnemaaGreatDoor
open Go Go.Nu
set_option linter.unusedVariables false
theorem fit_O0 : FitO O0 := ⟨by show 0 ≤ 1000; omega, by show 0 ≤ 1000; omega, (fun x hx => by cases hx), (fun x hx => by cases hx)⟩
theorem FitO.add {o : Obj} {d k e : Int} {r : List UInt8} {g : Bool} (h : FitO o) (hn : o.2.2.2.1.length + 1 ≤ 1000) (hr : r.length ≤ 1000) : FitO (addP o d k e r g) := by
  refine ⟨h.e, by rw [add_len]; exact hn, h.el, fun x hx => ?_⟩
  rcases List.mem_append.1 (show x ∈ o.2.2.2.1 ++ [fixP o.2.2.2.1 d k e r g] from hx) with hx | hx
  · exact h.hl x hx
  · rw [List.mem_singleton] at hx; subst hx
    exact ⟨hr, by show (dig _).length ≤ 1000; rw [dig_len]; omega⟩
theorem FitO.len {o : Obj} (h : FitO o) : LenO o := ⟨by have := h.e; omega, by have := h.h; omega, fun x hx => by have := (h.el x hx).2.1; omega⟩
theorem fitL_small {l : List File} (h : smallF l = true) : fitL l = true := by
  obtain ⟨h1, h2⟩ := smallF_all h
  unfold fitL
  rw [Bool.and_eq_true, decide_eq_true_eq, List.all_eq_true]
  exact ⟨by omega, fun f hf => by have := h2 f hf; rw [decide_eq_true_eq]; omega⟩
theorem fit_ingest {n r f d : Int} {l : List File} {t : Rts} (hl : Fit l) : FitO (ingestP n r f d l t).1 := by
  unfold ingestP
  split
  · exact fit_O0
  split
  · exact fit_O0
  split
  · exact fit_O0
  refine FitO.add (o := (n, r, [(f, -1, d, rootP l, l)], [], t)) ⟨by show 1 ≤ 1000; omega, by show 0 ≤ 1000; omega, fun x hx => ?_, fun x hx => by cases hx⟩ (by show 0 + 1 ≤ 1000; omega) (by rw [root_len]; omega)
  rw [List.mem_singleton] at hx
  subst hx
  exact ⟨by show (rootP l).length ≤ 1000; rw [root_len]; omega, hl⟩
end Go.Proofs.YtecjedagdpnemaaGreatDoor
