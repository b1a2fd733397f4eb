/-
  Chapter 47: what a reading tells of the numbers of a history. No condition beyond what each line says.
-/
import Derived.Test.YtecjedagdpnemaaGreatDoorT3
namespace Go.Proofs.YtecjedagdpnemaaGreatDoor
open Go Go.Nu
set_option linter.unusedVariables false
theorem rd_int {H : Type} {n : Int} {ds : List (DataW H)} (h : RdL Tryz.prog (.int .i64) n ds) : inR n := by
  have h2 := h.2
  unfold Lit.wf at h2
  rw [Bool.and_eq_true, decide_eq_true_eq, decide_eq_true_eq] at h2
  unfold inR
  have e1 : IntKind.i64.min = -9223372036854775808 := rfl
  have e2 : IntKind.i64.max = 9223372036854775807 := rfl
  omega
theorem rd_fix {H : Type} {x : Fix} {ds : List (DataW H)} (h : RdL Tryz.prog shFix x ds) : inR x.1 ∧ inR x.2.1 ∧ inR x.2.2.1 := by
  obtain ⟨ps, _, d1, r1, _, q1, d2, r2, _, q2, d3, r3, _, q3, _⟩ := h
  exact ⟨rd_int q1, rd_int q2, rd_int q3⟩
theorem rd_list {H : Type} : ∀ {l : List Fix} {els : List (DataW H)}, All2 (fun x d => RdL Tryz.prog shFix x [d]) l els → ∀ x ∈ l, inR x.1 ∧ inR x.2.1 ∧ inR x.2.2.1
  | [], _, _, x, hx => by cases hx
  | y :: l, [], h, x, hx => h.elim
  | y :: l, d :: els, h, x, hx => by
    rcases List.mem_cons.1 hx with rfl | hx
    · exact rd_fix h.1
    · exact rd_list h.2 x hx
theorem law9_of {H : Type} (o : Obj) (i : Int) (f : Fix) {ds : List (DataW H)} (h : RdLs Tryz.prog [shObj, .int .i64, shFix] (o, i, f) ds) : F9 o i f = some true := by
  obtain ⟨d, r, _, h1, d2, r2, _, _, h3⟩ := h
  refine law9 o i f ?_ (rd_fix h3)
  obtain ⟨ps, _, e1, s1, _, _, e2, s2, _, _, e3, s3, _, _, e4, s4, _, q4, _⟩ := h1
  rcases q4 with ⟨_, hn⟩ | ⟨els, sp, _, ha, _⟩
  · have hn : o.2.2.2.1 = [] := hn
    rw [hn]
    intro x hx
    cases hx
  · exact rd_list ha
end Go.Proofs.YtecjedagdpnemaaGreatDoor
