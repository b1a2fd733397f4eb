/-
  MoneyWhole, walked where Share returns an error; its contract. No condition beyond what each line says.
-/
import Derived.Test.YtekgjongmjnoaaaDoorU
import Derived.Test.YtekgjongmjnoaaaDoorW
import Derived.WalkKit
import Derived.Lib.LazyBuf
namespace Go.Proofs.YtekgjongmjnoaaaDoor
open Go Go.Nu Go.RowKit
set_option linter.unusedVariables false

theorem sl_shape {S : Nat → Nat → Prop} {w : World} {ow : Ow} {l : List V} {sv : Value} (h : RepC Tryd.prog S w ow (.sl none 3 l) [sv]) : ∃ a cap, sv = .slice a l.length cap := by
  generalize hv : V.sl none 3 l = v at h
  generalize hc : [sv] = cc at h
  cases h with
  | nilsl => cases hc; cases hv; exact ⟨_, _, rfl⟩
  | emp => cases hc; cases hv; exact ⟨_, _, rfl⟩
  | sl _ h1 h2 h3 h4 h5 h6 => cases hc; cases hv; exact ⟨_, _, rfl⟩
  | _ => cases hv
theorem len_i (o : List Int) : (o.map (toV (.int .i64))).length = o.length := List.length_map _
theorem call8 (w : World) (hg : GT w) : Calls Tryd.prog 8 #[] w fun e w' => e = .returned (.bool true) ∧ Below w.heap.size w w' := by
  have h := k8.sim rfl () true f8
  refine (h w (fun _ _ => False) [] hg (fun _ _ h => h.elim) trivial).mono ?_
  rintro e w' ⟨c, rfl, hb, S', _, _, hc⟩
  have hc : RepC Tryd.prog S' w' noOw (.bool true) [c] := hc
  cases hc
  exact ⟨rfl, hb⟩
theorem call9 (t : Int) (ws : List Int) (sv : Value) (w : World) (S : Nat → Nat → Prop) (hg : GT w) (hS : ∀ b o, S b o → b < w.heap.size) (hr : RepC Tryd.prog S w noOw (.sl none 3 (ws.map (toV (.int .i64)))) [sv])
    (hl : ws.length ≤ 1000000) (hno : okSh t ws = false) : Calls Tryd.prog 9 #[.int .i64 t, sv] w fun e w' => (∃ a cap, e = .returned (.tuple #[.slice a 0 cap, .int .i64 1])) ∧ Below w.heap.size w w' := by
  have h := k9.sim rfl (t, ws) (([] : List Int), (1 : Int)) (by
    show F9 t ws = _
    rw [f9 t ws hl]
    unfold shareP
    rw [if_neg (by rw [hno]; simp)]
    rfl)
  refine (h w S [.int .i64 t, sv] hg hS ⟨RepC.int noOw .i64 t, hr, trivial⟩).mono ?_
  rintro e w' ⟨c, rfl, hb, S', _, _, cs, rfl, hc⟩
  refine ⟨?_, hb⟩
  rcases cs with _ | ⟨c1, _ | ⟨c2, _ | ⟨c3, cs⟩⟩⟩
  · exact hc.elim
  · exact hc.2.elim
  · have h1 : RepC Tryd.prog S' w' noOw (.sl none 3 []) [c1] := hc.1
    have h2 : RepC Tryd.prog S' w' noOw (.int .i64 1) [c2] := hc.2.1
    obtain ⟨a, cap, rfl⟩ := sl_shape h1
    cases h2
    exact ⟨a, cap, rfl⟩
  · exact hc.2.2.elim
theorem below_tr {n : Nat} {w w1 w2 : World} (h : Below n w w1) (hn : n ≤ w1.heap.size) (hb : Below w1.heap.size w1 w2) : Below n w w2 :=
  ⟨hb.os.trans h.os, hb.tape.trans h.tape, hb.output.trans h.output, Nat.le_trans h.size hb.size, fun j hj => (hb.block j (Nat.lt_of_lt_of_le hj hn)).trans (h.block j hj)⟩

set_option maxHeartbeats 1000000 in
set_option maxRecDepth 1000000 in
theorem walk5 (t : Int) (ws : List Int) (sv : Value) (w : World) (S : Nat → Nat → Prop) (hg : GT w) (hS : ∀ b o, S b o → b < w.heap.size) (hr : RepC Tryd.prog S w noOw (.sl none 3 (ws.map (toV (.int .i64)))) [sv])
    (h40 : ws.length ≤ 40) (hno : okSh t ws = false) : Calls Tryd.prog 5 #[.int .i64 t, sv] w fun e w' => e = .returned (.bool true) ∧ Below w.heap.size w w' := by
  have C8 : Aside (Calls Tryd.prog 8 #[] w fun e w' => e = .returned (.bool true) ∧ Below w.heap.size w w') := call8 w hg
  have C9 : Aside (∀ w1, Below w.heap.size w w1 → Calls Tryd.prog 9 #[.int .i64 t, sv] w1 fun e w' => (∃ a cap, e = .returned (.tuple #[.slice a 0 cap, .int .i64 1])) ∧ Below w1.heap.size w1 w') := fun w1 hb =>
    call9 t ws sv w1 S (keepsGT w w1 hg hb) (fun b o h => Nat.lt_of_lt_of_le (hS b o h) hb.size) (hr.mono ⟨fun _ _ h => h, fun b o h => hb.cell (p := ⟨b, o, none⟩) (hS b o h), fun _ _ _ _ h => by cases h⟩) (by omega) hno
  obtain ⟨a, cap, rfl⟩ := sl_shape hr
  rw [len_i] at C9 ⊢
  have hz : ¬ (40 : Int) < (ws.length : Int) := by omega
  have q22 := fun (W : World) (a : Option Addr) (l c : Nat) => run_eql_slice_nil (P := Tryd.prog) W 22 3 a l c Tryd.underlying22
  clear hg hS hr hno
  go_enter Tryd.func5, Tryd.ntmps5
  go_wp2_with (first
    | (go_at_call 8; refine C8.out.mono ?_; rintro e w1 ⟨rfl, hb⟩; have B1 : Aside (Below w.heap.size w w1) := hb; clear hb)
    | (go_at_call 9; refine (C9.out _ B1.out).mono ?_; rintro e w2 ⟨⟨a2, cap2, rfl⟩, hb⟩; have B2 : Aside (Below w.heap.size w w2) := below_tr B1.out B1.out.size hb; clear hb; rcases a2 with _ | a2))
  all_goals go_ret
  all_goals exact ⟨rfl, B2.out⟩

noncomputable def entW : TEnt := ⟨5, [(.int .i64), (.sl 3 (.int .i64))], .bool, fun _ => some true, .plain⟩
theorem simW (t : Int) (ws : List Int) : SimCalls Tryd.prog GT 5 [.int .i64 t, .sl none 3 (ws.map (toV (.int .i64)))] (.bool true) := by
  by_cases h : 40 < ws.length ∨ okSh t ws = true
  · exact k5.sim rfl (t, ws) true (law5a t ws h)
  · have h40 : ws.length ≤ 40 := Nat.le_of_not_lt fun h' => h (.inl h')
    have hno : okSh t ws = false := by
      cases hb : okSh t ws
      · rfl
      · exact absurd (.inr hb) h
    intro w S cargs hg hS ha
    rcases cargs with _ | ⟨c1, _ | ⟨c2, _ | ⟨c3, cargs⟩⟩⟩
    · exact ha.elim
    · exact ha.2.elim
    · obtain ⟨h1, h2, _⟩ := ha
      have h1 : RepC Tryd.prog S w noOw (.int .i64 t) [c1] := h1
      have h2 : RepC Tryd.prog S w noOw (.sl none 3 (ws.map (toV (.int .i64)))) [c2] := h2
      cases h1
      refine (walk5 t ws c2 w S hg hS h2 h40 hno).mono ?_
      rintro e w' ⟨rfl, hb⟩
      exact ⟨_, rfl, hb, S, fun b o h => Nat.lt_of_lt_of_le (hS b o h) hb.size, fun _ _ _ => Iff.rfl, RepC.bool noOw true⟩
    · exact ha.2.2.elim
theorem kW : TEnt.Ok Tryd.prog GT entW :=
  .plain rfl (callable_of (fn := Tryd.f5) Tryd.func5 (by kernel_rfl)) fun x y h => by cases h; exact simW x.1 x.2
end Go.Proofs.YtekgjongmjnoaaaDoor
