/-
  bag.Verify returns what verifyP says, in whatever world. No condition beyond that of the plain function.
-/
import Derived.Test.YthpgkpcnajookaaGreatDoorH4
namespace Go.Proofs.YthpgkpcnajookaaGreatDoor
open Go Go.Nu Go.RowKit Go.Sort Go.Maps
set_option linter.unusedVariables false

abbrev shFile : Sh := .agg 39 (.pair .str .str)
def encF (f : File) : List Value := [.string ⟨f.1.toArray⟩, .string ⟨f.2.toArray⟩]
theorem file_get : ∀ (l : List File) (i : Nat), i < l.length → (l.flatMap encF)[i * 2]? = some (.string ⟨(l.getD i ([], [])).1.toArray⟩) ∧ (l.flatMap encF)[i * 2 + 1]? = some (.string ⟨(l.getD i ([], [])).2.toArray⟩)
  | [], i, h => absurd h (Nat.not_lt_zero _)
  | f :: l, 0, _ => ⟨rfl, rfl⟩
  | f :: l, i + 1, h => by
    have ih := file_get l i (by rw [List.length_cons] at h; omega)
    rw [List.flatMap_cons]
    refine ⟨?_, ?_⟩
    · rw [show (i + 1) * 2 = i * 2 + 1 + 1 by omega]; exact ih.1
    · rw [show (i + 1) * 2 + 1 = i * 2 + 1 + 1 + 1 by omega]; exact ih.2
theorem len_files (l : List File) : (l.map (toV shFile)).length = l.length := List.length_map _
theorem files_cells {S : Nat → Nat → Prop} {w : World} {ow : Ow} : ∀ {l : List File} {cs : List Value}, RepCs Tryz.prog S w ow (l.map (toV shFile)) cs → cs = l.flatMap encF
  | [], cs, h => by cases h; rfl
  | s :: l, cs, h => by
    generalize hx : (s :: l).map (toV shFile) = xs at h
    cases h with
    | nil => cases hx
    | cons _ h1 h2 =>
      change toV shFile s :: l.map (toV shFile) = _ at hx
      injection hx with e1 e2
      subst e1
      subst e2
      rw [List.flatMap_cons, files_cells h2]
      congr 1
      change RepC Tryz.prog S w ow (.agg 39 [.str s.1, .str s.2]) _ at h1
      generalize hv : V.agg 39 [.str s.1, .str s.2] = v at h1
      cases h1 with
      | agg _ k1 k2 k3 k4 =>
        cases hv
        cases k3 with
        | cons _ q1 q2 =>
          cases q1
          cases q2 with
          | cons _ r1 r2 =>
            cases r1
            cases r2
            rfl
      | row =>
        injection hv with h1 _
        have h2 : (39 : Nat) = 1000000 + _ := h1
        omega
      | _ => cases hv
theorem files_of {S : Nat → Nat → Prop} {w : World} {l : List File} {sv : Value} (hS : ∀ b o, S b o → b < w.heap.size) (h : RepC Tryz.prog S w noOw (.sl none 39 (l.map (toV shFile))) [sv]) :
    ∃ a cap, sv = .slice a l.length cap ∧ FilesAt w l a := by
  generalize hv : V.sl none 39 (l.map (toV shFile)) = v at h
  generalize hc : [sv] = cc at h
  cases h with
  | nilsl =>
    cases hc
    simp only [V.sl.injEq] at hv
    obtain rfl := List.map_eq_nil_iff.1 hv.2.2
    exact ⟨_, _, rfl, fun i hi => absurd hi (Nat.not_lt_zero _)⟩
  | emp =>
    cases hc
    simp only [V.sl.injEq] at hv
    obtain rfl := List.map_eq_nil_iff.1 hv.2.2
    exact ⟨_, _, rfl, fun i hi => absurd hi (Nat.not_lt_zero _)⟩
  | sl _ h1 h2 h3 h4 h5 h6 =>
    simp only [V.sl.injEq] at hv
    obtain ⟨rfl, rfl, rfl⟩ := hv
    simp only [List.cons.injEq, and_true] at hc
    subst hc
    have hcs := files_cells h1
    subst hcs
    rw [len_files]
    rename_i b o cap
    refine ⟨_, _, rfl, fun i hi => ⟨b, o, rfl, ?_, ?_, ?_⟩⟩
    · exact hS _ _ (h3 _ _ (file_get l i hi).1).1
    · exact (h3 _ _ (file_get l i hi).1).2
    · rw [Nat.add_assoc]; exact (h3 _ _ (file_get l i hi).2).2
  | _ => cases hv

theorem int_cells {S : Nat → Nat → Prop} {w : World} {ow : Ow} : ∀ o : List Int, RepCs Tryz.prog S w ow (o.map (toV (.int .i64))) (ints o)
  | [] => .nil ow
  | x :: o => RepCs.cons (P := Tryz.prog) ow (.int ow .i64 x) (int_cells o)
theorem len_ints (o : List Int) : (o.map (toV (.int .i64))).length = o.length := List.length_map _
theorem row_rep {S : Nat → Nat → Prop} {w w' : World} {B : Nat} {o : List Int} {v : Value} (hB : w.heap.size ≤ B) (h : w'.ownsRow B 3 1 v o.length (ints o)) :
    RepC Tryz.prog (fun b o => S b o ∨ (w.heap.size ≤ b ∧ b < w'.heap.size)) w' noOw (.sl none 3 (o.map (toV (.int .i64)))) [v] := by
  rcases h.2 with ⟨rfl, h0⟩ | ⟨g, cap, cur, rfl, h1, h2, h3, h4, h5, h6⟩
  · obtain rfl := List.eq_nil_of_length_eq_zero h0
    exact .nilsl _ (TagOk.none_ _ _ _ _)
  · have := RepC.sl (P := Tryz.prog) (S := fun b o => S b o ∨ (w.heap.size ≤ b ∧ b < w'.heap.size)) (w := w') noOw (tag := none) (e := 3) (b := g) (o := 0) (cap := cap) (int_cells o)
      (fun x hx => by obtain ⟨y, _, rfl⟩ := List.mem_map.1 hx; kernel_rfl)
      (fun j u hu => ⟨.inr ⟨by omega, (Array.getElem?_eq_some_iff.1 h2).1⟩, by
        rw [← h6, List.getElem?_take] at hu
        split at hu
        · rw [cell_of_row _ _ _ _ _ _ h2, Nat.zero_add, ← Array.getElem?_toList]; exact hu
        · cases hu⟩) (by rw [len_ints]; exact h3) h4 (TagOk.none_ _ _ _ _)
    rwa [len_ints] at this

theorem walkVer (l : List File) (a : Option Addr) (cap : Nat) (s : ByteArray) (w : World) (hg : GT w) (hs : s.data.toList.length ≤ 1000000) (hl : Fit l) (hf : FilesAt w l a) :
    Calls Tryz.prog 20 #[.slice a l.length cap, .string s] w (VerPost (verifyP l s.data.toList) w) := by
  unfold verifyP
  cases hn : entsP s.data.toList with
  | none => exact walkVerN l a cap s w hg hs hl hf hn
  | some m => exact walkVerS l a cap s w hg hs hl hf m hn _ rfl
theorem simVerify (l : List File) (s : List UInt8) (y : List Int) (h : fVerify l s = some y) : SimCalls Tryz.prog GT 20 [.sl none 39 (l.map (toV shFile)), .str s] (.sl none 3 (y.map (toV (.int .i64)))) := by
  unfold fVerify at h
  split at h
  · rename_i hc
    cases h
    have hl : Fit l := ⟨hc.1, fun f hf => by
      have := List.all_eq_true.1 hc.2.2 f hf
      rw [Bool.and_eq_true, decide_eq_true_eq, decide_eq_true_eq] at this
      exact this⟩
    intro w S cargs hg hS ha
    rcases cargs with _ | ⟨c1, _ | ⟨c2, _ | ⟨c3, cargs⟩⟩⟩
    · exact ha.elim
    · exact ha.2.elim
    · obtain ⟨h1, h2, _⟩ := ha
      have h1 : RepC Tryz.prog S w noOw (.sl none 39 (l.map (toV shFile))) [c1] := h1
      have h2 : RepC Tryz.prog S w noOw (.str s) [c2] := h2
      obtain ⟨a, cap, rfl, hf⟩ := files_of hS h1
      cases h2
      refine (walkVer l a cap ⟨s.toArray⟩ w hg hc.2.1 hl hf).mono ?_
      rintro e w' ⟨v, B, rfl, hB, hb, hrow⟩
      refine ⟨_, rfl, hb, fun b o => S b o ∨ (w.heap.size ≤ b ∧ b < w'.heap.size), fun b o hh => ?_, fun b o hlt => ⟨fun hh => ?_, .inl⟩, ?_⟩
      · rcases hh with hh | ⟨_, hh⟩
        · exact Nat.lt_of_lt_of_le (hS b o hh) hb.size
        · exact hh
      · rcases hh with hh | ⟨hh, _⟩
        · exact hh
        · omega
      · exact row_rep hB hrow
    · exact ha.2.2.elim
  · cases h
theorem okVerify : TEnt.Ok Tryz.prog GT entVerify :=
  .plain rfl (callable_of (fn := Tryz.f20) Tryz.func20 (by kernel_rfl)) fun x y h => simVerify x.1 x.2 y h
end Go.Proofs.YthpgkpcnajookaaGreatDoor
