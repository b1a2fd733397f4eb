/-
  slices.Clone at the subfields of a field; slices.DeleteFunc and the search at none. No condition beyond what each line says.
-/
import Derived.Test.YtggdnnjabdcgjaaGreatDoorH2
import Derived.Shelf.SlicesE.Clone
namespace Go.Proofs.YtggdnnjabdcgjaaGreatDoor.S
open Go Go.Nu Go.RowKit Go.Sort Go.Lib
set_option linter.unusedVariables false

theorem info46 : ∃ i0 z, Tryz.prog.info? 46 = some i0 ∧ i0.zero = some z ∧ i0.size = 2 ∧ i0.bytes = 24 ∧ z.cells.size = 2 := by
  have h : ((Tryz.prog.info? 46).bind fun i => i.zero.map fun z => (i.size, i.bytes, z.cells.size)) = some (2, 24, 2) := by kernel_rfl
  cases hi : Tryz.prog.info? 46 with
  | none => rw [hi] at h; cases h
  | some i0 =>
    rw [hi] at h
    replace h : (i0.zero.map fun z => (i0.size, i0.bytes, z.cells.size)) = some (2, 24, 2) := h
    cases hz : i0.zero with
    | none => rw [hz] at h; cases h
    | some z =>
      rw [hz] at h
      replace h : some (i0.size, i0.bytes, z.cells.size) = some (2, 24, 2) := h
      injection h with h
      injection h with h1 h2
      injection h2 with h2 h3
      exact ⟨i0, z, rfl, hz, h1, h2, h3⟩

theorem one_subs (l : List Sub) : ∀ u ∈ l.flatMap encS, u.oneCell' = true := by
  intro u hu
  obtain ⟨s, _, hs⟩ := List.mem_flatMap.1 hu
  exact encS_one s u hs
theorem subs_cells {S : Nat → Nat → Prop} {w : World} {ow : Ow} : ∀ {l : List Sub} {cs : List Value}, RepCs Tryz.prog S w ow (l.map (toV shSub)) cs → cs = l.flatMap encS
  | [], cs, h => by cases h; rfl
  | s :: l, cs, h => by
    generalize hx : (s :: l).map (toV shSub) = xs at h
    cases h with
    | nil => cases hx
    | cons _ h1 h2 =>
      change toV shSub s :: l.map (toV shSub) = _ at hx
      injection hx with e1 e2
      subst e1
      subst e2
      rw [List.flatMap_cons, subs_cells h2]
      congr 1
      change RepC Tryz.prog S w ow (.agg 46 [byteV s.1, .str s.2]) _ at h1
      generalize hv : V.agg 46 [byteV s.1, .str s.2] = v at h1
      cases h1 with
      | agg _ k1 k2 k3 k4 =>
        cases hv
        cases k3 with
        | cons _ q1 q2 =>
          cases q1
          cases q2 with
          | cons _ r1 r2 =>
            cases r1
            cases r2
            rfl
      | row => 
        injection hv with h1 _
        have h2 : (46 : Nat) = 1000000 + _ := h1
        omega
      | _ => cases hv

/-- A slice value that holds these subfields. -/
def Holds0 (S : Nat → Nat → Prop) (w : World) (l : List Sub) (sv : Value) : Prop :=
  (l = [] ∧ ∃ a cap, sv = .slice a 0 cap) ∨ ∃ b o cap, sv = .slice (some ⟨b, o, none⟩) l.length cap ∧ b < w.heap.size ∧ ∀ j u, (l.flatMap encS)[j]? = some u → w.cell? ⟨b, o + j, none⟩ = some u
theorem holds0_of {S : Nat → Nat → Prop} {w : World} {l : List Sub} {sv : Value} (hS : ∀ b o, S b o → b < w.heap.size) (h : RepC Tryz.prog S w noOw (.sl none 46 (l.map (toV shSub))) [sv]) : Holds0 S w l sv := by
  generalize hv : V.sl none 46 (l.map (toV shSub)) = v at h
  generalize hc : [sv] = cc at h
  cases h with
  | nilsl =>
    cases hc
    simp only [V.sl.injEq] at hv
    exact .inl ⟨List.map_eq_nil_iff.1 hv.2.2, _, _, rfl⟩
  | emp =>
    cases hc
    simp only [V.sl.injEq] at hv
    exact .inl ⟨List.map_eq_nil_iff.1 hv.2.2, _, _, rfl⟩
  | sl _ h1 h2 h3 h4 h5 h6 =>
    simp only [V.sl.injEq] at hv
    obtain ⟨rfl, rfl, rfl⟩ := hv
    simp only [List.cons.injEq, and_true] at hc
    subst hc
    have hcs := subs_cells h1
    subst hcs
    rw [len_subs]
    by_cases hl : l = []
    · subst hl
      exact .inl ⟨rfl, _, _, rfl⟩
    · rename_i b o cap
      refine .inr ⟨b, o, cap, rfl, ?_, fun j u hu => (h3 j u hu).2⟩
      match l, hl with
      | s :: l, _ => exact hS _ _ (h3 0 (.int .u8 s.1.toNat) rfl).1
  | _ => cases hv

set_option maxHeartbeats 2000000 in
set_option maxRecDepth 100000 in
theorem walkClone (ad : Addr) (n c : Nat) (news : List Value) (w : World) (hl : news.length = n * 2) (hn : n ≤ 1000000) (hc : ∀ j u, news[j]? = some u → w.cell? (ad.add j) = some u) (h1 : ∀ u ∈ news, u.oneCell' = true) :
    Calls Tryz.prog 36 #[.slice (some ad) n c] w fun e w' => ∃ v', e = .returned v' ∧ w'.ownsRow w.heap.size 46 2 v' n news ∧ Below w.heap.size w w' := by
  obtain ⟨i0, z, q1, q2, q3, q4, q5⟩ := info46
  have q22 : ∀ (w : World) (a : Option Addr) (n c n' c' : Nat), (binOp .eql 22 (.slice a n c) (.slice none n' c')).run Tryz.prog w = .ok (.bool a.isNone) w := fun w a n c n' c' => Lib.run_eql_slice_nil w _ _ a n c n' c' Tryz.underlying22
  have A : Aside (∀ j u, news[j]? = some u → w.cell? (ad.add j) = some u) := hc
  clear hc
  go_enter Tryz.func36, Tryz.ntmps36
  go_wp2_with (at_builtin; refine wpList_append_own _ rfl _ _ 22 rfl w.heap.size 46 i0 z 2 24 Tryz.underlying22 q1 q2 q3 q4 q5 (by omega) _ _ _ rfl (World.ownsRow_made w #[] 0 (Nat.le_refl _) (Nat.zero_le _) (by simp)) ad n c news rfl ?qc1 ?qc2 ?qc3 ?qc4 ?qc5 ?qc6 ?_)
  case qc1 => exact hl
  case qc2 =>
    intro j u hj
    exact Lib.cell?_alloc_some _ (A.out j u hj)
  case qc3 => exact h1
  case qc4 => unfold maxLen; omega
  case qc5 => omega
  case qc6 => simp
  intro v' w1 hown hgrow hnil
  go_wp2
  go_ret
  refine ⟨v', rfl, by simpa using hown, ?_⟩
  exact ((Below.refl _ w).alloc (Nat.le_refl _) _).grown hgrow (by simp) (by intro k hk; simp [Value.ownBlock] at hk; omega)
set_option maxHeartbeats 1000000 in
theorem walkClone_nil (n c : Nat) (w : World) : Calls Tryz.prog 36 #[.slice none n c] w fun e w' => e = .returned (.slice none 0 0) ∧ w' = w := by
  have q22 : ∀ (w : World) (a : Option Addr) (n c n' c' : Nat), (binOp .eql 22 (.slice a n c) (.slice none n' c')).run Tryz.prog w = .ok (.bool a.isNone) w := fun w a n c n' c' => Lib.run_eql_slice_nil w _ _ a n c n' c' Tryz.underlying22
  go_enter Tryz.func36, Tryz.ntmps36
  go_wp2
  go_ret
  exact ⟨rfl, rfl⟩

theorem callClone {S : Nat → Nat → Prop} {l : List Sub} {sv : Value} (w0 w : World) (hb : Below w0.heap.size w0 w) (h : Holds0 S w0 l sv) (hl : l.length ≤ 1000000) :
    Calls Tryz.prog 36 #[sv] w fun e w' => ∃ v', e = .returned v' ∧ w'.ownsRow w.heap.size 46 2 v' l.length (l.flatMap encS) ∧ Below w.heap.size w w' := by
  rcases h with ⟨rfl, a, cap, rfl⟩ | ⟨b, o, cap, rfl, hlt, hc⟩
  · cases a with
    | none =>
      refine (walkClone_nil 0 cap w).mono ?_
      rintro e w' ⟨rfl, rfl⟩
      exact ⟨_, rfl, World.ownsRow_nil _ _ _ _, Below.refl _ _⟩
    | some ad => exact walkClone ad 0 cap [] w rfl (by omega) (fun j u hu => by cases hu) (fun u hu => by cases hu)
  · refine walkClone ⟨b, o, none⟩ l.length cap (l.flatMap encS) w (flat_len l) hl (fun j u hu => ?_) (one_subs l)
    rw [Nu.addr_add]
    exact (hb.cell (p := ⟨b, o + j, none⟩) hlt).trans (hc j u hu)
end Go.Proofs.YtggdnnjabdcgjaaGreatDoor.S
