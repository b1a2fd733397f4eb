/-
  field.Set returns what setF says, in whatever world. No condition beyond that of the plain function.
-/
import Derived.Test.YtggdnnjabdcgjaaGreatDoorH7
namespace Go.Proofs.YtggdnnjabdcgjaaGreatDoor.S
open Go Go.Nu Go.RowKit Go.Sort Go.Lib
set_option linter.unusedVariables false

theorem sz24 : sizes Tryz.prog 24 = some [1, 1, 1, 1] := by kernel_rfl
theorem cells24 : Tryz.prog.cellsOf 24 = 4 := by kernel_rfl
theorem cons_inv {S : Nat → Nat → Prop} {w : World} {ow : Ow} {x : V} {xs : List V} {cs : List Value} (h : RepCs Tryz.prog S w ow (x :: xs) cs) : ∃ c1 c2, cs = c1 ++ c2 ∧ RepC Tryz.prog S w ow x c1 ∧ RepCs Tryz.prog S w ow xs c2 := by
  generalize hx : x :: xs = l at h
  cases h with
  | nil => cases hx
  | cons _ h1 h2 => cases hx; exact ⟨_, _, rfl, h1, h2⟩
theorem nil_inv {S : Nat → Nat → Prop} {w : World} {ow : Ow} {cs : List Value} (h : RepCs Tryz.prog S w ow [] cs) : cs = [] := by
  generalize hx : ([] : List V) = l at h
  cases h with
  | nil => rfl
  | cons _ h1 h2 => cases hx
theorem str_inv {S : Nat → Nat → Prop} {w : World} {ow : Ow} {s : List UInt8} {cs : List Value} (h : RepC Tryz.prog S w ow (.str s) cs) : cs = [.string ⟨s.toArray⟩] := by
  cases h; rfl
theorem int_inv {S : Nat → Nat → Prop} {w : World} {ow : Ow} {k : IntKind} {n : Int} {cs : List Value} (h : RepC Tryz.prog S w ow (.int k n) cs) : cs = [.int k n] := by
  cases h; rfl
theorem agg_inv {S : Nat → Nat → Prop} {w : World} {ow : Ow} {fs : List V} {cs : List Value} (h : RepC Tryz.prog S w ow (.agg 24 fs) cs) : RepCs Tryz.prog S w ow fs cs := by
  generalize hv : V.agg 24 fs = v at h
  cases h with
  | agg _ k1 k2 k3 k4 => cases hv; exact k3
  | row =>
    injection hv with h1 _
    have h2 : (24 : Nat) = 1000000 + _ := h1
    omega
  | _ => cases hv
theorem sl_one {S : Nat → Nat → Prop} {w : World} {ow : Ow} {e : TypeId} {es : List V} {cs : List Value} (h : RepC Tryz.prog S w ow (.sl none e es) cs) : ∃ sv, cs = [sv] := by
  generalize hv : V.sl none e es = v at h
  cases h with
  | nilsl => exact ⟨_, rfl⟩
  | sl => exact ⟨_, rfl⟩
  | emp => exact ⟨_, rfl⟩
  | _ => cases hv
theorem field_inv {S : Nat → Nat → Prop} {w : World} {tag ind : List UInt8} {l : List Sub} {auth : Int} {c : Value} (h : Rep1 Tryz.prog S w noOw (.agg 24 [.str tag, .str ind, .sl none 46 (l.map (toV shSub)), .int .i64 auth]) c) :
    ∃ sv, c = .agg #[.string ⟨tag.toArray⟩, .string ⟨ind.toArray⟩, sv, .int .i64 auth] ∧ RepC Tryz.prog S w noOw (.sl none 46 (l.map (toV shSub))) [sv] := by
  obtain ⟨cs, rfl, h1⟩ := h.aggOf
  obtain ⟨c1, r1, rfl, p1, q1⟩ := cons_inv (agg_inv h1)
  obtain ⟨c2, r2, rfl, p2, q2⟩ := cons_inv q1
  obtain ⟨c3, r3, rfl, p3, q3⟩ := cons_inv q2
  obtain ⟨c4, r4, rfl, p4, q4⟩ := cons_inv q3
  obtain rfl := nil_inv q4
  obtain rfl := str_inv p1
  obtain rfl := str_inv p2
  obtain rfl := int_inv p4
  obtain ⟨sv, rfl⟩ := sl_one p3
  exact ⟨sv, rfl, p3⟩
theorem rowH_rep {S : Nat → Nat → Prop} {w w' : World} {l : List Sub} {sv : Value} (h : RowH w.heap.size w' l sv) : RepC Tryz.prog (fun b o => S b o ∨ (w.heap.size ≤ b ∧ b < w'.heap.size)) w' noOw (.sl none 46 (l.map (toV shSub))) [sv] := by
  rcases h with ⟨rfl, a, cap, rfl, ha⟩ | ⟨g, cap, rfl, h1, h2, h3, h4, h5⟩
  · cases a with
    | none => rw [ha rfl]; exact .nilsl _ (TagOk.none_ _ _ _ _)
    | some ad => exact .emp _
  · have := RepC.sl (P := Tryz.prog) (S := fun b o => S b o ∨ (w.heap.size ≤ b ∧ b < w'.heap.size)) (w := w') noOw (tag := none) (e := 46) (b := g) (o := 0) (cap := cap) (repCs_subs l) (width_subs l)
      (fun j u hu => ⟨.inr ⟨h1, h2⟩, h5 j u hu⟩) (by rw [len_subs]; exact h3) h4 (TagOk.none_ _ _ _ _)
    rwa [len_subs] at this

theorem walkSet (tag ind v : List UInt8) (l : List Sub) (auth : Int) (c : UInt8) (sv : Value) (w : World) (S : Nat → Nat → Prop) (hg : GT w) (h : Holds0 S w l sv) (hl : l.length ≤ 1000000) :
    Calls Tryz.prog 20 #[.agg #[.string ⟨tag.toArray⟩, .string ⟨ind.toArray⟩, sv, .int .i64 auth], .int .u8 (c.toNat : Int), .string ⟨v.toArray⟩] w fun e w' =>
      ∃ sv', e = .returned (.agg #[.string ⟨tag.toArray⟩, .string ⟨ind.toArray⟩, sv', .int .i64 auth]) ∧ Below w.heap.size w w' ∧ RowH w.heap.size w' (setL l c v) sv' := by
  unfold setL
  by_cases hv : v = []
  · subst hv
    rw [if_pos rfl]
    exact walkSetA tag ind l auth c sv w S hg h hl
  · rw [if_neg hv]
    have hbv : (⟨v.toArray⟩ : ByteArray).toList.isEmpty = false := by
      match v, hv with
      | x :: t, _ =>
        have : (⟨(x :: t).toArray⟩ : ByteArray).toList = x :: t := by simp [ByteArray.toList_eq]
        rw [this]; rfl
    rcases idxS_spec c l 0 with ⟨e, _⟩ | ⟨k, _, e, _⟩
    · exact walkSetC tag ind ⟨v.toArray⟩ hbv v rfl l auth c sv w S hg h hl e
    · exact walkSetB tag ind ⟨v.toArray⟩ hbv v rfl l auth c sv w S hg h hl k (by rw [show (0 : Int) = ((0 : Nat) : Int) from rfl, e]; congr 1; omega)

theorem simSet (f : den shField) (c : UInt8) (v : List UInt8) (y : den shField) (h : fSet f c v = some y) : SimCalls Tryz.prog GT 20 [toV shField f, byteV c, .str v] (toV shField y) := by
  obtain ⟨tag, ind, l, auth⟩ := f
  unfold fSet at h
  split at h
  · rename_i hl
    cases h
    intro w S cargs hg hS ha
    rcases cargs with _ | ⟨c1, _ | ⟨c2, _ | ⟨c3, _ | ⟨c4, cargs⟩⟩⟩⟩
    · exact ha.elim
    · exact ha.2.elim
    · exact ha.2.2.elim
    · obtain ⟨h1, h2, h3, _⟩ := ha
      obtain ⟨sv, rfl, hr⟩ := field_inv (l := l) h1
      have h2 : RepC Tryz.prog S w noOw (.int .u8 (c.toNat : Int)) [c2] := h2
      have h3 : RepC Tryz.prog S w noOw (.str v) [c3] := h3
      cases int_inv h2
      cases str_inv h3
      refine (walkSet tag ind v l auth c sv w S hg (holds0_of hS hr) hl).mono ?_
      rintro e w' ⟨sv', rfl, hb, hrow⟩
      refine ⟨_, rfl, hb, fun b o => S b o ∨ (w.heap.size ≤ b ∧ b < w'.heap.size), fun b o hh => ?_, fun b o hlt => ⟨fun hh => ?_, .inl⟩, ?_⟩
      · rcases hh with hh | ⟨_, hh⟩
        · exact Nat.lt_of_lt_of_le (hS b o hh) hb.size
        · exact hh
      · rcases hh with hh | ⟨hh, _⟩
        · exact hh
        · omega
      · refine ⟨[.string ⟨tag.toArray⟩, .string ⟨ind.toArray⟩, sv', .int .i64 auth], rfl, ?_⟩
        exact .agg noOw sz24 (by rw [cells24]; rfl) (.cons noOw (.str _ _) (.cons noOw (.str _ _) (.cons noOw (rowH_rep hrow) (.cons noOw (.int _ _ _) (.nil _))))) (by decide)
    · exact ha.2.2.2.elim
  · cases h
end Go.Proofs.YtggdnnjabdcgjaaGreatDoor.S
namespace Go.Proofs.YtggdnnjabdcgjaaGreatDoor
open Go Go.Nu
theorem okSet : TEnt.Ok Tryz.prog GT entSet :=
  .plain rfl (callable_of (fn := Tryz.f20) Tryz.func20 (by kernel_rfl)) fun x y h => S.simSet x.1 x.2.1 x.2.2 y h
end Go.Proofs.YtggdnnjabdcgjaaGreatDoor
