/-
  field.Set: what its walk wants of the worlds on the way. No condition beyond what each line says.
-/
import Derived.Test.YtggdnnjabdcgjaaGreatDoorH3
namespace Go.Proofs.YtggdnnjabdcgjaaGreatDoor.S
open Go Go.Nu Go.RowKit Go.Sort Go.Lib
set_option linter.unusedVariables false

/-- A slice of the call's own that holds these subfields. -/
def RowH (B : Nat) (w' : World) (l : List Sub) (sv : Value) : Prop :=
  (l = [] ∧ ∃ a cap, sv = .slice a 0 cap ∧ (a = none → cap = 0)) ∨ ∃ g cap, sv = .slice (some ⟨g, 0, none⟩) l.length cap ∧ B ≤ g ∧ g < w'.heap.size ∧ l.length ≤ cap ∧ cap ≤ maxLen ∧ ∀ j u, (l.flatMap encS)[j]? = some u → w'.cell? ⟨g, 0 + j, none⟩ = some u
theorem rowH_of {B : Nat} {w : World} {l : List Sub} {sv : Value} (h : w.ownsRow B 46 2 sv l.length (l.flatMap encS)) : RowH B w l sv := by
  rcases h.2 with ⟨rfl, h0⟩ | ⟨g, cap, cur, rfl, h1, h2, h3, h4, h5, h6⟩
  · exact .inl ⟨List.eq_nil_of_length_eq_zero h0, _, _, rfl, fun _ => rfl⟩
  · refine .inr ⟨g, cap, rfl, h1, (Array.getElem?_eq_some_iff.1 h2).1, h3, h4, fun j u hu => ?_⟩
    rw [← h6, List.getElem?_take] at hu
    split at hu
    · rw [cell_of_row _ _ _ _ _ _ h2, Nat.zero_add, ← Array.getElem?_toList]; exact hu
    · cases hu
theorem RowH.kept {B : Nat} {w w' : World} {l : List Sub} {sv : Value} (h : RowH B w l sv) (hs : w.heap.size ≤ w'.heap.size) (hb : ∀ k, B ≤ k → k < w.heap.size → w'.heap[k]? = w.heap[k]?) : RowH B w' l sv := by
  rcases h with h | ⟨g, cap, h1, h2, h3, h4, h5, h6⟩
  · exact .inl h
  · refine .inr ⟨g, cap, h1, h2, by omega, h4, h5, fun j u hu => ?_⟩
    rw [← h6 j u hu]
    simp [World.cell?, hb g h2 h3]

theorem callIdx2 (c : UInt8) (cb B : Nat) (l : List Sub) (sv : Value) (w : World) (hg : GT w) (hcb : w.cell? ⟨cb, 0, none⟩ = some (.int .u8 (c.toNat : Int))) (h : RowH B w l sv) (hl : l.length ≤ 1000000) :
    Calls Tryz.prog 29 #[sv, .func (.func 35) #[] #[.pointer (some ⟨cb, 0, none⟩)]] w fun e w' => e = .returned (.int .i64 (idxS c l 0)) ∧ Below w.heap.size w w' := by
  rcases h with ⟨rfl, a, cap, rfl, ha⟩ | ⟨g, cap, rfl, h1, h2, h3, h4, h5⟩
  · have hcl : cb < w.heap.size := by
      rcases Nat.lt_or_ge cb w.heap.size with h | h
      · exact h
      · unfold World.cell? at hcb
        rw [Array.getElem?_eq_none h] at hcb
        cases hcb
    have h := (ok29 keepsGT (ok35 keepsGT)).sim rfl ([], (c, ())) _ (f29 [] c hl)
    refine (h w (fun b o => b = cb ∧ o = 0) [.slice a 0 cap, .func (.func 35) #[] #[.pointer (some ⟨cb, 0, none⟩)]] hg (fun b o hb => by rw [hb.1]; exact hcl) ⟨?_, ?_, trivial⟩).mono ?_
    · show RepC Tryz.prog _ w noOw (.sl none 46 []) [.slice a 0 cap]
      cases a with
      | none => rw [ha rfl]; exact .nilsl _ (TagOk.none_ _ _ _ _)
      | some ad => exact .emp _
    · show RepC Tryz.prog _ w noOw (.fn 35 [.rp (byteV c)]) [.func (.func 35) #[] #[.pointer (some ⟨cb, 0, none⟩)]]
      refine .fn _ (fun x hx => by rw [List.mem_singleton.1 hx]; rfl) (.cons _ (cs := []) (.rp _ (.int _ .u8 _) ?_) (.nil _))
      intro j u hu
      match j, hu with
      | 0, hu => cases hu; exact ⟨⟨rfl, rfl⟩, hcb⟩
    · rintro e w' ⟨r, rfl, hb, S', _, _, hr⟩
      refine ⟨?_, hb⟩
      have hr : RepC Tryz.prog S' w' noOw (.int .i64 (idxS c [] 0)) [r] := hr
      cases hr
      rfl
  · exact callIdx c cb g cap l w hg hcb h2 h5 hl h3 h4

set_option maxHeartbeats 1000000 in
set_option maxRecDepth 1000000 in
theorem walkDel0 (c : UInt8) (cb : Nat) (a : Option Addr) (cap : Nat) (w : World) (hg : GT w) (hcb : w.cell? ⟨cb, 0, none⟩ = some (.int .u8 (c.toNat : Int))) (ha : a = none → cap = 0) :
    Calls Tryz.prog 37 #[.slice a 0 cap, .func (.func 35) #[] #[.pointer (some ⟨cb, 0, none⟩)]] w fun e w' => e = .returned (.slice a 0 cap) ∧ Below w.heap.size w w' := by
  have hI := callIdx2 c cb 0 [] (.slice a 0 cap) w hg hcb (.inl ⟨rfl, a, cap, rfl, ha⟩) (by simp)
  rw [show idxS c [] 0 = -1 from rfl] at hI
  clear hg hcb ha
  go_enter Tryz.func37, Tryz.ntmps37
  go_wp2_with (go_at_call 29; refine hI.mono ?_; rintro e w' ⟨rfl, hb⟩)
  go_ret
  exact ⟨rfl, hb⟩

theorem callDel (c : UInt8) (cb B : Nat) (l : List Sub) (sv : Value) (w : World) (hG : ∀ w', BelowX (fun k => B ≤ k) w w' → GT w') (hcb : w.cell? ⟨cb, 0, none⟩ = some (.int .u8 (c.toNat : Int))) (hcB : cb < B)
    (h : w.ownsRow B 46 2 sv l.length (l.flatMap encS)) (hl : l.length ≤ 1000000) :
    Calls Tryz.prog 37 #[sv, .func (.func 35) #[] #[.pointer (some ⟨cb, 0, none⟩)]] w fun e w' => ∃ v', e = .returned v' ∧ BelowX (fun k => B ≤ k) w w' ∧ RowH B w' (l.filter fun s => s.1 != c) v' := by
  rcases h.2 with ⟨rfl, h0⟩ | ⟨g, cap, cur, rfl, h1, h2, h3, h4, h5, h6⟩
  · obtain rfl := List.eq_nil_of_length_eq_zero h0
    refine (walkDel0 c cb none 0 w (hG w (BelowX.refl _ _)) hcb fun _ => rfl).mono ?_
    rintro e w' ⟨rfl, hb⟩
    exact ⟨_, rfl, BelowX.of hb, .inl ⟨rfl, _, _, rfl, fun _ => rfl⟩⟩
  · have hlt : g < w.heap.size := (Array.getElem?_eq_some_iff.1 h2).1
    have hH : HoldsK encS 2 w g 0 l.toArray := by
      intro j hj
      rw [size_flatK, List.size_toArray] at hj
      rw [get_flatK _ _ _ _ (by simpa using hj)]
      have hj2 : j / 2 < l.length := by omega
      have hm : j % 2 < 2 := Nat.mod_lt _ (by omega)
      have e1 : (l.flatMap encS)[j]? = some ((encS l.toArray[j / 2]!)[j % 2]!) := by
        rw [flat_get, List.getElem?_eq_getElem hj2, Option.bind_some]
        rw [getElem!_pos l.toArray _ (by simpa using hj2), List.getElem?_eq_getElem (by rw [encS_len]; exact hm), getElem!_pos _ _ (by rw [encS_len]; exact hm)]
        simp
      rw [← h6, List.getElem?_take, if_pos (by omega)] at e1
      refine ⟨?_, by simp [World.frozen?, h2]⟩
      rw [cell_of_row _ _ _ _ _ _ h2, Nat.zero_add, ← Array.getElem?_toList]
      exact e1
    have hx : ∀ w', BelowX (· = g) w w' → BelowX (fun k => B ≤ k) w w' := fun w' hb => ⟨hb.os, hb.tape, hb.output, hb.size, fun k hk hn => hb.block k hk (fun e => hn (by rw [e]; exact h1))⟩
    have hd := walkDel c cb g cap l.toArray w (fun w' hb => hG w' (hx w' hb)) hcb (by omega) hlt hH (by simpa using hl) (by simpa using h3) h4
    rw [List.size_toArray] at hd
    refine hd.mono ?_
    rintro e w' ⟨rfl, hb, hc⟩
    exact ⟨_, rfl, hx w' hb, .inr ⟨g, cap, rfl, h1, Nat.lt_of_lt_of_le hlt hb.size, Nat.le_trans (List.length_filter_le _ _) h3, h4, hc⟩⟩

/-- What lies in the blocks of the call's own. -/
structure SetAt (n : Nat) (a b s d c : Value) (W : World) : Prop where
  e3 : W.heap[n]? = some (.cells #[a, b, s, d] 24 (0, 0))
  e4 : W.heap[n + 1]? = some (.cells #[c] 5 (0, 0))
  e6 : W.heap[n + 2]? = some (.cells #[.string ⟨#[]⟩, .string ⟨#[]⟩, .slice none 0 0, .int .i64 0] 24 (0, 0))
structure SetC (n : Nat) (a b s d c : Value) (W : World) : Prop where
  a0 : W.cell? ⟨n, 0, none⟩ = some a
  a1 : W.cell? ⟨n, 1, none⟩ = some b
  a2 : W.cell? ⟨n, 2, none⟩ = some s
  a3 : W.cell? ⟨n, 3, none⟩ = some d
  f2 : W.frozen? ⟨n, 2, none⟩ = false
  c0 : W.cell? ⟨n + 1, 0, none⟩ = some c
  z0 : W.cell? ⟨n + 2, 0, none⟩ = some (.string ⟨#[]⟩)
  z1 : W.cell? ⟨n + 2, 1, none⟩ = some (.string ⟨#[]⟩)
  z2 : W.cell? ⟨n + 2, 2, none⟩ = some (.slice none 0 0)
  z3 : W.cell? ⟨n + 2, 3, none⟩ = some (.int .i64 0)
  g0 : W.frozen? ⟨n + 2, 0, none⟩ = false
  g1 : W.frozen? ⟨n + 2, 1, none⟩ = false
  g2 : W.frozen? ⟨n + 2, 2, none⟩ = false
  g3 : W.frozen? ⟨n + 2, 3, none⟩ = false
theorem SetAt.c {n : Nat} {a b s d c : Value} {W : World} (h : SetAt n a b s d c W) : SetC n a b s d c W := by
  have h1 := fun o => cell_of_row _ _ o _ _ _ h.e3
  have h2 := fun o => cell_of_row _ _ o _ _ _ h.e4
  have h3 := fun o => cell_of_row _ _ o _ _ _ h.e6
  exact ⟨h1 0, h1 1, h1 2, h1 3, by simp [World.frozen?, h.e3], h2 0, h3 0, h3 1, h3 2, h3 3, by simp [World.frozen?, h.e6], by simp [World.frozen?, h.e6], by simp [World.frozen?, h.e6], by simp [World.frozen?, h.e6]⟩
theorem SetAt.kept {n : Nat} {a b s d c : Value} {W W' : World} (h : SetAt n a b s d c W) (hb : ∀ k, k < n + 3 → W'.heap[k]? = W.heap[k]?) : SetAt n a b s d c W' :=
  ⟨(hb _ (by omega)).trans h.e3, (hb _ (by omega)).trans h.e4, (hb _ (by omega)).trans h.e6⟩
theorem SetAt.set {n : Nat} {a b s d c s' : Value} {W : World} (h : SetAt n a b s d c W) : SetAt n a b s' d c (W.setCell ⟨n, 2, none⟩ s') := by
  refine ⟨by simp [World.setCell, Array.getElem?_modify, h.e3], ?_, ?_⟩
  · rw [Below.heap_setCell _ _ _ _ (by simp)]; exact h.e4
  · rw [Below.heap_setCell _ _ _ _ (by simp)]; exact h.e6
end Go.Proofs.YtggdnnjabdcgjaaGreatDoor.S
