/-
  The simulation of the code by plain states: rules for calls, loops and whole functions. No condition.
-/
import Derived.Test.YtnhjoplleldbfaaDoorK1
/-
  NU, text 13: append onto a row of the call's own.
-/
namespace Go.Nu
open Go Go.RowKit

section
variable {P : Program} {n : Nat} {w0 w w' : World} {LX : Nat → Prop} {df : Df} {S0 S S' : Nat → Nat → Prop} {bm : Bm} {ow ow' : Ow} {st st' : St} {a : Act} {o : Oper} {E : Ext}

theorem RepCs.append : ∀ {us vs : List V} {cs ds : List Value}, RepCs P S w ow us cs → RepCs P S w ow vs ds → RepCs P S w ow (us ++ vs) (cs ++ ds)
  | _, _, _, _, .nil _, h => h
  | _, _, _, _, .cons _ h1 h2, h => by
    have := RepCs.cons _ h1 (RepCs.append h2 h)
    simpa using this

/-- A row moves into a new block g, longer than it was. -/
theorem Sim.moveRow (h : Sim P n w0 LX df S0 S bm ow st a w) {d g k k0 c : Nat} {e : TypeId} {cur : Array Value} (hn : st.fr d = some (e, k0)) (hlt : k0 < k) (hg : w0.heap.size ≤ g) (hf : Fresh S bm ow g) (hh : w.heap[g]? = some (.cells cur e (0, 0)))
    (hc : cur.size = c * P.cellsOf e) (hk : k ≤ c) (hm : c ≤ maxLen) :
    Sim P n w0 LX df S0 (fun b o => S b o ∨ (b = g ∧ o < k * P.cellsOf e)) bm (upd ow d (some (k, some ⟨g, 0, none⟩, c))) { st with fr := upd st.fr d (some (e, k)) } a w := by
  obtain ⟨a0, c0, hon, hro⟩ := h.row d e k0 hn
  have hle : Le S (fun b o => S b o ∨ (b = g ∧ o < k * P.cellsOf e)) ow (upd ow d (some (k, some ⟨g, 0, none⟩, c))) w w := by
    refine ⟨fun _ _ h => .inl h, fun _ _ _ => rfl, fun d' n' a' c' hd' => ?_⟩
    unfold upd
    split
    · rename_i e1
      subst e1
      rw [hon] at hd'
      cases hd'
      exact ⟨k, _, _, rfl, by omega, fun e2 => by omega⟩
    · exact ⟨n', a', c', hd', Nat.le_refl _, fun _ => ⟨rfl, rfl⟩⟩
  refine { h with slt := fun b o hS => ?_, sold := fun b o hb => ?_, slot := fun i => (h.slot i).mono hle, box := fun d' v hv => ?_, row := fun d' e' k' hd' => ?_, rowNone := fun d' hd' => ?_, rInj := fun x y k1 k2 a1 a2 c1 c2 hx hy hxy => ?_, brDis := fun x y z k' a' c' hx hy => ?_ }
  · rcases hS with hS | ⟨rfl, _⟩
    · exact h.slt b o hS
    · exact heap_lt hh
  · rw [← h.sold b o hb]
    exact ⟨fun hS => by rcases hS with hS | ⟨rfl, _⟩ <;> first | exact hS | omega, .inl⟩
  · obtain ⟨g', h1, h2, h3, h4⟩ := h.box d' v hv
    refine ⟨g', h1, h2, h3.mono hle rfl, fun o hS => ?_⟩
    rcases hS with hS | ⟨rfl, _⟩
    · exact h4 o hS
    · exact hf.b _ h1
  · replace hd' : upd st.fr d (some (e, k)) d' = some (e', k') := hd'
    unfold upd at hd' ⊢
    split at hd'
    · rename_i e1
      cases hd'
      rw [if_pos e1]
      exact ⟨some ⟨g, 0, none⟩, c, rfl, g, cur, rfl, hg, .of_plain hh, hc, hk, hm, fun o => ⟨fun hS => by
        rcases hS with hS | ⟨_, hS⟩
        · exact absurd hS (hf.s o)
        · exact hS, fun hS => .inr ⟨rfl, hS⟩⟩⟩
    · rename_i e1
      rw [if_neg e1]
      obtain ⟨x, c', h1, h2⟩ := h.row d' e' k' hd'
      refine ⟨x, c', h1, ?_⟩
      unfold RowAt at h2 ⊢
      cases x with
      | none => exact h2
      | some ad =>
        obtain ⟨g', cur', q0, q1, q2, q3, q4, q5, q6⟩ := h2
        refine ⟨g', cur', q0, q1, q2, q3, q4, q5, fun o => ?_⟩
        rw [← q6 o]
        refine ⟨fun hS => ?_, .inl⟩
        rcases hS with hS | ⟨hb, _⟩
        · exact hS
        · have := hf.r _ _ _ _ h1
          rw [q0] at this
          exact absurd hb this
  · replace hd' : upd st.fr d (some (e, k)) d' = none := hd'
    unfold upd at hd' ⊢
    split at hd'
    · cases hd'
    · rename_i e1; rw [if_neg e1]; exact h.rowNone d' hd'
  · unfold upd at hx hy
    split at hx <;> split at hy
    · rename_i e1 e2; rw [e1, e2]
    · cases hx; exact absurd hxy.symm (hf.r _ _ _ _ hy)
    · cases hy; exact absurd hxy (hf.r _ _ _ _ hx)
    · exact h.rInj _ _ _ _ _ _ _ _ hx hy hxy
  · unfold upd at hy
    split at hy
    · cases hy; exact fun e2 => hf.b _ (e2 ▸ hx)
    · exact h.brDis _ _ _ _ _ _ hx hy

/-- A row grows in its own block. -/
theorem Sim.growRow (h : Sim P n w0 LX df S0 S bm ow st a w) {d g k k0 c : Nat} {e : TypeId} {cur cur' : Array Value} (hn : st.fr d = some (e, k0)) (hon : ow d = some (k0, some ⟨g, 0, none⟩, c)) (hlt : k0 ≤ k) (hk : k ≤ c)
    (hh : w.heap[g]? = some (.cells cur e (0, 0))) (hsz : cur'.size = cur.size) (hpre : ∀ o, o < k0 * P.cellsOf e → cur'[o]? = cur[o]?) :
    Sim P n w0 LX df S0 (fun b o => S b o ∨ (b = g ∧ o < k * P.cellsOf e)) bm (upd ow d (some (k, some ⟨g, 0, none⟩, c))) { st with fr := upd st.fr d (some (e, k)) } a (w.setRow g cur') := by
  obtain ⟨e0, cur0, q0, _, q1, q2, q3, q4, q5, q6⟩ := h.rLt hon
  obtain rfl : e = e0 := congrArg Prod.fst (Option.some.inj (hn.symm.trans q0))
  obtain rfl : cur0 = cur := by
    obtain ⟨z, q2, _⟩ := q2
    rw [q2] at hh; simp at hh; exact hh.1
  replace q6 : ∀ o, S g o ↔ o < k0 * P.cellsOf e := q6
  replace q1 : w0.heap.size ≤ g := q1
  have hkk : k0 * P.cellsOf e ≤ k * P.cellsOf e := Nat.mul_le_mul_right _ hlt
  have hle : Le S (fun b o => S b o ∨ (b = g ∧ o < k * P.cellsOf e)) ow (upd ow d (some (k, some ⟨g, 0, none⟩, c))) w (w.setRow g cur') := by
    refine ⟨fun _ _ h => .inl h, fun b o hS => ?_, fun d' n' a' c' hd' => ?_⟩
    · by_cases hb : b = g
      · subst hb
        rw [cell_setRow_same w b o cur0 cur' e (0, 0) hh, cell_of_row w b o cur0 e (0, 0) hh]
        exact hpre o ((q6 o).1 hS)
      · exact cell_setRow_other w g cur' ⟨b, o, none⟩ hb
    · unfold upd
      split
      · rename_i e1
        subst e1
        rw [hon] at hd'
        cases hd'
        exact ⟨k, _, _, rfl, hlt, fun _ => ⟨rfl, rfl⟩⟩
      · exact ⟨n', a', c', hd', Nat.le_refl _, fun _ => ⟨rfl, rfl⟩⟩
  have hoth : ∀ j, j ≠ g → (w.setRow g cur').heap[j]? = w.heap[j]? := fun j hj => setRow_other w g j cur' hj
  refine { h with below := ?_, slt := fun b o hS => ?_, sold := fun b o hb => ?_, slot := fun i => (h.slot i).mono hle, box := fun d' v hv => ?_, row := fun d' e' k' hd' => ?_, rowNone := fun d' hd' => ?_, rInj := fun x y k1 k2 a1 a2 c1 c2 hx hy hxy => ?_, brDis := fun x y z k' a' c' hx hy => ?_ }
  · exact ⟨h.below.os, h.below.tape, h.below.output, by simpa using h.below.size, fun j hj hx => (hoth j (by omega)).trans (h.below.block j hj hx)⟩
  · rw [setRow_size]
    rcases hS with hS | ⟨rfl, _⟩
    · exact h.slt b o hS
    · exact heap_lt hh
  · rw [← h.sold b o hb]
    exact ⟨fun hS => by rcases hS with hS | ⟨rfl, _⟩ <;> first | exact hS | omega, .inl⟩
  · obtain ⟨g', h1, h2, h3, h4⟩ := h.box d' v hv
    have hne : g ≠ g' := h.brDis _ _ _ _ _ _ h1 hon
    refine ⟨g', h1, h2, h3.mono hle (hoth g' (Ne.symm hne)), fun o hS => ?_⟩
    rcases hS with hS | ⟨e1, _⟩
    · exact h4 o hS
    · exact hne e1.symm
  · replace hd' : upd st.fr d (some (e, k)) d' = some (e', k') := hd'
    unfold upd at hd' ⊢
    split at hd'
    · rename_i e1
      cases hd'
      rw [if_pos e1]
      refine ⟨some ⟨g, 0, none⟩, c, rfl, g, cur', rfl, q1, .of_plain (setRow_heap w g cur0 cur' e (0, 0) hh), by rw [hsz, q3], hk, q5, fun o => ⟨fun hS => ?_, fun hS => .inr ⟨rfl, hS⟩⟩⟩
      rcases hS with hS | ⟨_, hS⟩
      · exact Nat.lt_of_lt_of_le ((q6 o).1 hS) hkk
      · exact hS
    · rename_i e1
      rw [if_neg e1]
      obtain ⟨x, c', h1, h2⟩ := h.row d' e' k' hd'
      refine ⟨x, c', h1, ?_⟩
      unfold RowAt at h2 ⊢
      cases x with
      | none => exact h2
      | some ad =>
        obtain ⟨g', cur2, z0, z1, z2, z3, z4, z5, z6⟩ := h2
        have hne : g' ≠ g := fun e2 => e1 (h.rInj _ _ _ _ _ _ _ _ h1 hon (by rw [z0]; exact e2))
        refine ⟨g', cur2, z0, z1, z2.of_eq (hoth g' hne), z3, z4, z5, fun o => ?_⟩
        rw [← z6 o]
        refine ⟨fun hS => ?_, .inl⟩
        rcases hS with hS | ⟨hb, _⟩
        · exact hS
        · exact absurd hb hne
  · replace hd' : upd st.fr d (some (e, k)) d' = none := hd'
    unfold upd at hd' ⊢
    split at hd'
    · cases hd'
    · rename_i e1; rw [if_neg e1]; exact h.rowNone d' hd'
  · unfold upd at hx hy
    split at hx <;> split at hy
    · rename_i e1 e2; rw [e1, e2]
    · rename_i e1 e2; cases hx; rw [e1]; exact h.rInj _ _ _ _ _ _ _ _ hon hy hxy
    · rename_i e1 e2; cases hy; rw [e2]; exact h.rInj _ _ _ _ _ _ _ _ hx hon hxy
    · exact h.rInj _ _ _ _ _ _ _ _ hx hy hxy
  · unfold upd at hy
    split at hy
    · cases hy; exact h.brDis _ _ _ _ _ _ hx hon
    · exact h.brDis _ _ _ _ _ _ hx hy

end
end Go.Nu
/-
  NU, text 14: append, slice literals, structs built.
-/
namespace Go.Nu
open Go Go.RowKit

section
variable {P : Program} {n : Nat} {w0 w w' : World} {LX : Nat → Prop} {df : Df} {S0 S S' : Nat → Nat → Prop} {bm : Bm} {ow ow' : Ow} {st st' : St} {a : Act} {o : Oper} {E : Ext}

theorem upd_same {α : Type} {f : Nat → Option α} {d : Nat} {v : α} (h : f d = some v) : upd f d (some v) = f := by
  funext i
  unfold upd
  split
  · rename_i e; rw [e, h]
  · rfl

theorem mem_cells {b k : Nat} {cs : List Value} (h : Mem S w b k cs) : ∀ j u, cs[j]? = some u → w.cell? ((⟨b, k, none⟩ : Addr).add j) = some u := fun j u hu => by
  rw [addr_add]; exact (h j u hu).2

theorem run_append_zero (base : Nat) (t ty e : TypeId) (i : TypeInfo) (size : Nat) (ht : P.underlying t = some (.slice e)) (hi : P.info? e = some i)
    (v : Value) (n : Nat) (xs : List Value) (hown : w.ownsRow base e size v n xs) (ad : Addr) (cp : Nat) :
    (Builtin.append_ #[t, t] ty #[v, .slice (some ad) 0 cp]).run P w = .ok v w := by
  rcases hown.2 with ⟨rfl, rfl⟩ | ⟨g, cap, cur, rfl, _, _, hnc, _⟩
  · simp [Builtin.append_, run_underlying ht, sizeOf, typeInfo, hi, Builtin.lenOf, Builtin.firstCells, loadCells, loadCellsFrom]
  · simp [Builtin.append_, run_underlying ht, sizeOf, typeInfo, hi, Builtin.lenOf, Builtin.firstCells, loadCells, loadCellsFrom, hnc, storeCells]

theorem elemsOf_rep {e : TypeId} {y : V} {c : Value} {es2 : List V} (h : elemsOf e y = some es2) (hr : RepS P S w ow bm st.bx y c) :
    (es2 = [] ∧ (c = .slice none 0 0 ∨ ∃ ad cp, c = .slice (some ad) 0 cp)) ∨ ∃ b k cap cs, c = .slice (some ⟨b, k, none⟩) es2.length cap ∧ RepCs P S w noOw es2 cs ∧ (∀ x ∈ es2, width P x = P.cellsOf e) ∧ Mem S w b k cs := by
  unfold elemsOf at h
  split at h
  · rename_i tg e' es
    simp only [RepS, Rep1] at hr
    split at h
    · rename_i he
      subst he
      obtain rfl := Option.some.inj h
      cases hr with
      | nilsl => exact .inl ⟨rfl, .inl rfl⟩
      | emp => exact .inl ⟨rfl, .inr ⟨_, _, rfl⟩⟩
      | sl _ h1 h2 h3 h4 h5 h6 => exact .inr ⟨_, _, _, _, rfl, h1, h2, h3⟩
    · split at h
      · obtain rfl := Option.some.inj h
        cases hr with
        | nilsl => exact .inl ⟨rfl, .inl rfl⟩
        | emp => exact .inl ⟨rfl, .inr ⟨_, _, rfl⟩⟩
        | sl _ h1 h2 h3 h4 h5 h6 => exact .inr ⟨_, _, _, _, rfl, h1, (fun _ h => by cases h), h3⟩
      · cases h
  · cases h

theorem good_ap {t e : TypeId} {x y : Operand} {x' y' : X} {d : Nat} (hs : Sim P n w0 LX df S0 S bm ow st a w) (hd : OkD df n d) (hdst : o.dst = some d) (ho : o.op = .call { callee := .builtin .append, args := #[x, y], argTypes := #[t, t] })
    (ht : P.underlying t = some (.slice e)) (hok : okElem P e = true) (hx : cX x = some x') (hy : cX y = some y')
    (h : step1 E (.ap d e x' y') st = some st') (Q : Exit → Act → World → Prop) : o.wp P a w (SimE P n w0 LX df S0 st') Q := by
  obtain ⟨idz, e', es', ek, h1, h2, rfl⟩ := stepK_F h
  simp only [PO.args, List.map_cons, List.map_nil] at h1
  obtain ⟨inf, zv, q1, q2, q3, q4, q5, q6, q7⟩ := okElem_spec hok
  unfold apV at h1
  split at h1
  · rename_i id0 e1 es hc
    split at h1
    · rename_i he
      obtain ⟨hokr, he⟩ := he
      subst he
      obtain ⟨hnb, hnn⟩ : isBld id0 = false ∧ (id0 ≠ nilT ∧ id0 ≠ zerT) := by
        unfold okRow at hokr
        rw [Bool.and_eq_true, Bool.and_eq_true, Bool.not_eq_true', Bool.not_eq_true', Bool.not_eq_true'] at hokr
        exact ⟨hokr.1, fun e => by rw [e] at hokr; exact absurd hokr.2.1 (by decide), fun e => by rw [e] at hokr; exact absurd hokr.2.2 (by decide)⟩
      split at h1
      · rename_i e2 k0 hfr
        split at h1
        · rename_i he2
          subst he2
          split at h1
          · rename_i es2 hel
            split at h1
            · rename_i hk0
              subst hk0
              split at h1
              · rename_i hbig
                simp only [Option.some.injEq, Prod.mk.injEq] at h1
                obtain ⟨rfl, rfl, rfl⟩ := h1
                obtain rfl : (e2, es.length) = ek := Option.some.inj (hfr.symm.trans h2)
                obtain ⟨a0, c0, hon, hro⟩ := hs.row _ _ _ hfr
                rw [hnb] at hro
                have hrx := hs.ev hx
                rw [hc] at hrx
                simp only [RepS, Rep1] at hrx
                have hbytes : (es.length + es2.length) * inf.bytes ≤ 140737488355328 := by
                  have hb1 : es.length + es2.length ≤ 68719476736 := hbig
                  calc (es.length + es2.length) * inf.bytes ≤ 68719476736 * 2048 := Nat.mul_le_mul hb1 q5
                    _ ≤ 140737488355328 := by omega
                have hmax : es.length + es2.length ≤ maxLen := by have hb1 : es.length + es2.length ≤ 68719476736 := hbig; unfold maxLen; omega
                -- the operand's value
                have key : ∃ cs, a.eval x = .slice a0 es.length c0 ∧ RepCs P S w noOw es cs ∧ (∀ z ∈ es, width P z = P.cellsOf e2) ∧ (∀ ad, a0 = some ad → Mem S w ad.block ad.off cs ∧ ad.spot = none) ∧ (a0 = none → es = []) := by
                  generalize a.eval x = z at hrx
                  cases hrx with
                  | nilsl _ htg =>
                    obtain ⟨n0, a1, c1, g1, g2, g3⟩ := htg.at_ hnn
                    rw [hon] at g1
                    cases g1
                    obtain ⟨g4, g5⟩ := g3 rfl
                    subst g4 g5
                    exact ⟨[], rfl, .nil _, (fun _ h => by cases h), (fun ad h => by cases h), fun _ => rfl⟩
                  | emp _ htg =>
                    obtain ⟨n0, a1, c1, g1, g2, g3⟩ := htg.at_ hnn
                    rw [hon] at g1
                    cases g1
                    obtain ⟨g4, g5⟩ := g3 rfl
                    subst g4 g5
                    refine ⟨[], rfl, .nil _, (fun _ h => by cases h), (fun ad h => ⟨fun j u hu => by simp at hu, ?_⟩), fun _ => rfl⟩
                    cases h
                    obtain ⟨g, cur, q, _⟩ := hro
                    rw [q]
                  | sl _ k1 k2 k3 k4 k5 htg =>
                    obtain ⟨n0, a1, c1, g1, g2, g3⟩ := htg.at_ hnn
                    rw [hon] at g1
                    cases g1
                    obtain ⟨g4, g5⟩ := g3 rfl
                    subst g4 g5
                    exact ⟨_, rfl, k1, k2, (fun ad h => by cases h; exact ⟨k3, rfl⟩), (fun h => by cases h)⟩
                obtain ⟨cs, ex, hcs, hwes, hmemx, hnone⟩ := key
                have hlcs := lens_uniform hcs hwes
                have hop : ∀ {r : Value} {w1 : World}, (Builtin.append_ #[t, t] o.type #[a.eval x, a.eval y]).run P w = .ok r w1 → (execOp a.eval o).run P w = .ok (.value r) w1 := by
                  intro r w1 hr
                  simp [execOp, ho, resolve, invoke, builtin, hr]
                rcases elemsOf_rep hel (hs.ev hy) with ⟨rfl, ey⟩ | ⟨b, k, cap2, cs2, ey, hcs2, hwes2, hmem2⟩
                · -- nothing is appended, nil
                  have hrun : (Builtin.append_ #[t, t] o.type #[a.eval x, a.eval y]).run P w = .ok (a.eval x) w := by
                    rw [ex]
                    have go : ∀ (v : Value) (nn : Nat) (xs : List Value), w.ownsRow 0 e2 inf.size v nn xs → (Builtin.append_ #[t, t] o.type #[v, a.eval y]).run P w = .ok v w := by
                      intro v nn xs hown
                      rcases ey with ey | ⟨ad, cp, ey⟩
                      · rw [ey]; exact run_append_owned_none w 0 t o.type e2 inf inf.size ht q1 v nn xs hown
                      · rw [ey]; exact run_append_zero 0 t o.type e2 inf inf.size ht q1 v nn xs hown ad cp
                    cases a0 with
                    | none =>
                      obtain ⟨g1, g2⟩ := hro
                      rw [g1, g2]
                      exact go _ 0 [] ⟨by simp, .inl ⟨rfl, rfl⟩⟩
                    | some ad =>
                      obtain ⟨g, cur, rfl, g1, g2, g3, g4, g5, g6⟩ := hro
                      replace g2 := g2.plain
                      exact go _ es.length (cur.toList.take (es.length * inf.size))
                        ⟨by rw [List.length_take, show cur.toList.length = cur.size from rfl, g3, q6]; exact Nat.min_eq_left (Nat.mul_le_mul_right _ g4), .inr ⟨g, c0, cur, rfl, Nat.zero_le _, g2, g4, g5, by rw [g3, q6], rfl⟩⟩
                  refine wp_value (hop hrun) ?_
                  rw [hdst, List.append_nil, upd_same hfr]
                  refine ⟨S, bm, ow, hs.put hd ?_⟩
                  have := hs.ev hx
                  rw [hc] at this
                  exact this
                · have hl2 := lens_uniform hcs2 hwes2
                  rw [q6] at hl2 hlcs
                  have hnews := mem_cells hmem2
                  have hwall : ∀ z ∈ es ++ es2, width P z = P.cellsOf e2 := fun z hz => (List.mem_append.1 hz).elim (hwes z) (hwes2 z)
                  have htag : ∀ (A : Option Addr) (C : Nat), TagOk (upd ow id0 (some ((es ++ es2).length, A, C))) (some id0) (es ++ es2).length A C := by
                    intro A C
                    exact TagOk.mk_ hnn ⟨_, A, C, by simp [upd], Nat.le_refl _, fun _ => ⟨rfl, rfl⟩⟩
                  -- the row moves into a new block
                  have moved : ∀ (nc : Nat) (rest : List Value), 0 < es2.length → (cs ++ cs2 ++ rest).length = nc * inf.size → es.length + es2.length ≤ nc → nc ≤ maxLen →
                      SimE P n w0 LX df S0 (({ st with fr := upd st.fr id0 (some (e2, (es ++ es2).length)) } : St).put d (.sl (some id0) e2 (es ++ es2))) (a.put (some d) (.slice (some ⟨w.heap.size, 0, none⟩) (es.length + es2.length) nc))
                        (w.drew.alloc (.cells (cs ++ cs2 ++ rest).toArray e2)) := by
                    intro nc rest hpos hnc hle hmx
                    have g0 : Sim P n w0 LX df S0 S bm ow st a w.drew := hs.world rfl rfl rfl rfl
                    have g1 := g0.alloc (.cells (cs ++ cs2 ++ rest).toArray e2)
                    have hh : (w.drew.alloc (.cells (cs ++ cs2 ++ rest).toArray e2)).heap[w.heap.size]? = some (.cells (cs ++ cs2 ++ rest).toArray e2 (0, 0)) := heap_alloc_new w.drew _
                    have g2 := g1.moveRow (d := id0) (k := (es ++ es2).length) (c := nc) hfr (by simp; omega) hs.below.size hs.fresh hh (by rw [q6]; simpa using hnc) (by simpa using hle) hmx
                    refine ⟨_, _, _, g2.put hd (Rep1.toS (Rep1.of rfl ?_))⟩
                    have hall : RepCs P S w noOw (es ++ es2) (cs ++ cs2) := RepCs.append hcs hcs2
                    have hfin := RepC.sl (P := P) (S := fun b o => S b o ∨ (b = w.heap.size ∧ o < (es ++ es2).length * P.cellsOf e2)) (w := w.drew.alloc (.cells (cs ++ cs2 ++ rest).toArray e2))
                      (upd ow id0 (some ((es ++ es2).length, some ⟨w.heap.size, 0, none⟩, nc))) (tag := some id0) (e := e2) (b := w.heap.size) (o := 0) (cap := nc)
                      (hall.mono ⟨fun _ _ h => .inl h, fun b o hS => World.cell?_alloc_lt w.drew _ ⟨b, o, none⟩ (hs.slt b o hS), fun _ _ _ _ h => by cases h⟩) hwall ?_ (by simpa using hle) hmx (htag _ _)
                    · simpa only [List.length_append] using hfin
                    · intro j u hu
                      have hj : j < (cs ++ cs2).length := by
                        rcases Nat.lt_or_ge j (cs ++ cs2).length with hh | hh
                        · exact hh
                        · simp [List.getElem?_eq_none hh] at hu
                      rw [Nat.zero_add]
                      refine ⟨.inr ⟨rfl, ?_⟩, ?_⟩
                      · rw [List.length_append] at hj ⊢
                        rw [q6, Nat.add_mul]; omega
                      · rw [cell_of_row _ _ _ _ _ _ hh, List.getElem?_toArray, List.getElem?_append_left hj]
                        exact hu
                  cases a0 with
                  | none =>
                    have hes := hnone rfl
                    subst hes
                    cases hcs
                    obtain ⟨g1, g2⟩ := hro
                    subst g2
                    by_cases hm0 : es2.length = 0
                    · have he2 : es2 = [] := List.eq_nil_of_length_eq_zero hm0
                      subst he2
                      have hrun : (Builtin.append_ #[t, t] o.type #[a.eval x, a.eval y]).run P w = .ok (.slice none 0 0) w := by
                        rw [ex, ey]
                        simp [Builtin.append_, run_underlying ht, sizeOf, typeInfo, q1, Builtin.lenOf, Builtin.firstCells, loadCells, loadCellsFrom]
                      refine wp_value (hop hrun) ?_
                      rw [hdst, List.append_nil, upd_same hfr]
                      refine ⟨S, bm, ow, hs.put hd ?_⟩
                      have := hs.ev hx
                      rw [hc, ex] at this
                      exact this
                    · simp only [List.length_nil] at ex
                      have hrun := run_append_nil (P := P) w t o.type e2 inf zv ht q1 q2 ⟨b, k, none⟩ es2.length cap2 cs2 hl2 hnews (by omega) (by unfold maxLen at hmax; simp at hmax; omega) (by simp at hbytes; omega)
                      rw [← ex, ← ey] at hrun
                      refine wp_value (hop hrun) ?_
                      rw [hdst]
                      have := moved (grownCap w es2.length 0 e2) (Builtin.zeroCells zv.cells (grownCap w es2.length 0 e2 - es2.length)).toList (by omega)
                        (by
                          have := grownCap_ge w es2.length 0 e2
                          simp only [List.nil_append, List.length_append, Array.length_toList, size_zeroCells, hl2, q3, ← Nat.add_mul]
                          congr 1; omega)
                        (by simpa using grownCap_ge w es2.length 0 e2) (grownCap_le_maxLen w es2.length 0 e2 (by simpa using hmax))
                      have e3 : ((cs2.toArray ++ Builtin.zeroCells zv.cells (grownCap w es2.length 0 e2 - es2.length)) : Array Value) = ([] ++ cs2 ++ (Builtin.zeroCells zv.cells (grownCap w es2.length 0 e2 - es2.length)).toList).toArray := by
                        simp
                      rw [e3]
                      show SimE P n w0 LX df S0 (St.put _ d _) _ _
                      simpa using this
                  | some ad =>
                    obtain ⟨hm1, _⟩ := hmemx ad rfl
                    obtain ⟨g, cur, rfl, g1, g2, g3, g4, g5, g6⟩ := hro
                    replace g2 := g2.plain
                    have hcur : ∀ j, j < es.length * inf.size → cur.toList[j]? = cs[j]? := by
                      intro j hj
                      have hjl : j < cs.length := by omega
                      have := (hm1 j cs[j] (List.getElem?_eq_getElem hjl)).2
                      simp only [Nat.zero_add] at this
                      rw [cell_of_row _ _ _ _ _ _ g2] at this
                      rw [Array.getElem?_toList, this, List.getElem?_eq_getElem hjl]
                    by_cases hroom : es.length + es2.length ≤ c0
                    · have hfit : es.length * inf.size + cs2.length ≤ cur.size := by rw [hl2, g3, q6, ← Nat.add_mul]; exact Nat.mul_le_mul_right _ hroom
                      have hrun := run_append_room (P := P) w t o.type e2 inf ht q1 g es.length c0 cur g2 ⟨b, k, none⟩ es2.length cap2 cs2 hl2 hnews (RepC.ones.all hcs2) hroom hfit
                      rw [← ex, ← ey] at hrun
                      refine wp_value (hop hrun) ?_
                      rw [hdst]
                      generalize hnew : (cur.toList.take (es.length * inf.size) ++ cs2 ++ cur.toList.drop (es.length * inf.size + cs2.length)).toArray = cur'
                      have htl : (cur.toList.take (es.length * inf.size)).length = es.length * inf.size := by
                        rw [List.length_take, show cur.toList.length = cur.size from rfl]; omega
                      have hsz : cur'.size = cur.size := by
                        rw [← hnew]
                        simp only [List.size_toArray, List.length_append, htl, List.length_drop, Array.length_toList]
                        omega
                      have hpre : ∀ q, q < es.length * P.cellsOf e2 → cur'[q]? = cur[q]? := by
                        intro q hq
                        rw [q6] at hq
                        rw [← hnew, List.getElem?_toArray, List.append_assoc, List.getElem?_append_left (by omega), List.getElem?_take, if_pos hq, Array.getElem?_toList]
                      have g9 := hs.growRow (k := (es ++ es2).length) hfr hon (by simp) (by simpa using hroom) g2 hsz hpre
                      refine ⟨_, _, _, g9.put hd (Rep1.toS (Rep1.of rfl ?_))⟩
                      have hh : (w.setRow g cur').heap[g]? = some (.cells cur' e2 (0, 0)) := setRow_heap w g cur cur' e2 (0, 0) g2
                      have hcell : ∀ b' o', S b' o' → (w.setRow g cur').cell? ⟨b', o', none⟩ = w.cell? ⟨b', o', none⟩ := by
                        intro b' o' hS
                        by_cases hb : b' = g
                        · subst hb
                          rw [cell_of_row _ _ _ _ _ _ hh, cell_of_row _ _ _ _ _ _ g2]
                          exact hpre o' ((g6 o').1 hS)
                        · exact cell_setRow_other w g cur' ⟨b', o', none⟩ hb
                      have hall : RepCs P S w noOw (es ++ es2) (cs ++ cs2) := RepCs.append hcs hcs2
                      have hfin := RepC.sl (P := P) (S := fun b o => S b o ∨ (b = g ∧ o < (es ++ es2).length * P.cellsOf e2)) (w := w.setRow g cur')
                        (upd ow id0 (some ((es ++ es2).length, some ⟨g, 0, none⟩, c0))) (tag := some id0) (e := e2) (b := g) (o := 0) (cap := c0)
                        (hall.mono ⟨fun _ _ h => .inl h, hcell, fun _ _ _ _ h => by cases h⟩) hwall ?_ (by simpa using hroom) g5 (htag _ _)
                      · simpa only [List.length_append] using hfin
                      · intro j u hu
                        have hj : j < (cs ++ cs2).length := by
                          rcases Nat.lt_or_ge j (cs ++ cs2).length with hh | hh
                          · exact hh
                          · simp [List.getElem?_eq_none hh] at hu
                        rw [Nat.zero_add]
                        refine ⟨.inr ⟨rfl, ?_⟩, ?_⟩
                        · rw [List.length_append] at hj ⊢
                          rw [q6, Nat.add_mul]; omega
                        · rw [cell_of_row _ _ _ _ _ _ hh, ← hnew, List.getElem?_toArray]
                          have htk : cur.toList.take (es.length * inf.size) = cs := by
                            apply List.ext_getElem?
                            intro i
                            rw [List.getElem?_take]
                            split
                            · rename_i hi; exact hcur i hi
                            · rename_i hi; rw [List.getElem?_eq_none (by omega)]
                          rw [htk, List.getElem?_append_left hj]
                          exact hu
                    · have hrun := run_append_grow (P := P) w t o.type e2 inf zv ht q1 q2 ⟨g, 0, none⟩ es.length c0 cs hlcs (fun j v hv => by rw [addr_add]; exact (hm1 j v hv).2) ⟨b, k, none⟩ es2.length cap2 cs2 hl2 hnews (by omega) (by unfold maxLen at hmax; omega)
                          (growslice_fits (by omega) hbytes)
                      rw [← ex, ← ey] at hrun
                      refine wp_value (hop hrun) ?_
                      rw [hdst]
                      have := moved (grownCap w (es.length + es2.length) c0 e2) (Builtin.zeroCells zv.cells (grownCap w (es.length + es2.length) c0 e2 - (es.length + es2.length))).toList (by omega)
                        (by
                          have := grownCap_ge w (es.length + es2.length) c0 e2
                          simp only [List.length_append, Array.length_toList, size_zeroCells, hl2, hlcs, q3, ← Nat.add_mul]
                          congr 1; omega)
                        (grownCap_ge w _ c0 e2) (grownCap_le_maxLen w _ c0 e2 hmax)
                      have e3 : ((cs.toArray ++ cs2.toArray ++ Builtin.zeroCells zv.cells (grownCap w (es.length + es2.length) c0 e2 - (es.length + es2.length))) : Array Value) =
                          (cs ++ cs2 ++ (Builtin.zeroCells zv.cells (grownCap w (es.length + es2.length) c0 e2 - (es.length + es2.length))).toList).toArray := by simp
                      rw [e3]
                      exact this
              · cases h1
            · cases h1
          · cases h1
        · cases h1
      · cases h1
    · cases h1
  · cases h1

/-- What is appended to a slice without room: a row that may be written. -/
theorem good_cx {t e : TypeId} {x y : Operand} {x' y' : X} {d : Nat} (hs : Sim P n w0 LX df S0 S bm ow st a w) (hd : OkD df n d) (hdst : o.dst = some d) (ho : o.op = .call { callee := .builtin .append, args := #[x, y], argTypes := #[t, t] })
    (ht : P.underlying t = some (.slice e)) (hok : okElem P e = true) (hx : cX x = some x') (hy : cX y = some y')
    (h : step1 E (.cx d e x' y') st = some st') (Q : Exit → Act → World → Prop) : o.wp P a w (SimE P n w0 LX df S0 st') Q := by
  obtain ⟨ct, h1, h2, rfl⟩ := stepK_A h
  simp only [PO.args, List.map_cons, List.map_nil] at h2
  obtain ⟨inf, zv, q1, q2, q3, q4, q5, q6, q7⟩ := okElem_spec hok
  unfold cxV at h2
  split at h2
  · rename_i tg e' hc
    split at h2
    · rename_i hcond
      obtain ⟨htg, rfl⟩ := hcond
      split at h2
      · rename_i z es hel
        split at h2
        · rename_i hbig
          obtain rfl := Option.some.inj h2
          have hrx := hs.ev hx
          rw [hc] at hrx
          simp only [RepS, Rep1] at hrx
          have hnil : a.eval x = .slice none 0 0 ∨ ∃ ad, a.eval x = .slice (some ad) 0 0 := by
            generalize a.eval x = u at hrx
            cases hrx with
            | nilsl => exact .inl rfl
            | emp _ k =>
              rcases k _ rfl with ⟨_, h7, _⟩ | ⟨_, _, h7⟩ | ⟨h7, _⟩
              · cases h7
              · subst h7; exact .inr ⟨_, rfl⟩
              · rcases htg with h8 | h8
                · exact absurd h8 h7.1
                · exact absurd h8 h7.2
            | sl _ k1 k2 k3 k4 k5 k =>
              rcases k _ rfl with ⟨_, h7, _⟩ | ⟨_, _, h7⟩ | ⟨h7, _⟩
              · cases h7
              · subst h7; exact .inr ⟨_, rfl⟩
              · rcases htg with h8 | h8
                · exact absurd h8 h7.1
                · exact absurd h8 h7.2
          rcases elemsOf_rep hel (hs.ev hy) with ⟨h0, _⟩ | ⟨b, k, cap2, cs2, ey, hcs2, hwes2, hmem2⟩
          · cases h0
          · generalize hes : z :: es = es2 at *
            have hpos : 0 < es2.length := by rw [← hes]; simp
            have hl2 := lens_uniform hcs2 hwes2
            rw [q6] at hl2
            have hnews := mem_cells hmem2
            have hmax : es2.length ≤ maxLen := by unfold big at hbig; unfold maxLen; omega
            have hbytes : es2.length * inf.bytes ≤ 140737488355328 := by
              have : es2.length * inf.bytes ≤ 68719476736 * 2048 := Nat.mul_le_mul hbig q5
              omega
            have hrun : (Builtin.append_ #[t, t] o.type #[a.eval x, a.eval y]).run P w = .ok (.slice (some ⟨w.heap.size, 0, none⟩) es2.length (grownCap w es2.length 0 e')) (w.drew.alloc (.cells (cs2.toArray ++ Builtin.zeroCells zv.cells (grownCap w es2.length 0 e' - es2.length)) e')) := by
              rw [ey]
              rcases hnil with e1 | ⟨ad, e1⟩
              · rw [e1]
                exact run_append_nil (P := P) w t o.type e' inf zv ht q1 q2 ⟨b, k, none⟩ es2.length cap2 cs2 hl2 hnews hpos (by unfold maxLen at hmax; omega) (by omega)
              · rw [e1]
                have := run_append_grow (P := P) w t o.type e' inf zv ht q1 q2 ad 0 0 [] (by simp) (fun j v hv => by simp at hv) ⟨b, k, none⟩ es2.length cap2 cs2 hl2 hnews (by omega) (by unfold maxLen at hmax; omega)
                  (growslice_fits (by omega) (by simpa using hbytes))
                simpa using this
            have hop : (execOp a.eval o).run P w = .ok (.value (.slice (some ⟨w.heap.size, 0, none⟩) es2.length (grownCap w es2.length 0 e'))) (w.drew.alloc (.cells (cs2.toArray ++ Builtin.zeroCells zv.cells (grownCap w es2.length 0 e' - es2.length)) e')) := by
              simp [execOp, ho, resolve, invoke, builtin, hrun]
            refine wp_value hop ?_
            rw [hdst]
            have g0 : Sim P n w0 LX df S0 S bm ow st a w.drew := hs.world rfl rfl rfl rfl
            have g1 := g0.alloc (.cells (cs2.toArray ++ Builtin.zeroCells zv.cells (grownCap w es2.length 0 e' - es2.length)) e')
            have hle : Le S S noOw ow w (w.drew.alloc (.cells (cs2.toArray ++ Builtin.zeroCells zv.cells (grownCap w es2.length 0 e' - es2.length)) e')) :=
              ⟨fun _ _ h => h, (Le.alloc (ow := ow) (w := w.drew) hs.slt _).cell, fun _ _ _ _ h => by cases h⟩
            have hrow : RepC P S (w.drew.alloc (.cells (cs2.toArray ++ Builtin.zeroCells zv.cells (grownCap w es2.length 0 e' - es2.length)) e')) ow (.agg (rowT + e') es2) cs2 :=
              .row _ (RepCs.mono hcs2 hle) hwes2 hmax
            have hh : (w.drew.alloc (.cells (cs2.toArray ++ Builtin.zeroCells zv.cells (grownCap w es2.length 0 e' - es2.length)) e')).heap[w.heap.size]? = some (.cells (cs2.toArray ++ Builtin.zeroCells zv.cells (grownCap w es2.length 0 e' - es2.length)) e' (0, 0)) := heap_alloc_new w.drew _
            have hbox : BoxAt P S (w.drew.alloc (.cells (cs2.toArray ++ Builtin.zeroCells zv.cells (grownCap w es2.length 0 e' - es2.length)) e')) ow w.heap.size (.agg (rowT + e') es2) :=
              ⟨_, e', cs2, (Builtin.zeroCells zv.cells (grownCap w es2.length 0 e' - es2.length)).toList, hh, by simp, hrow⟩
            have g2 := g1.addBox hd h1 hs.below.size hs.fresh hbox
            refine ⟨_, _, _, g2.put hd ?_⟩
            rw [show refTo d (.agg (rowT + e') es2) = .it d from if_pos (Nat.le_add_right _ _)]
            refine ⟨w.heap.size, _, by simp [upd], by simp [upd], .inr ⟨e', es2, grownCap w es2.length 0 e', rfl, grownCap_ge w es2.length 0 e', grownCap_le_maxLen w es2.length 0 e' hmax, rfl⟩⟩
        · cases h2
      · cases h2
    · cases h2
  · cases h2

end
end Go.Nu
/-
  NU, text 15: slice literals; structs built.
-/
namespace Go.Nu
open Go Go.RowKit

section
variable {P : Program} {n : Nat} {w0 w w' : World} {LX : Nat → Prop} {df : Df} {S0 S S' : Nat → Nat → Prop} {bm : Bm} {ow ow' : Ow} {st st' : St} {a : Act} {o : Oper} {E : Ext}

/-- Cells laid one by one into an array. -/
theorem foldl_splice (off : Nat) : ∀ (l : List Value) (k : Nat) (cells : Array Value), off + k + l.length ≤ cells.size →
    ((l.zipIdx k).foldl (fun cs (x : Value × Nat) => cs.setIfInBounds (off + x.2) x.1) cells).toList = cells.toList.take (off + k) ++ l ++ cells.toList.drop (off + k + l.length)
  | [], k, cells, _ => by simp
  | x :: l, k, cells, h => by
    simp only [List.length_cons] at h
    rw [List.zipIdx_cons, List.foldl_cons, foldl_splice off l (k + 1) _ (by simp; omega)]
    simp only [Array.toList_setIfInBounds, List.length_cons]
    have hlt : off + k < cells.toList.length := by rw [Array.length_toList]; omega
    rw [List.drop_set, if_pos (by omega), ← Nat.add_assoc, List.take_set]
    have h1 : (cells.toList.take (off + k + 1)).set (off + k) x = cells.toList.take (off + k) ++ [x] := by
      rw [List.take_succ_eq_append_getElem hlt, List.set_append_right _ _ (by simp; omega)]
      have : off + k - (cells.toList.take (off + k)).length = 0 := by simp; omega
      rw [this]
      rfl
    rw [h1]
    have h2 : off + k + (l.length + 1) = off + k + 1 + l.length := by omega
    rw [h2]
    simp

theorem fill_one {place : Nat → Option (Nat × Nat)} {cells : Array Value} {i off size : Nat} {v : Value} {rest : List (Nat × Value)} (hp : place i = some (off, size)) (hs : v.cells.size = size) (hf : off + size ≤ cells.size) :
    ∃ cells', Instr.fill place cells ((i, v) :: rest) = Instr.fill place cells' rest ∧ cells'.toList = cells.toList.take off ++ (v.cells.toList ++ cells.toList.drop (off + size)) := by
  refine ⟨(v.cells.zipIdx.foldl (fun cs (x : Value × Nat) => cs.setIfInBounds (off + x.2) x.1) cells), ?_, ?_⟩
  · rw [Instr.fill, hp]
    simp only [hs, ne_eq, not_true_eq_false, decide_false, Bool.false_or, decide_eq_true_eq]
    rw [if_neg (by omega)]
  · rw [← Array.foldl_toList, Array.toList_zipIdx]
    have := foldl_splice off v.cells.toList 0 cells (by rw [Array.length_toList]; omega)
    rw [this, Nat.add_zero, Array.length_toList, hs, List.append_assoc]

theorem fill_seq {size : Nat} : ∀ (vs : List Value) (j : Nat) (cells : Array Value), (∀ v ∈ vs, v.cells.size = size) → (j + vs.length) * size ≤ cells.size →
    ∃ cells', Instr.fill (fun i => some (i * size, size)) cells (vs.zipIdx j |>.map fun x => (x.2, x.1)) = some cells' ∧ cells'.toList = cells.toList.take (j * size) ++ ((vs.map fun v => v.cells.toList).flatten ++ cells.toList.drop ((j + vs.length) * size))
  | [], j, cells, _, _ => ⟨cells, rfl, by simp⟩
  | v :: vs, j, cells, hv, hl => by
    have e1 : (j + (v :: vs).length) * size = (j + 1 + vs.length) * size := by rw [List.length_cons]; congr 1; omega
    have e2 : (j + 1 + vs.length) * size = j * size + (size + vs.length * size) := by rw [Nat.add_mul, Nat.add_mul]; omega
    obtain ⟨c1, h1, h2⟩ := fill_one (place := fun i => some (i * size, size)) (i := j) (rest := (vs.zipIdx (j + 1)).map fun x => (x.2, x.1)) (cells := cells) rfl (hv v (by simp)) (by omega)
    have hsz : c1.size = cells.size := by
      have := congrArg List.length h2
      simp only [Array.length_toList, List.length_append, List.length_take, List.length_drop, hv v (by simp)] at this
      omega
    obtain ⟨c2, h3, h4⟩ := fill_seq vs (j + 1) c1 (fun x hx => hv x (by simp [hx])) (by omega)
    refine ⟨c2, by rw [List.zipIdx_cons, List.map_cons, h1, h3], ?_⟩
    have hvl : v.cells.toList.length = size := by rw [Array.length_toList]; exact hv v (by simp)
    have htk : (cells.toList.take (j * size)).length = j * size := by rw [List.length_take, Array.length_toList]; omega
    rw [h4, h2, List.map_cons, List.flatten_cons, e1]
    have t1 : (cells.toList.take (j * size) ++ (v.cells.toList ++ cells.toList.drop (j * size + size))).take ((j + 1) * size) = cells.toList.take (j * size) ++ v.cells.toList := by
      rw [Nat.add_mul, Nat.one_mul, ← List.append_assoc, List.take_left' (by rw [List.length_append, htk, hvl])]
    have t2 : (cells.toList.take (j * size) ++ (v.cells.toList ++ cells.toList.drop (j * size + size))).drop ((j + 1 + vs.length) * size) = cells.toList.drop ((j + 1 + vs.length) * size) := by
      rw [e2, ← List.append_assoc, ← Nat.add_assoc, ← List.drop_drop, List.drop_left' (by rw [List.length_append, htk, hvl]), List.drop_drop]
    rw [t1, t2]
    simp

theorem partsOf_eq : ∀ {l : List (Nat × Operand)} {j : Nat} {os : List Operand}, partsOf j l = some os → l = (os.zipIdx j).map fun x => (x.2, x.1)
  | [], j, os, h => by simp [partsOf] at h; subst h; rfl
  | (i, x) :: r, j, os, h => by
    simp only [partsOf] at h
    split at h
    · rename_i hi
      split at h
      · rename_i xs hx
        cases h
        rw [partsOf_eq hx, List.zipIdx_cons, List.map_cons, hi]
      · cases h
    · cases h

theorem cXs_ev (hs : Sim P n w0 LX df S0 S bm ow st a w) : ∀ {os : List Operand} {xs : List X}, cXs os = some xs → All2 (RepS P S w ow bm st.bx) (xs.map (X.ev st)) (os.map a.eval)
  | [], xs, h => by simp [cXs] at h; subst h; trivial
  | o :: os, xs, h => by
    simp only [cXs] at h
    split at h
    · rename_i x ys h1 h2
      cases h
      exact ⟨hs.ev h1, cXs_ev hs h2⟩
    · cases h

theorem all_fits {t : TypeId} {tt : Option TypeId} (hT : cT P t = some tt) {bx : Nat → Option V} : ∀ {vs : List V} {cs : List Value}, All2 (RepS P S w ow bm bx) vs cs → vs.all (fun x => fitsT tt x && x.mem) = true →
    RepCs P S w noOw (V.untags vs) ((cs.map fun c => c.cells.toList).flatten) ∧ (∀ c ∈ cs, c.cells.size = P.cellsOf t) ∧ ∀ x ∈ V.untags vs, width P x = P.cellsOf t
  | [], [], _, _ => ⟨.nil _, (fun _ h => by cases h), (fun _ h => by cases h)⟩
  | v :: vs, c :: cs, h, hall => by
    simp only [List.all_cons, Bool.and_eq_true] at hall
    obtain ⟨⟨h1, h2⟩, h3⟩ := hall
    obtain ⟨r1, r2, r3⟩ := all_fits hT h.2 h3
    have hr := (h.1.one h2).cells
    have hw := fits_width hT h1
    refine ⟨?_, ?_, ?_⟩
    · simpa [V.untags] using RepCs.cons _ hr.untag r1
    · intro c' hc'
      rcases List.mem_cons.1 hc' with rfl | hc'
      · rw [← hw, ← hr.len, Array.length_toList]
      · exact r2 c' hc'
    · intro x hx
      simp only [V.untags, List.mem_cons] at hx
      rcases hx with rfl | hx
      · rw [untag_width, hw]
      · exact r3 x hx
  | [], _ :: _, h, _ => h.elim
  | _ :: _, [], h, _ => h.elim

theorem untags_length : ∀ vs : List V, (V.untags vs).length = vs.length
  | [] => rfl
  | v :: vs => by simp [V.untags, untags_length vs]

theorem all2_length {α β : Type} {R : α → β → Prop} : ∀ {as : List α} {bs : List β}, All2 R as bs → as.length = bs.length
  | [], [], _ => rfl
  | _ :: _, _ :: _, h => by simp [all2_length h.2]
  | [], _ :: _, h => h.elim
  | _ :: _, [], h => h.elim

theorem run_buildSlice {t e : TypeId} {m : Nat} {pl : Array (Nat × Value)} {inf : TypeInfo} {zv : Value} (ht : P.underlying t = some (.slice e)) (q1 : P.info? e = some inf) (q2 : inf.zero = some zv) 
    (hbytes : m * inf.size ≤ 16777216) : ∃ z0 : Array Value, z0.size = m * inf.size ∧ ∀ c', Instr.fill (fun i => some (i * inf.size, inf.size)) z0 pl.toList = some c' →
      (Instr.buildSlice t m pl).run P w = .ok (.slice (some ⟨w.heap.size, 0, none⟩) m m) (w.alloc (.cells c' e)) := by
  have hb2 : ¬ (m * inf.size > 2 ^ 24) := by omega
  by_cases h0 : m * inf.size = 0
  · refine ⟨(Array.range (m * inf.size)).map ((#[] : Array Value)[· % (#[] : Array Value).size]!), by simp, fun c' hc' => ?_⟩
    simp only [Instr.buildSlice, Sem.run_bind, run_underlying ht, Result.andThen_ok, sizeOf, typeInfo, run_program, q1, Sem.run_pure]
    rw [if_neg hb2, if_pos h0]
    simp only [Sem.run_bind, Sem.run_pure, Result.andThen_ok]
    rw [hc']
    rfl
  · refine ⟨(Array.range (m * inf.size)).map (zv.cells[· % zv.cells.size]!), by simp, fun c' hc' => ?_⟩
    simp only [Instr.buildSlice, Sem.run_bind, run_underlying ht, Result.andThen_ok, sizeOf, typeInfo, run_program, q1, Sem.run_pure]
    rw [if_neg hb2, if_neg h0]
    simp only [Sem.run_bind, Sem.run_pure, Result.andThen_ok, zeroValue, typeInfo, run_program, q1, q2]
    rw [hc']
    rfl

/-- An empty slice without room. -/
theorem good_zs {t e : TypeId} {d : Nat} (hs : Sim P n w0 LX df S0 S bm ow st a w) (hd : OkD df n d) (hdst : o.dst = some d) {ps : Array (Nat × Operand)}
    (ho : o.op = .buildSlice t 0 ps) (ht : P.underlying t = some (.slice e)) (hps : ps.size = 0) (hok : okElem P e = true)
    (h : step1 E (.zs d e) st = some st') (Q : Exit → Act → World → Prop) : o.wp P a w (SimE P n w0 LX df S0 st') Q := by
  obtain ⟨v, hv, rfl⟩ := stepK_P h
  simp only [PO.args, List.map_nil, Option.some.injEq] at hv
  subst hv
  obtain ⟨inf, zv, q1, q2, q3, q4, q5, q6, q7⟩ := okElem_spec hok
  obtain rfl : ps = #[] := Array.eq_empty_of_size_eq_zero hps
  obtain ⟨z0, g1, g2⟩ := run_buildSlice (P := P) (w := w) (m := 0) (pl := #[]) ht q1 q2 (by simp)
  have hr := g2 z0 rfl
  refine wp_value (c := .slice (some ⟨w.heap.size, 0, none⟩) 0 0) (w' := w.alloc (.cells z0 e)) ?_ ?_
  · simp only [execOp, ho, Sem.run_bind]
    have : (#[] : Array (Nat × Operand)).map (fun (x : Nat × Operand) => (x.1, a.eval x.2)) = #[] := by simp
    rw [this, hr]
    rfl
  · rw [hdst]
    exact ⟨_, _, _, (hs.alloc (.cells z0 e)).put hd (Rep1.toS (Rep1.of rfl (.emp _ (TagOk.zer_ _ _))))⟩

theorem good_bs {t e : TypeId} {m : Nat} {ps : Array (Nat × Operand)} {os : List Operand} {tt : Option TypeId} {xs : List X} {d : Nat} (hs : Sim P n w0 LX df S0 S bm ow st a w) (hd : OkD df n d) (hdst : o.dst = some d)
    (ho : o.op = .buildSlice t m ps) (ht : P.underlying t = some (.slice e)) (hps : seqParts m ps = some os) (hT : cT P e = some tt) (hxs : cXs os = some xs) (hok : okElem P e = true) (hm : m ≤ 4096)
    (h : step1 E (.bs d e tt xs) st = some st') (Q : Exit → Act → World → Prop) : o.wp P a w (SimE P n w0 LX df S0 st') Q := by
  obtain ⟨e', es, h1, h2, rfl⟩ := stepK_N h
  replace h2 : (if (xs.map (X.ev st)).all (fun x => fitsT tt x && x.mem) then some (e, V.untags (xs.map (X.ev st))) else none) = some (e', es) := h2
  by_cases hall : (List.map (X.ev st) xs).all (fun x => fitsT tt x && x.mem) = true
  · rw [if_pos hall] at h2
    simp only [Option.some.injEq, Prod.mk.injEq] at h2
    obtain ⟨rfl, rfl⟩ := h2
    obtain ⟨inf, zv, q1, q2, q3, q4, q5, q6, q7⟩ := okElem_spec hok
    have hev := cXs_ev hs hxs
    obtain ⟨r1, r2, r3⟩ := all_fits hT hev hall
    unfold seqParts at hps
    split at hps
    · rename_i hsz
      have hpl := partsOf_eq hps
      have hosl : os.length = m := by
        have := congrArg List.length hpl
        simp only [Array.length_toList, List.length_map, List.length_zipIdx] at this
        omega
      have hml : (V.untags (xs.map (X.ev st))).length = m := by
        rw [untags_length, all2_length hev, List.length_map, hosl]
      have hpv : (ps.map fun (x : Nat × Operand) => (x.1, a.eval x.2)).toList = ((os.map a.eval).zipIdx 0).map fun x => (x.2, x.1) := by
        rw [Array.toList_map, hpl, List.map_map, List.zipIdx_map, List.map_map]
        rfl
      have hbytes : m * inf.size ≤ 16777216 := Nat.le_trans (Nat.mul_le_mul hm q7) (by omega)
      have hpos : m * inf.size = 0 ↔ m = 0 := by
        constructor
        · intro h0
          rcases Nat.mul_eq_zero.1 h0 with h0 | h0
          · exact h0
          · omega
        · rintro rfl; simp
      have key : ∀ (z0 : Array Value), z0.size = m * inf.size → ∃ cells', Instr.fill (fun i => some (i * inf.size, inf.size)) z0 (ps.map fun (x : Nat × Operand) => (x.1, a.eval x.2)).toList = some cells' ∧ cells'.toList = (((os.map a.eval).map fun c => c.cells.toList).flatten) := by
        intro z0 hz0
        obtain ⟨c', f1, f2⟩ := fill_seq (size := inf.size) (os.map a.eval) 0 z0 (fun v hv => by rw [r2 v hv, q6]) (by simp [hosl, hz0])
        refine ⟨c', by rw [hpv, f1], ?_⟩
        rw [f2]
        simp [hosl, hz0]
      have hrun : ∃ z0 : Array Value, z0.size = m * inf.size ∧ ∀ c', Instr.fill (fun i => some (i * inf.size, inf.size)) z0 (ps.map fun (x : Nat × Operand) => (x.1, a.eval x.2)).toList = some c' →
          (execOp a.eval o).run P w = .ok (.value (.slice (some ⟨w.heap.size, 0, none⟩) m m)) (w.alloc (.cells c' e)) := by
        obtain ⟨z0, g1, g2⟩ := run_buildSlice (w := w) (m := m) (pl := ps.map fun (x : Nat × Operand) => (x.1, a.eval x.2)) ht q1 q2 hbytes
        refine ⟨z0, g1, fun c' hc' => ?_⟩
        have := g2 c' hc'
        simp only [execOp, ho, Sem.run_bind]
        rw [this]
        rfl
      obtain ⟨z0, hz0, hrun⟩ := hrun
      obtain ⟨c', f1, f2⟩ := key z0 hz0
      refine wp_value (hrun c' f1) ?_
      rw [hdst]
      have := hs.newRow (d := d) hd (e := e) (es := V.untags (xs.map (X.ev st))) (rest := []) (c := m) h1 r1 r3
        (by rw [List.append_nil, lens_uniform r1 r3, hml]) (by omega) (by unfold maxLen; omega)
      rw [hml] at this
      have ec : (.cells c' e : Obj) = .cells (((os.map a.eval).map fun (c : Value) => c.cells.toList).flatten ++ []).toArray e := by
        rw [List.append_nil, ← f2]
      rw [ec]
      rw [hml]
      exact this
    · cases hps
  · rw [if_neg hall] at h2
    cases h2

end
end Go.Nu
/-
  NU, text 16: structs built.
-/
namespace Go.Nu
open Go Go.RowKit

section
variable {P : Program} {n : Nat} {w0 w w' : World} {LX : Nat → Prop} {df : Df} {S0 S S' : Nat → Nat → Prop} {bm : Bm} {ow ow' : Ow} {st st' : St} {a : Act} {o : Oper} {E : Ext}

theorem places_eq : ∀ (l : List Field), (∀ f ∈ l, (P.info? f.type).isSome = true) → l.mapM (fun f => (P.info? f.type).map fun i => (f.offset, i.size)) = some (l.map fun f => (f.offset, P.cellsOf f.type))
  | [], _ => rfl
  | f :: l, h => by
    obtain ⟨i, hi⟩ := Option.isSome_iff_exists.1 (h f (by simp))
    simp [List.mapM_cons, hi, places_eq l (fun g hg => h g (by simp [hg])), Program.cellsOf]

theorem fill_struct {place : Nat → Option (Nat × Nat)} {szs : List Nat} (hpl : ∀ i, i < szs.length → place i = some ((szs.take i).sum, szs.getD i 0)) :
    ∀ {is : List Nat} {xs fs fs' : List V} {cs : List Value} {cells : Array Value}, setL fs is xs = some fs' → fs.map (width P) = szs → RepCs P S w ow fs cells.toList →
      All2 (RepS P S w ow bm st.bx) xs cs → ∃ cells', Instr.fill place cells (is.zip cs) = some cells' ∧ RepCs P S w ow fs' cells'.toList ∧ fs'.map (width P) = szs
  | [], [], fs, fs', [], cells, h, hw, hr, _ => by
    simp only [setL, Option.some.injEq] at h
    subst h
    exact ⟨cells, rfl, hr, hw⟩
  | i :: is, x :: xs, fs, fs', c :: cs, cells, h, hw, hr, hx => by
    simp only [setL] at h
    split at h
    · rename_i f hf
      by_cases hh : (f.alike x && x.mem) = true
      · rw [if_pos hh] at h
        simp only [Bool.and_eq_true] at hh
        have hxr := (hx.1.one hh.2).cells
        obtain ⟨pre, c0, post, e1, e2, e3, e4⟩ := RepCs.set (y := x) hr hf hxr
        have hi : i < fs.length := (List.getElem?_eq_some_iff.1 hf).1
        have hwi : width P f = width P x := alike_width hh.1
        have hsz : c.cells.size = szs.getD i 0 := by
          rw [← Array.length_toList, hxr.len, ← hwi, ← hw, List.getD_eq_getElem?_getD, List.getElem?_map, hf]
          rfl
        have hoff : pre.length = (szs.take i).sum := by rw [e2, ← hw, List.map_take]
        have hc0 : c0.length = c.cells.size := by rw [e3.len, hwi, ← hxr.len, Array.length_toList]
        have hcl : cells.size = pre.length + (c0.length + post.length) := by rw [← Array.length_toList, e1]; simp
        obtain ⟨c1, f1, f2⟩ := fill_one (rest := is.zip cs) (cells := cells) (hpl i (by rw [← hw]; simpa using hi)) hsz (by rw [← hoff, ← hsz, hcl, hc0]; omega)
        have hc1 : c1.toList = pre ++ (c.cells.toList ++ post) := by
          rw [f2, e1, ← hoff, List.take_left, ← hsz, ← hc0, ← List.drop_drop, List.drop_left, List.drop_left]
        rw [← hc1] at e4
        have hw2 : (fs.set i x).map (width P) = szs := by rw [← hw, alikes_map (P := P) (alikes_set hf hh.1)]
        obtain ⟨c2, g1, g2, g3⟩ := fill_struct hpl h hw2 e4 hx.2
        exact ⟨c2, by rw [List.zip_cons_cons, f1, g1], g2, g3⟩
      · rw [if_neg hh] at h
        cases h
    · cases h
  | [], _ :: _, _, _, _, _, h, _, _, _ => by simp [setL] at h
  | _ :: _, [], _, _, _, _, h, _, _, _ => by simp [setL] at h
  | _, [], _, _, _ :: _, _, _, _, _, hx => hx.elim
  | _, _ :: _, _, _, [], _, _, _, _, hx => hx.elim

theorem good_bd {nz : List TypeId} {t : TypeId} {ps : Array (Nat × Operand)} {fs0 : Array Field} {z : List V} {xs : List X} {d : Nat} (hs : Sim P n w0 LX df S0 S bm ow st a w) (hd : OkD df n d) (hdst : o.dst = some d)
    (ho : o.op = .build t ps) (ht : P.underlying t = some (.struct fs0)) (hz : zeroN P nz t = some (.agg t z)) (hxs : cXs (ps.toList.map (·.2)) = some xs) (hall : (List.range fs0.size).all (fieldOk P t) = true)
    (h10 : ¬ rowT ≤ t) (h : step1 E (.bd d t z (ps.toList.map (·.1)) xs) st = some st') (Q : Exit → Act → World → Prop) : o.wp P a w (SimE P n w0 LX df S0 st') Q := by
  obtain ⟨v, hv, rfl⟩ := stepK_P h
  replace hv : (match setL z (ps.toList.map (·.1)) (xs.map (X.ev st)) with | some fs => some (V.agg t fs) | none => none) = some v := hv
  split at hv
  · rename_i fs hfs
    obtain rfl := Option.some.inj hv
    have hev := cXs_ev hs hxs
    obtain ⟨zv, inf, q1, q2, q3, _⟩ := zeroN_rep (S := S) (w := w) hz
    have hfo : ∀ i, i < fs0.size → fieldOk P t i = true := fun i hi => (List.all_eq_true.1 hall) i (List.mem_range.2 hi)
    cases q3 with
    | row _ _ _ _ => exact absurd (Nat.le_add_right _ _) h10
    | agg _ k1 k2 k3 k4 =>
      have hszs : sizes P t = some (fs0.toList.map fun f => P.cellsOf f.type) := by simp [sizes, ht]
      have hwz : z.map (width P) = fs0.toList.map fun f => P.cellsOf f.type := (Option.some.inj (hszs.symm.trans k1)).symm
      have hinfo : ∀ f ∈ fs0.toList, (P.info? f.type).isSome = true := by
        intro f hf
        obtain ⟨i, hi, rfl⟩ := List.getElem_of_mem hf
        have hi' : i < fs0.size := by simpa using hi
        obtain ⟨fs1, szs, fd, inf1, g1, g2, g3, g4, g5, _⟩ := fieldOk_spec (hfo i hi')
        rw [ht] at g1
        cases g1
        have : fd = fs0[i] := by simpa [hi'] using g3.symm
        subst this
        simp [g5]
      have hplace : ∀ i, i < (fs0.toList.map fun f => P.cellsOf f.type).length → (fs0.toList.map fun f => (f.offset, P.cellsOf f.type)).toArray[i]? = some (((fs0.toList.map fun f => P.cellsOf f.type).take i).sum, (fs0.toList.map fun f => P.cellsOf f.type).getD i 0) := by
        intro i hi
        have hi' : i < fs0.size := by simpa using hi
        obtain ⟨fs1, szs, fd, inf1, g1, g2, g3, g4, g5, g6, g7, g8, g9, _⟩ := fieldOk_spec (hfo i hi')
        rw [ht] at g1
        cases g1
        obtain rfl : szs = _ := Option.some.inj (g2.symm.trans hszs)
        have hfd : fd = fs0[i] := by simpa [hi'] using g3.symm
        subst hfd
        rw [List.getElem?_toArray, List.getElem?_map, Array.getElem?_toList, g3]
        simp only [Option.map_some, Option.some.injEq, Prod.mk.injEq]
        exact ⟨g4, by rw [List.getD_eq_getElem?_getD, g9]; rfl⟩
      obtain ⟨cells', f1, f2, f3⟩ := fill_struct (w := w) (ow := ow) hplace hfs hwz (RepCs.mono k3 ⟨fun _ _ h => h, fun _ _ _ => rfl, fun _ _ _ _ h => by cases h⟩) hev
      have hzip : (ps.toList.map (·.1)).zip ((ps.toList.map (·.2)).map a.eval) = (ps.map fun (x : Nat × Operand) => (x.1, a.eval x.2)).toList := by
        rw [Array.toList_map, List.map_map, List.zip_map']
        rfl
      rw [hzip] at f1
      have hb : P.built t (ps.map fun (x : Nat × Operand) => (x.1, a.eval x.2)).toList = some cells' := by
        unfold Program.built
        simp only [q1, ht, q2, places_eq fs0.toList hinfo]
        exact f1
      have hrun := run_build (P := P) w t _ cells' hb
      refine wp_value (c := .agg cells') (w' := w) (by simp only [execOp, ho, Sem.run_bind]; rw [hrun]; rfl) ?_
      rw [hdst]
      refine ⟨S, bm, ow, hs.put hd ?_⟩
      refine ⟨cells'.toList, by simp, .agg _ ?_ ?_ f2 k4⟩
      · rw [hszs, f3]
      · rw [f3, ← hwz, k2]
  · cases hv

end
end Go.Nu
/-
  NU, text 17: calls; one plain operation does what the model's operation does.
-/
namespace Go.Nu
open Go Go.RowKit

/-- A call of Go's function f at these plain arguments returns this plain value, in whatever world; what was there is as it was. -/
def SimCalls (P : Program) (G : World → Prop) (f : FuncId) (args : List V) (res : V) : Prop :=
  ∀ (w : World) (S : Nat → Nat → Prop) (cargs : List Value), G w → (∀ b o, S b o → b < w.heap.size) → All2 (Rep1 P S w noOw) args cargs →
    Calls P f cargs.toArray w fun e w' => ∃ c, e = .returned c ∧ Below w.heap.size w w' ∧ ∃ S' : Nat → Nat → Prop, (∀ b o, S' b o → b < w'.heap.size) ∧ (∀ b o, b < w.heap.size → (S' b o ↔ S b o)) ∧
      RepS P S' w' noOw (fun _ => none) (fun _ => none) res c

def callable (P : Program) (f : FuncId) : Bool :=
  match P.funcs[f]? with
  | some fn => !(fn.name == "runtime.NumGoroutine") && !fn.body.isNone
  | none => false

/-- What is known of a world (its tables), which no call changes. -/
def Keeps (G : World → Prop) : Prop := ∀ w w', G w → Below w.heap.size w w' → G w'

/-- .. and turns the variable that it has on loan. -/
def lbm (g : Nat) : Bm := fun d => if d = lentT then some g else none
def lbx (ct : V) : Nat → Option V := fun d => if d = lentT then some ct else none
def SimCallsL (P : Program) (G : World → Prop) (f : FuncId) (args : List V) (ct ct' res : V) : Prop :=
  ∀ (w : World) (S : Nat → Nat → Prop) (cargs : List Value) (g : Nat), (∀ w', BelowX (· = g) w w' → G w') → (∀ b o, S b o → b < w.heap.size) → BoxAt P S w noOw g ct → (∀ o, ¬ S g o) → All2 (RepS P S w noOw (lbm g) (lbx ct)) args cargs →
    Calls P f cargs.toArray w fun e w' => ∃ c, e = .returned c ∧ BelowX (· = g) w w' ∧ ∃ S' : Nat → Nat → Prop, (∀ b o, S' b o → b < w'.heap.size) ∧ (∀ b o, b < w.heap.size → (S' b o ↔ S b o)) ∧
      BoxAt P S' w' noOw g ct' ∧ (∀ o, ¬ S' g o) ∧ RepS P S' w' noOw (fun _ => none) (fun _ => none) res c

/-- What stands for a new variable. -/
def NewVal (g : Nat) (ct : V) (c : Value) : Prop := match ct with
  | .agg t es => if rowT ≤ t then ∃ cap, es.length ≤ cap ∧ cap ≤ maxLen ∧ c = .slice (some ⟨g, 0, none⟩) es.length cap else c = .pointer (some ⟨g, 0, none⟩)
  | _ => c = .pointer (some ⟨g, 0, none⟩)
/-- .. and returns a new variable. -/
def SimCallsN (P : Program) (G : World → Prop) (f : FuncId) (args : List V) (ct : V) : Prop :=
  ∀ (w : World) (S : Nat → Nat → Prop) (cargs : List Value), G w → (∀ b o, S b o → b < w.heap.size) → All2 (Rep1 P S w noOw) args cargs →
    Calls P f cargs.toArray w fun e w' => ∃ c g, e = .returned c ∧ NewVal g ct c ∧ Below w.heap.size w w' ∧ w.heap.size ≤ g ∧ ∃ S' : Nat → Nat → Prop, (∀ b o, S' b o → b < w'.heap.size) ∧ (∀ b o, b < w.heap.size → (S' b o ↔ S b o)) ∧
      BoxAt P S' w' noOw g ct ∧ ∀ o, ¬ S' g o

/-! ### builders -/
def byteCs (l : List UInt8) : List Value := l.map fun b => .int .u8 (b.toNat : Int)
/-- A slice's block. -/
def slB : Value → Option Nat
  | .slice (some a) _ _ => some a.block
  | _ => none
/-- A builder in block g that holds these bytes; sl: its slice. -/
structure BldW (P : Program) (T e : TypeId) (g : Nat) (sl : Value) (bs : List UInt8) (w : World) : Prop where
  cell : ∃ p, w.heap[g]? = some (.cells #[p, sl] T (0, 0)) ∧ (p = .pointer none ∨ p = .pointer (some ⟨g, 0, none⟩))
  row : (sl = .slice none 0 0 ∧ bs = []) ∨ ∃ h cap cur fz, sl = .slice (some ⟨h, 0, none⟩) bs.length cap ∧ h ≠ g ∧ w.heap[h]? = some (.cells cur e fz) ∧ fz.2 ≤ bs.length ∧ bs.length ≤ cap ∧ cap ≤ maxLen ∧ cur.size = cap ∧
    ∀ (j : Nat) (u : Value), (byteCs bs)[j]? = some u → cur[j]? = some u
/-- What a builder's method leaves: but for the builder's block and its bytes' (where it stays), all is as it was. -/
structure BldTo (P : Program) (T e : TypeId) (g : Nat) (sl sl' : Value) (bs bs' : List UInt8) (w w' : World) : Prop where
  os : w'.os = w.os
  tape : w'.tape = w.tape
  output : w'.output = w.output
  size : w.heap.size ≤ w'.heap.size
  block : ∀ k, k < w.heap.size → k ≠ g → ¬ (slB sl = some k ∧ slB sl' = some k) → w'.heap[k]? = w.heap[k]?
  own : slB sl' = slB sl ∨ ∀ k, slB sl' = some k → w.heap.size ≤ k
  same : bs' = bs → sl' = sl
  pre : ∃ s, bs' = bs ++ s
  bld : BldW P T e g sl' bs' w'
def SimCallsB (P : Program) (f : FuncId) (k : BK) (T e : TypeId) : Prop :=
  ∀ (w : World) (S : Nat → Nat → Prop) (g : Nat) (sl : Value) (bs bs' : List UInt8) (as : List V) (r : V) (cargs : List Value), P.cellsOf e = 1 → BldW P T e g sl bs w → bldR k bs as = some (bs', r) → All2 (Rep1 P S w noOw) as cargs →
    Calls P f (.pointer (some ⟨g, 0, none⟩) :: cargs).toArray w fun en w' => ∃ c sl', en = .returned c ∧ BldTo P T e g sl sl' bs bs' w w' ∧ ∀ S', RepS P S' w' noOw (fun _ => none) (fun _ => none) r c

/-- What is raised. -/
def panC (T : TypeId) : List PanicEntry := [{ v := .iface T (.agg #[]), recovered := false }]
/-- A call that panics, with an empty struct of type T; what was there is as it was. -/
def SimCallsX (P : Program) (G : World → Prop) (f : FuncId) (args : List V) (T : TypeId) : Prop :=
  ∀ (w : World) (S : Nat → Nat → Prop) (cargs : List Value), G w → (∀ b o, S b o → b < w.heap.size) → All2 (Rep1 P S w noOw) args cargs →
    Calls P f cargs.toArray w fun e w' => e = .panicked (panC T) ∧ Below w.heap.size w w' ∧ ∃ S' : Nat → Nat → Prop, (∀ b o, S' b o → b < w'.heap.size) ∧ ∀ b o, b < w.heap.size → (S' b o ↔ S b o)

structure ExtGood (P : Program) (G : World → Prop) (E : Ext) : Prop where
  p : ∀ f args res, E.p f args = some res → callable P f = true ∧ SimCalls P G f args res
  l : ∀ f args ct ct' res, E.l f args ct = some (ct', res) → callable P f = true ∧ SimCallsL P G f args ct ct' res
  n : ∀ f args ct, E.n f args = some ct → callable P f = true ∧ SimCallsN P G f args ct
  b : ∀ f T e k, E.b f = some (T, e) → bkOf P f = some k → callable P f = true ∧ SimCallsB P f k T e
  x : ∀ f args T, E.x f args = some T → callable P f = true ∧ SimCallsX P G f args T

def ExtOk (P : Program) (w0 : World) (LX : Nat → Prop) (E : Ext) : Prop := ∃ G, (∀ w, BelowX LX w0 w → G w) ∧ ExtGood P G E

section
variable {P : Program} {n : Nat} {w0 w w' : World} {LX : Nat → Prop} {df : Df} {S0 S S' : Nat → Nat → Prop} {bm : Bm} {ow ow' : Ow} {st st' : St} {a : Act} {o : Oper} {E : Ext}

theorem run_callFunc {f : FuncId} {args : Array Value} (h : callable P f = true) : (callFunc f args).run P w = .ok (.enter f args) w := by
  unfold callable at h
  split at h
  · rename_i fn hf
    simp only [Bool.and_eq_true, Bool.not_eq_true'] at h
    unfold callFunc
    simp only [Sem.run_bind, run_program, Result.andThen_ok, hf, h.1, h.2, Bool.false_eq_true, if_false]
    rfl
  · cases h

theorem Sim.called (h : Sim P n w0 LX df S0 S bm ow st a w) (hb : Below w.heap.size w w') (hS1 : ∀ b o, S' b o → b < w'.heap.size) (hS2 : ∀ b o, b < w.heap.size → (S' b o ↔ S b o)) : Sim P n w0 LX df S0 S' bm ow st a w' := by
  have hle : Le S S' ow ow w w' := ⟨fun b o hS => (hS2 b o (h.slt b o hS)).2 hS, fun b o hS => hb.cell (p := ⟨b, o, none⟩) (h.slt b o hS), (Le.refl S ow w).oW⟩
  refine { h with below := h.below.then hb, slt := hS1, sold := fun b o hlt => ?_, slot := fun i => (h.slot i).mono hle, box := fun d v hv => ?_, row := fun d e k hd => ?_ }
  · exact (hS2 b o (Nat.lt_of_lt_of_le hlt h.below.size)).trans (h.sold b o hlt)
  · obtain ⟨g, h1, h2, h3, h4⟩ := h.box d v hv
    exact ⟨g, h1, h2, h3.mono hle (hb.block g h3.lt), fun o hS => h4 o ((hS2 g o h3.lt).1 hS)⟩
  · obtain ⟨x, c, h1, h2⟩ := h.row d e k hd
    refine ⟨x, c, h1, ?_⟩
    unfold RowAt at h2 ⊢
    cases x with
    | none => exact h2
    | some ad =>
      obtain ⟨g, cur, q0, q1, q2, q3, q4, q5, q6⟩ := h2
      have hlt := q2.lt
      exact ⟨g, cur, q0, q1, q2.of_eq (hb.block g hlt), q3, q4, q5, fun o => (hS2 g o hlt).trans (q6 o)⟩

theorem RepS.bare {v : V} {c : Value} {bx : Nat → Option V} (h : RepS P S w noOw (fun _ => none) (fun _ => none) v c) : RepS P S w ow bm bx v c := by
  cases v <;> simp only [RepS] at h ⊢ <;> first
    | exact h
    | exact h.any
    | (obtain ⟨cs, h1, h2⟩ := h; exact ⟨cs, h1, h2.imp fun _ _ h => h.any⟩)
    | (obtain ⟨g, ct, off, h1, _⟩ := h; cases h1)

theorem args_rep {bx : Nat → Option V} : ∀ {vs : List V} {cs : List Value}, All2 (RepS P S w ow bm bx) vs cs → vs.all V.mem = true → All2 (Rep1 P S w noOw) (V.untags vs) cs
  | [], [], _, _ => trivial
  | v :: vs, c :: cs, h, hm => by
    simp only [List.all_cons, Bool.and_eq_true] at hm
    exact ⟨(h.1.one hm.1).untag, args_rep h.2 hm.2⟩
  | [], _ :: _, h, _ => h.elim
  | _ :: _, [], h, _ => h.elim

theorem caps_rep : ∀ {vs : List V} {cs : List Value}, RepCs P S w noOw vs cs → (∀ x ∈ vs, x.isAgg = false) → All2 (Rep1 P S w noOw) vs cs
  | [], _, .nil _, _ => trivial
  | v :: vs, _, .cons _ h1 h2, hm => by
    obtain ⟨x, rfl, hx⟩ := h1.toRep1 (hm v (by simp))
    exact ⟨hx, caps_rep h2 (fun y hy => hm y (by simp [hy]))⟩

theorem all2_append {α β : Type} {R : α → β → Prop} : ∀ {as as' : List α} {bs bs' : List β}, All2 R as bs → All2 R as' bs' → All2 R (as ++ as') (bs ++ bs')
  | [], _, [], _, _, h => h
  | _ :: _, _, _ :: _, _, h1, h2 => ⟨h1.1, all2_append h1.2 h2⟩
  | [], _, _ :: _, _, h, _ => h.elim
  | _ :: _, _, [], _, h, _ => h.elim

theorem wp_call {f : FuncId} {args : List V} {cargs : Array Value} {res : V} (hs : Sim P n w0 LX df S0 S bm ow st a w) (hd : ∀ k, o.dst = some k → OkD df n k) (hrun : (execOp a.eval o).run P w = .ok (.enter f cargs) w)
    {G : World → Prop} (hG : G w) (hc : SimCalls P G f args res) (ha : All2 (Rep1 P S w noOw) args cargs.toList) (Q : Exit → Act → World → Prop) : o.wp P a w (SimE P n w0 LX df S0 (st.putO o.dst res)) Q := by
  unfold Oper.wp
  rw [hrun]
  have h1 := hc w S cargs.toList hG hs.slt ha
  rw [Array.toArray_toList] at h1
  refine Calls.mono h1 ?_
  rintro e w' ⟨c, rfl, hb, S', q1, q2, q3⟩
  exact ⟨S', bm, ow, (hs.called hb q1 q2).putO hd q3.bare⟩

theorem good_ca {f : FuncId} {args : Array Operand} {ts : Array TypeId} {xs : List X} (hE : ExtOk P w0 LX E) (hs : Sim P n w0 LX df S0 S bm ow st a w) (hd : ∀ k, o.dst = some k → OkD df n k) (ho : o.op = .call { callee := .value (.func f), args := args, argTypes := ts })
    (hxs : cXs args.toList = some xs) (h : step1 E (.ca o.dst f xs) st = some st') (Q : Exit → Act → World → Prop) : o.wp P a w (SimE P n w0 LX df S0 st') Q := by
  obtain ⟨v, hv, rfl⟩ := stepK_P h
  replace hv : (if (xs.map (X.ev st)).all V.mem then E.p f (V.untags (xs.map (X.ev st))) else none) = some v := hv
  by_cases hm : (xs.map (X.ev st)).all V.mem = true
  · rw [if_pos hm] at hv
    obtain ⟨G, hk, hE⟩ := hE
    obtain ⟨h1, h2⟩ := hE.p _ _ _ hv
    have hev := cXs_ev hs hxs
    refine wp_call (cargs := args.map a.eval) hs hd ?_ (hk _ hs.below) h2 (by rw [Array.toList_map]; exact args_rep hev hm) Q
    simp [execOp, ho, resolve, Act.eval, Deferred.ofValue, invoke, run_callFunc h1]
  · rw [if_neg hm] at hv
    cases hv

theorem BoxAt.untag {g : Nat} {v : V} (h : BoxAt P S w ow g v) (hm : v.mem = true) : BoxAt P S w noOw g v.untag := by
  have h1 : ∃ cur T cs rest, w.heap[g]? = some (.cells cur T (0, 0)) ∧ cur.toList = cs ++ rest ∧ RepC P S w ow v cs := by
    unfold BoxAt at h
    cases v <;> first
      | exact h
      | simp [V.mem] at hm
  obtain ⟨cur, T, cs, rest, e1, e2, e3⟩ := h1
  exact BoxAt.ofSlack (by rw [untag_mem]; exact hm) e1 e2 e3.untag
theorem BoxAt.any {g : Nat} {v : V} (h : BoxAt P S w noOw g v) : BoxAt P S w ow g v := by
  unfold BoxAt at h ⊢
  cases v <;> simp only [] at h ⊢ <;> first
    | exact h
    | (obtain ⟨cur, T, cs, rest, e1, e0, e2⟩ := h; exact ⟨cur, T, cs, rest, e1, e0, e2.any⟩)
    | (obtain ⟨p, sl, e1, e0, e2, e3⟩ := h; exact ⟨p, sl, e1, e0, e2.any, e3⟩)

theorem lendL_rep {bx : Nat → Option V} : ∀ {vs as : List V} {cs : List Value} {o : Option Nat}, lendL vs = some (o, as) → All2 (RepS P S w ow bm bx) vs cs →
    (∀ g ct, (∀ b, o = some b → bm b = some g ∧ bx b = some ct ∧ ct.mem = true) → All2 (RepS P S w noOw (lbm g) (lbx ct.untag)) as cs)
  | [], as, [], o, h, _ => by
    simp only [lendL, Option.some.injEq, Prod.mk.injEq] at h
    obtain ⟨rfl, rfl⟩ := h
    exact fun _ _ _ => trivial
  | v :: vs, as, c :: cs, o, h, hr => by
    simp only [lendL] at h
    split at h
    · rename_i o' ws h1
      have ih := lendL_rep h1 hr.2
      split at h
      · rename_i hm
        simp only [Option.some.injEq, Prod.mk.injEq] at h
        obtain ⟨rfl, rfl⟩ := h
        exact fun g ct hb => ⟨(hr.1.one hm).untag.toS, ih g ct hb⟩
      · split at h
        · split at h
          · rename_i b w' hl
            simp only [Option.some.injEq, Prod.mk.injEq] at h
            obtain ⟨rfl, rfl⟩ := h
            intro g ct hb
            obtain ⟨b1, b2, b3⟩ := hb b rfl
            refine ⟨?_, ih g ct fun b hb => by cases hb⟩
            have hr1 := hr.1
            unfold lendV at hl
            split at hl
            · simp only [Option.some.injEq, Prod.mk.injEq] at hl
              obtain ⟨rfl, rfl⟩ := hl
              obtain ⟨g', ct', off, r1, r2, r3, r4⟩ := hr1
              obtain rfl : g' = g := Option.some.inj (r1.symm.trans b1)
              have h0 : ∀ x : V, pathOff P x [] = some 0 := fun x => by cases x <;> rfl
              rw [h0] at r3
              cases r3
              exact ⟨g', ct.untag, 0, by simp [lbm], by simp [lbx], h0 _, r4⟩
            · simp only [Option.some.injEq, Prod.mk.injEq] at hl
              obtain ⟨rfl, rfl⟩ := hl
              obtain ⟨g', ct', r1, r2, r3⟩ := hr1
              obtain rfl : g' = g := Option.some.inj (r1.symm.trans b1)
              obtain rfl : ct' = ct := Option.some.inj (r2.symm.trans b2)
              refine ⟨g', ct'.untag, by simp [lbm], by simp [lbx], ?_⟩
              rcases r3 with ⟨s, pos, rfl, _⟩ | ⟨e, es, cap, rfl, q1, q2, q3⟩
              · simp [V.mem] at b3
              · exact .inr ⟨e, V.untags es, cap, rfl, by rw [untags_len]; exact q1, q2, by rw [untags_len]; exact q3⟩
            · cases hl
          · cases h
        · cases h
    · cases h
  | [], _, _ :: _, _, _, hr => hr.elim
  | _ :: _, _, [], _, _, hr => hr.elim

/-- A call that turned one box. -/
theorem Sim.calledX (h : Sim P n w0 LX df S0 S bm ow st a w) {b g : Nat} {ct ct' : V} (hb : bm b = some g) (hc : st.bx b = some ct) (hw : BelowX (· = g) w w') (hS1 : ∀ b o, S' b o → b < w'.heap.size) (hS2 : ∀ b o, b < w.heap.size → (S' b o ↔ S b o))
    (hnew : BoxAt P S' w' noOw g ct') (hng : ∀ o, ¬ S' g o) (hal : ct.alike ct' = true) (hm : ct.mem = true) : Sim P n w0 LX df S0 S' bm ow { st with bx := upd st.bx b (some ct') } a w' := by
  obtain ⟨v0, hv0, hge, hb0, hS⟩ := h.bLt hb
  have hcell : ∀ k o, S k o → w'.cell? ⟨k, o, none⟩ = w.cell? ⟨k, o, none⟩ := fun k o hs => World.cell?_of_block (hw.block k (h.slt k o hs) (fun e => hS o (e ▸ hs)))
  have hle : Le S S' ow ow w w' := ⟨fun b o hs => (hS2 b o (h.slt b o hs)).2 hs, hcell, (Le.refl S ow w).oW⟩
  refine { h with below := h.below.trans hw (fun i hi e => ?_), slt := hS1, sold := fun b o hlt => ?_, slot := fun i => ((h.slot i).mono hle).boxes (fun _ _ h => h) ?_, box := fun d' x hx => ?_, boxNone := fun d' hd' => ?_, row := fun d' e k hd' => ?_ }
  · rw [e] at hi ⊢; exact ownB_lt hge hi
  · exact (hS2 b o (Nat.lt_of_lt_of_le hlt h.below.size)).trans (h.sold b o hlt)
  · intro d' x hx
    show ∃ v'', upd st.bx b (some ct') d' = some v'' ∧ _
    unfold upd
    split
    · rename_i e
      subst e
      obtain rfl : x = ct := Option.some.inj (hx.symm.trans hc)
      exact ⟨ct', rfl, fun p off hp => alike_pathOff hal hp, fun s q e => by (subst e; simp [V.mem] at hm), fun t es e => by
        subst e
        cases ct' <;> simp [V.alike] at hal
        exact ⟨_, by rw [hal.1], (alikes_len hal.2).symm⟩⟩
    · exact ⟨x, hx, fun _ _ h => h, SameKind.refl x⟩
  · replace hx : upd st.bx b (some ct') d' = some x := hx
    unfold upd at hx
    split at hx
    · rename_i e
      subst e
      cases hx
      exact ⟨g, hb, hge, hnew.any, hng⟩
    · rename_i e
      obtain ⟨g', q1, q2, q3, q4⟩ := h.box d' x hx
      have hne : g' ≠ g := fun e2 => e (h.bInj _ _ _ q1 (e2 ▸ hb))
      exact ⟨g', q1, q2, q3.mono hle (hw.block g' q3.lt hne), fun o hs => q4 o ((hS2 g' o q3.lt).1 hs)⟩
  · replace hd' : upd st.bx b (some ct') d' = none := hd'
    unfold upd at hd'
    split at hd'
    · cases hd'
    · exact h.boxNone d' hd'
  · obtain ⟨x, c, q1, q2⟩ := h.row d' e k hd'
    refine ⟨x, c, q1, ?_⟩
    unfold RowAt at q2 ⊢
    cases x with
    | none => exact q2
    | some ad =>
      obtain ⟨g', cur, z0, z1, z2, z3, z4, z5, z6⟩ := q2
      have hne := h.brDis _ _ _ _ _ _ hb q1
      rw [z0] at hne
      have hlt := z2.lt
      exact ⟨g', cur, z0, z1, z2.of_eq (hw.block g' hlt hne), z3, z4, z5, fun o => (hS2 g' o hlt).trans (z6 o)⟩

theorem good_cb {f : FuncId} {args : Array Operand} {ts : Array TypeId} {xs : List X} (hE : ExtOk P w0 LX E) (hs : Sim P n w0 LX df S0 S bm ow st a w) (hd : ∀ k, o.dst = some k → OkD df n k) (ho : o.op = .call { callee := .value (.func f), args := args, argTypes := ts })
    (hxs : cXs args.toList = some xs) (h : step1 E (.cb o.dst f xs) st = some st') (Q : Exit → Act → World → Prop) : o.wp P a w (SimE P n w0 LX df S0 st') Q := by
  obtain ⟨id, ct', r, v, hv, hb, rfl⟩ := stepK_S h
  replace hv : cbV (E.l f) (xs.map (X.ev st)) st.bx = some (id, ct', r) := hv
  unfold cbV at hv
  split at hv
  · rename_i b as hl
    split at hv
    · rename_i ct hct
      split at hv
      · rename_i hm
        split at hv
        · rename_i ct2 r2 hc
          split at hv
          · rename_i hal
            simp only [Option.some.injEq, Prod.mk.injEq] at hv
            obtain ⟨rfl, rfl, rfl⟩ := hv
            rw [Bool.and_eq_true] at hal
            obtain ⟨G, hk, hE⟩ := hE
            obtain ⟨h1, h2⟩ := hE.l _ _ _ _ _ hc
            have hev := cXs_ev hs hxs
            obtain ⟨g, z1, z2, z3, z4⟩ := hs.box _ _ hct
            have ha := lendL_rep hl hev g ct (fun b' hb' => by cases hb'; exact ⟨z1, hct, hm⟩)
            unfold Oper.wp
            rw [show (execOp a.eval o).run P w = .ok (.enter f (args.map a.eval)) w by simp [execOp, ho, resolve, Act.eval, Deferred.ofValue, invoke, run_callFunc h1]]
            have h3 := h2 w S (args.map a.eval).toList g (fun w' hw => hk w' (hs.below.trans hw fun i hi e => by
              rw [e] at hi ⊢; exact ownB_lt z2 hi)) hs.slt (z3.untag hm) z4 (by rw [Array.toList_map]; exact ha)
            rw [Array.toArray_toList] at h3
            refine Calls.mono h3 ?_
            rintro e w' ⟨c, rfl, hw, S', q1, q2, q3, q4, q5⟩
            exact ⟨S', bm, ow, (hs.calledX z1 hct hw q1 q2 q3 q4 hal.1 hm).putO hd q5.bare⟩
          · cases hv
        · cases hv
      · cases hv
    · cases hv
  · cases hv

theorem newVal_rep {d g : Nat} {ct : V} {c : Value} {bx : Nat → Option V} (h : NewVal g ct c) (hm : ct.mem = true) (hb : bm d = some g) (hx : bx d = some ct) : RepS P S w ow bm bx (refTo d ct) c := by
  have h0 : ∀ x : V, pathOff P x [] = some 0 := fun x => by cases x <;> rfl
  cases ct <;> simp only [NewVal] at h <;> first
    | exact ⟨g, _, 0, hb, hx, h0 _, h⟩
    | simp [V.mem] at hm
    | skip
  rename_i t es
  simp only [refTo]
  split at h
  · rename_i ht
    rw [if_pos ht]
    obtain ⟨cap, q1, q2, q3⟩ := h
    exact ⟨g, _, hb, hx, .inr ⟨t - rowT, es, cap, by rw [show rowT + (t - rowT) = t by omega], q1, q2, q3⟩⟩
  · rename_i ht
    rw [if_neg ht]
    exact ⟨g, _, 0, hb, hx, h0 _, h⟩

theorem good_cn {f : FuncId} {args : Array Operand} {ts : Array TypeId} {xs : List X} {d : Nat} (hE : ExtOk P w0 LX E) (hs : Sim P n w0 LX df S0 S bm ow st a w) (hd : ∀ k, o.dst = some k → OkD df n k) (hdst : o.dst = some d) (ho : o.op = .call { callee := .value (.func f), args := args, argTypes := ts })
    (hxs : cXs args.toList = some xs) (h : step1 E (.cn d f xs) st = some st') (Q : Exit → Act → World → Prop) : o.wp P a w (SimE P n w0 LX df S0 st') Q := by
  obtain ⟨ct, hn, hv, rfl⟩ := stepK_A h
  replace hv : (if (xs.map (X.ev st)).all V.mem then (match E.n f (V.untags (xs.map (X.ev st))) with | some ct => if ct.mem then some ct else none | none => none) else none) = some ct := hv
  split at hv
  · rename_i hma
    split at hv
    · rename_i ct2 hc
      split at hv
      · rename_i hm
        cases hv
        obtain ⟨G, hk, hE⟩ := hE
        obtain ⟨h1, h2⟩ := hE.n _ _ _ hc
        have hev := cXs_ev hs hxs
        unfold Oper.wp
        rw [show (execOp a.eval o).run P w = .ok (.enter f (args.map a.eval)) w by simp [execOp, ho, resolve, Act.eval, Deferred.ofValue, invoke, run_callFunc h1]]
        have h3 := h2 w S (args.map a.eval).toList (hk w hs.below) hs.slt (by rw [Array.toList_map]; exact args_rep hev hma)
        rw [Array.toArray_toList] at h3
        refine Calls.mono h3 ?_
        rintro e w' ⟨c, g, rfl, hnv, hw, hgl, S', q1, q2, q3, q4⟩
        have g1 := hs.called hw q1 q2
        have hf : Fresh S' bm ow g := by
          refine ⟨q4, fun d' hb => ?_, fun d' k x c' hr e => ?_⟩
          · obtain ⟨_, _, _, hlt, _⟩ := hs.bLt hb
            exact absurd hlt.lt (by omega)
          · obtain ⟨_, _, _, _, _, q, _⟩ := hs.rLt hr
            have := q.lt
            omega
        have g2 := g1.addBox (hd d hdst) hn (Nat.le_trans hs.below.size hgl) hf q3.any
        rw [hdst]
        refine ⟨S', _, ow, g2.put (hd d hdst) (newVal_rep hnv hm (by simp [upd]) (by simp [upd]))⟩
      · cases hv
    · cases hv
  · cases hv

theorem good_cd {f : Operand} {args : Array Operand} {ts : Array TypeId} {xf : X} {xs : List X} (hE : ExtOk P w0 LX E) (hs : Sim P n w0 LX df S0 S bm ow st a w) (hd : ∀ k, o.dst = some k → OkD df n k) (ho : o.op = .call { callee := .value f, args := args, argTypes := ts })
    (hf : cX f = some xf) (hxs : cXs args.toList = some xs) (h : step1 E (.cd o.dst xf xs) st = some st') (Q : Exit → Act → World → Prop) : o.wp P a w (SimE P n w0 LX df S0 st') Q := by
  obtain ⟨v, hv, rfl⟩ := stepK_P h
  simp only [PO.args, List.map_cons] at hv
  have hr := hs.ev hf
  cases hc : xf.ev st <;> simp only [hc] at hv <;> try cases hv
  rename_i g caps
  rw [hc] at hr
  by_cases hm : (xs.map (X.ev st)).all V.mem = true
  · rw [if_pos hm] at hv
    obtain ⟨G, hk, hE⟩ := hE
    obtain ⟨h1, h2⟩ := hE.p _ _ _ hv
    have hev := cXs_ev hs hxs
    obtain ⟨cs, e1, hna, hcs⟩ : ∃ cs : List Value, a.eval f = .func (.func g) #[] cs.toArray ∧ (∀ x ∈ caps, x.isAgg = false) ∧ RepCs P S w noOw caps cs := by
      simp only [RepS, Rep1] at hr
      generalize a.eval f = q at hr
      cases hr with | fn _ k1 k2 => exact ⟨_, rfl, k1, k2⟩
    refine wp_call (cargs := args.map a.eval ++ cs.toArray) hs hd ?_ (hk _ hs.below) h2 ?_ Q
    · simp [execOp, ho, resolve, e1, Deferred.ofValue, invoke, run_callFunc h1]
    · rw [Array.toList_append, Array.toList_map]
      exact all2_append (args_rep hev hm) (caps_rep hcs hna)
  · rw [if_neg hm] at hv
    cases hv

theorem repCs_of : ∀ {vs : List V} {cs : List Value}, All2 (Rep1 P S w noOw) vs cs → (∀ x ∈ vs, x.isAgg = false) → RepCs P S w noOw vs cs
  | [], [], _, _ => .nil _
  | v :: vs, c :: cs, h, hm => by
    have hc : RepC P S w noOw v [c] := by
      have := h.1.cells
      rw [h.1.oneCell (hm v (by simp))] at this
      simpa using this
    exact .cons _ hc (repCs_of h.2 fun x hx => hm x (by simp [hx]))
  | [], _ :: _, h, _ => h.elim
  | _ :: _, [], h, _ => h.elim
theorem untags_noAgg : ∀ {vs : List V}, (∀ x ∈ vs, x.isAgg = false) → ∀ x ∈ V.untags vs, x.isAgg = false
  | [], _, _, h => by cases h
  | v :: vs, hm, x, h => by
    simp only [V.untags, List.mem_cons] at h
    rcases h with rfl | h
    · rw [untag_isAgg]; exact hm v (by simp)
    · exact untags_noAgg (fun y hy => hm y (by simp [hy])) x h

theorem good_mf {f : FuncId} {first captured : Array Operand} {xs : List X} {d : Nat} (hs : Sim P n w0 LX df S0 S bm ow st a w) (hd : OkD df n d) (hdst : o.dst = some d) (ho : o.op = .makeFunc (.func f) first captured) (h1 : first.toList = [])
    (hxs : cXs captured.toList = some xs) (h : step1 E (.mf d f xs) st = some st') (Q : Exit → Act → World → Prop) : o.wp P a w (SimE P n w0 LX df S0 st') Q := by
  obtain ⟨v, hv, rfl⟩ := stepK_P h
  replace hv : (if (xs.map (X.ev st)).all (fun x => x.mem && !x.isAgg) then some (V.fn f (V.untags (xs.map (X.ev st)))) else none) = some v := hv
  by_cases hm : (xs.map (X.ev st)).all (fun x => x.mem && !x.isAgg) = true
  · rw [if_pos hm] at hv
    cases hv
    have hm1 : (xs.map (X.ev st)).all V.mem = true := by
      rw [List.all_eq_true] at hm ⊢
      intro x hx
      have := hm x hx
      rw [Bool.and_eq_true] at this
      exact this.1
    have hm2 : ∀ x ∈ xs.map (X.ev st), x.isAgg = false := by
      intro x hx
      rw [List.all_eq_true] at hm
      have := hm x hx
      rw [Bool.and_eq_true] at this
      simpa using this.2
    have hr := args_rep (cXs_ev hs hxs) hm1
    have hf : first = #[] := by cases first; simp_all
    have := good_value (o := o) hs (by rw [hdst]; rintro k ⟨⟩; exact hd) (v := .fn f (V.untags (xs.map (X.ev st)))) (c := .func (.func f) #[] (captured.map a.eval))
      (by simp [execOp, ho, Instr.makeFunc, hf]) (by
        have h := RepC.fn (P := P) (S := S) (w := w) ow (f := f) (cs := captured.toList.map a.eval) (untags_noAgg hm2) (repCs_of hr (untags_noAgg hm2))
        rw [show (captured.toList.map a.eval).toArray = captured.map a.eval by rw [← Array.toList_map]] at h
        exact h) Q
    rw [hdst] at this
    exact this
  · rw [if_neg hm] at hv
    cases hv

theorem bytes_of_reps {l : List UInt8} {cs : List Value} (h : RepCs P S w ow (l.map byteV) cs) : cs = byteCs l := bytes_cells h
theorem byteCs_len (l : List UInt8) : (byteCs l).length = l.length := by simp [byteCs]

/-- What the plain state says of a builder. -/
theorem Sim.bldAt (h : Sim P n w0 LX df S0 S bm ow st a w) {d tg T e : Nat} {bs : List UInt8} (hbx : st.bx d = some (.bld tg T e bs)) (hfr : st.fr tg = some (e, bs.length)) (hb : isBld tg = true) :
    ∃ g sl a0 c0, bm d = some g ∧ ownB w0 LX d g ∧ (∀ o, ¬ S g o) ∧ P.cellsOf e = 1 ∧ BldW P T e g sl bs w ∧ ow tg = some (bs.length, a0, c0) ∧ sl = .slice a0 bs.length c0 ∧
      (∀ k, slB sl = some k → w0.heap.size ≤ k ∧ k < w.heap.size ∧ a0 = some ⟨k, 0, none⟩ ∧ ∀ o, S k o ↔ o < bs.length) := by
  have htn : tg ≠ nilT ∧ tg ≠ zerT := by
    constructor <;> (rintro rfl; exact absurd hb (by decide))
  obtain ⟨g, z1, z2, ⟨p, sl, y1, y2, y3, y4⟩, z4⟩ := h.box _ _ hbx
  obtain ⟨a0, c0, hon, hro⟩ := h.row _ _ _ hfr
  rw [hb] at hro
  have key : sl = .slice a0 bs.length c0 ∧ ((a0 = none ∧ bs = [] ∧ c0 = 0) ∨ ∃ g', a0 = some ⟨g', 0, none⟩ ∧ Mem S w g' 0 (byteCs bs)) := by
    generalize hq : [sl] = q at y3
    generalize hbm : bs.map byteV = l at y3
    generalize hv : V.sl (some tg) e l = v at y3
    have hll : l.length = bs.length := by rw [← hbm, List.length_map]
    cases y3 with
    | nilsl _ htg =>
      cases hv
      have hbs : bs = [] := List.eq_nil_of_length_eq_zero hll.symm
      subst hbs
      obtain ⟨n0, a1, c1, g1, g2, g3⟩ := htg.at_ htn
      rw [hon] at g1
      cases g1
      obtain ⟨g4, g5⟩ := g3 rfl
      subst g4 g5
      simp only [List.cons.injEq, and_true] at hq
      exact ⟨hq, .inl ⟨rfl, rfl, rfl⟩⟩
    | emp _ htg =>
      cases hv
      have hbs : bs = [] := List.eq_nil_of_length_eq_zero hll.symm
      subst hbs
      obtain ⟨n0, a1, c1, g1, g2, g3⟩ := htg.at_ htn
      rw [hon] at g1
      cases g1
      obtain ⟨g4, g5⟩ := g3 rfl
      subst g4 g5
      simp only [List.cons.injEq, and_true] at hq
      obtain ⟨g', cur, q1, _⟩ := hro
      exact ⟨hq, .inr ⟨g', by rw [q1], fun j u hu => by simp [byteCs] at hu⟩⟩
    | sl _ k1 k2 k3 k4 k5 htg =>
      cases hv
      rename_i cs b o cap
      obtain ⟨n0, a1, c1, g1, g2, g3⟩ := htg.at_ htn
      rw [hon] at g1
      cases g1
      obtain ⟨g4, g5⟩ := g3 hll
      subst g4 g5
      simp only [List.cons.injEq, and_true] at hq
      obtain ⟨_, _, _, q1, _⟩ := h.rLt hon
      subst hbm
      cases bytes_of_reps k1
      obtain rfl : o = 0 := congrArg Addr.off q1
      rw [List.length_map] at hq
      exact ⟨hq, .inr ⟨b, rfl, k3⟩⟩
    | _ => cases hv
  obtain ⟨rfl, key⟩ := key
  refine ⟨g, _, a0, c0, z1, z2, z4, y4, ⟨⟨p, y1, y2⟩, ?_⟩, hon, rfl, fun k hk => ?_⟩
  · rcases key with ⟨rfl, rfl, rfl⟩ | ⟨g', rfl, hm⟩
    · exact .inl ⟨rfl, rfl⟩
    · obtain ⟨g2, cur, r0, r1, ⟨fz, r2, _, r2'⟩, r3, r4, r5, r6⟩ := hro
      obtain rfl : g' = g2 := congrArg Addr.block r0
      rw [y4, Nat.mul_one] at r2' r3
      refine .inr ⟨g', c0, cur, fz, rfl, ?_, r2, r2', r4, r5, r3, fun j u hu => ?_⟩
      · exact h.brDis _ _ _ _ _ _ z1 hon
      · have := (hm j u hu).2
        rw [Nat.zero_add, cell_of_row _ _ _ _ _ _ r2] at this
        exact this
  · rcases key with ⟨rfl, rfl, rfl⟩ | ⟨g', rfl, hm⟩
    · cases hk
    · obtain rfl : g' = k := Option.some.inj hk
      obtain ⟨g2, cur, r0, r1, r2, r3, r4, r5, r6⟩ := hro
      obtain rfl : g' = g2 := congrArg Addr.block r0
      rw [y4, Nat.mul_one] at r6
      exact ⟨r1, r2.lt, rfl, r6⟩

/-- A builder's method was called. -/
theorem Sim.bldStep (h : Sim P n w0 LX df S0 S bm ow st a w) {d tg T e g : Nat} {bs bs' : List UInt8} {sl sl' : Value} {a0 : Option Addr} {c0 : Nat} (hbx : st.bx d = some (.bld tg T e bs)) (hfr : st.fr tg = some (e, bs.length)) (hb : isBld tg = true) (hdl : d ≠ lentT)
    (hbm : bm d = some g) (hown : ownB w0 LX d g) (hSg : ∀ o, ¬ S g o) (hce : P.cellsOf e = 1) (hbw : BldW P T e g sl bs w) (hon : ow tg = some (bs.length, a0, c0)) (hsl : sl = .slice a0 bs.length c0)
    (hblk : ∀ k, slB sl = some k → w0.heap.size ≤ k ∧ k < w.heap.size ∧ a0 = some ⟨k, 0, none⟩ ∧ ∀ o, S k o ↔ o < bs.length) (ht : BldTo P T e g sl sl' bs bs' w w') :
    ∃ S' ow', Sim P n w0 LX df S0 S' bm ow' { st with bx := upd st.bx d (some (.bld tg T e bs')), fr := upd st.fr tg (some (e, bs'.length)) } a w' := by
  have htn : tg ≠ nilT ∧ tg ≠ zerT := by
    constructor <;> (rintro rfl; exact absurd hb (by decide))
  obtain ⟨s, hs⟩ := ht.pre
  have hlen : bs.length ≤ bs'.length := by rw [hs]; simp
  -- the slice behind the call
  obtain ⟨a1, c1, hsl', hrow'⟩ : ∃ a1 c1, sl' = .slice a1 bs'.length c1 ∧ ((a1 = none ∧ c1 = 0 ∧ bs' = []) ∨ ∃ h cur fz, a1 = some ⟨h, 0, none⟩ ∧ h ≠ g ∧ w'.heap[h]? = some (.cells cur e fz) ∧ fz.2 ≤ bs'.length ∧ bs'.length ≤ c1 ∧ c1 ≤ maxLen ∧ cur.size = c1 ∧
      ∀ (j : Nat) (u : Value), (byteCs bs')[j]? = some u → cur[j]? = some u) := by
    rcases ht.bld.row with ⟨h1, h2⟩ | ⟨hh, cap, cur, fz, h1, h2⟩
    · exact ⟨none, 0, by rw [h1, h2]; rfl, .inl ⟨rfl, rfl, h2⟩⟩
    · exact ⟨_, cap, h1, .inr ⟨hh, cur, fz, rfl, h2⟩⟩
  subst hsl hsl'
  have hlt : ∀ k, slB (.slice a1 bs'.length c1) = some k → k < w'.heap.size := by
    intro k hk
    rcases hrow' with ⟨rfl, _⟩ | ⟨hh, cur, fz, rfl, _, h3, _⟩
    · cases hk
    · cases hk; exact heap_lt h3
  have hne : ∀ k, slB (.slice a1 bs'.length c1) = some k → k ≠ g := by
    intro k hk
    rcases hrow' with ⟨rfl, _⟩ | ⟨hh, cur, fz, rfl, h2, _⟩
    · cases hk
    · cases hk; exact h2
  have hge : ∀ k, slB (.slice a1 bs'.length c1) = some k → w0.heap.size ≤ k := by
    intro k hk
    rcases ht.own with h1 | h1
    · exact (hblk k (by rw [← h1]; exact hk)).1
    · exact Nat.le_trans h.below.size (h1 k hk)
  let S' : Nat → Nat → Prop := fun b o => S b o ∨ (slB (.slice a1 bs'.length c1) = some b ∧ o < bs'.length)
  have hg0 : g < w.heap.size := by
    obtain ⟨p, h1, _⟩ := hbw.cell
    exact heap_lt h1
  have hgge : w0.heap.size ≤ g := ownB_ge hdl hown
  have hSS : ∀ k, slB (.slice a1 bs'.length c1) = some k → ∀ o, S k o → o < bs'.length := by
    intro k hk o hS
    rcases ht.own with h1 | h1
    · exact Nat.lt_of_lt_of_le (((hblk k (by rw [← h1]; exact hk)).2.2.2 o).1 hS) hlen
    · exact absurd (h.slt _ _ hS) (by have := h1 k hk; omega)
  have hcell : ∀ b o, S b o → w'.cell? ⟨b, o, none⟩ = w.cell? ⟨b, o, none⟩ := by
    intro b o hS
    have hbg : b ≠ g := fun e1 => hSg o (e1 ▸ hS)
    by_cases hk : slB (.slice a0 bs.length c0) = some b ∧ slB (.slice a1 bs'.length c1) = some b
    · have ho := ((hblk b hk.1).2.2.2 o).1 hS
      rcases hbw.row with ⟨h1, _⟩ | ⟨h0, cap, cur, fz, h1, h2, h3, h4, h5, h6, h7, h8⟩
      · rw [h1] at hk; cases hk.1
      · rw [h1] at hk
        obtain rfl : h0 = b := Option.some.inj hk.1
        rcases hrow' with ⟨rfl, _⟩ | ⟨hh, cur', fz', rfl, k2, k3, k4, k5, k6, k7, k8⟩
        · cases hk.2
        · obtain rfl : hh = h0 := Option.some.inj hk.2
          rw [cell_of_row _ _ _ _ _ _ k3, cell_of_row _ _ _ _ _ _ h3]
          have e1 : (byteCs bs)[o]? = some (.int .u8 ((bs.getD o 0).toNat : Int)) := by
            simp [byteCs, List.getD_eq_getElem?_getD, List.getElem?_eq_getElem ho]
          have e2 : (byteCs bs')[o]? = some (.int .u8 ((bs.getD o 0).toNat : Int)) := by
            rw [← e1, hs, byteCs, byteCs, List.map_append, List.getElem?_append_left (by simpa using ho)]
          rw [k8 _ _ e2, h8 _ _ e1]
    · exact World.cell?_of_block (ht.block b (h.slt _ _ hS) hbg hk)
  have hle : Le S S' ow (upd ow tg (some (bs'.length, a1, c1))) w w' := by
    refine ⟨fun _ _ h => .inl h, hcell, fun d' n' a' c' hd' => ?_⟩
    unfold upd
    split
    · rename_i e1
      subst e1
      rw [hon] at hd'
      cases hd'
      refine ⟨_, a1, c1, rfl, hlen, fun e2 => ?_⟩
      have hbb : bs' = bs := by rw [hs] at e2 ⊢; rw [List.length_append] at e2; rw [List.eq_nil_of_length_eq_zero (l := s) (by omega), List.append_nil]
      have := ht.same hbb
      simp only [Value.slice.injEq] at this
      exact ⟨this.1, this.2.2⟩
    · exact ⟨n', a', c', hd', Nat.le_refl _, fun _ => ⟨rfl, rfl⟩⟩
  have hnb : BoxAt P S' w' (upd ow tg (some (bs'.length, a1, c1))) g (.bld tg T e bs') := by
    obtain ⟨p, h1, h2⟩ := ht.bld.cell
    refine ⟨p, _, h1, h2, ?_, hce⟩
    rcases hrow' with ⟨rfl, rfl, rfl⟩ | ⟨hh, cur, fz, rfl, k2, k3, k4, k5, k6, k7, k8⟩
    · exact .nilsl _ (TagOk.mk_ htn ⟨0, none, 0, by simp [upd], Nat.le_refl _, fun _ => ⟨rfl, rfl⟩⟩)
    · have := RepC.sl (P := P) (S := S') (w := w') (upd ow tg (some (bs'.length, some ⟨hh, 0, none⟩, c1))) (tag := some tg) (e := e) (b := hh) (o := 0) (cap := c1) (reps_bytes (ow := noOw) bs') (fun x hx => ?_) (fun j u hu => ?_) (by simpa using k5) k6 ?_
      · simpa using this
      · obtain ⟨y, _, rfl⟩ := List.mem_map.1 hx
        rw [hce]; rfl
      · rw [Nat.zero_add]
        have hj : j < bs'.length := by
          rcases Nat.lt_or_ge j bs'.length with hh | hh
          · exact hh
          · rw [List.getElem?_eq_none (by simpa using hh)] at hu; cases hu
        exact ⟨.inr ⟨rfl, hj⟩, by rw [cell_of_row _ _ _ _ _ _ k3]; exact k8 j u hu⟩
      · exact TagOk.mk_ htn ⟨bs'.length, some ⟨hh, 0, none⟩, c1, by simp [upd], by simp, fun _ => ⟨rfl, rfl⟩⟩
  have hothB : ∀ d' g', d' ≠ d → bm d' = some g' → g' < w.heap.size → w'.heap[g']? = w.heap[g']? := by
    intro d' g' hd' hg' hlt'
    refine ht.block g' hlt' (fun e1 => hd' (h.bInj _ _ _ hg' (e1 ▸ hbm))) fun hk => ?_
    obtain ⟨_, _, e1, _⟩ := hblk g' hk.1
    subst e1
    exact h.brDis _ _ _ _ _ _ hg' hon rfl
  refine ⟨S', upd ow tg (some (bs'.length, a1, c1)), ?_⟩
  refine { h with below := ?_, slt := fun b o hS => ?_, sold := fun b o hlt0 => ?_, slot := fun i => ((h.slot i).mono hle).boxes (fun _ _ h => h) ?_, box := fun d' x hx => ?_, boxNone := fun d' hd' => ?_, row := fun d' e' k' hd' => ?_, rowNone := fun d' hd' => ?_, rInj := fun x y k1 k2 b1 b2 c2 c3 hx hy hxy => ?_, brDis := fun x y z k' a' c' hx hy => ?_ }
  · refine h.below.trans (LY := fun k => k = g ∨ slB (.slice a0 bs.length c0) = some k) ⟨ht.os, ht.tape, ht.output, ht.size, fun k hk hx => ht.block k hk (fun e1 => hx (.inl e1)) fun hh => hx (.inr hh.1)⟩ ?_
    rintro i hi (rfl | hk)
    · omega
    · have := (hblk i hk).1
      omega
  · rcases hS with hS | ⟨hS, _⟩
    · exact Nat.lt_of_lt_of_le (h.slt b o hS) ht.size
    · exact hlt b hS
  · rw [← h.sold b o hlt0]
    exact ⟨fun hS => by
      rcases hS with hS | ⟨hS, _⟩
      · exact hS
      · have := hge b hS; omega, .inl⟩
  · intro d' x hx
    show ∃ v'', upd st.bx d (some (.bld tg T e bs')) d' = some v'' ∧ _
    unfold upd
    split
    · rename_i e1
      subst e1
      obtain rfl : x = .bld tg T e bs := Option.some.inj (hx.symm.trans hbx)
      exact ⟨.bld tg T e bs', rfl, fun p off hp => by cases p <;> simp_all [pathOff], ⟨fun _ _ e1 => by (cases e1), fun _ _ e1 => by (cases e1)⟩⟩
    · exact ⟨x, hx, fun _ _ h => h, SameKind.refl x⟩
  · replace hx : upd st.bx d (some (.bld tg T e bs')) d' = some x := hx
    unfold upd at hx
    split at hx
    · rename_i e1
      subst e1
      cases hx
      refine ⟨g, hbm, hown, hnb, fun o hS => ?_⟩
      rcases hS with hS | ⟨hS, _⟩
      · exact hSg o hS
      · exact hne g hS rfl
    · rename_i e1
      obtain ⟨g', q1, q2, q3, q4⟩ := h.box d' x hx
      refine ⟨g', q1, q2, q3.mono hle (hothB d' g' e1 q1 q3.lt), fun o hS => ?_⟩
      rcases hS with hS | ⟨hS, _⟩
      · exact q4 o hS
      · rcases ht.own with h1 | h1
        · obtain ⟨_, _, e2, _⟩ := hblk g' (by rw [← h1]; exact hS)
          subst e2
          exact h.brDis _ _ _ _ _ _ q1 hon rfl
        · have := h1 g' hS
          have := q3.lt
          omega
  · replace hd' : upd st.bx d (some (.bld tg T e bs')) d' = none := hd'
    unfold upd at hd'
    split at hd'
    · cases hd'
    · exact h.boxNone d' hd'
  · replace hd' : upd st.fr tg (some (e, bs'.length)) d' = some (e', k') := hd'
    unfold upd at hd' ⊢
    split at hd'
    · rename_i e1
      cases hd'
      rw [if_pos e1, e1, hb]
      refine ⟨a1, c1, rfl, ?_⟩
      rcases hrow' with ⟨rfl, rfl, rfl⟩ | ⟨hh, cur, fz, rfl, k2, k3, k4, k5, k6, k7, k8⟩
      · exact ⟨rfl, rfl⟩
      · refine ⟨hh, cur, rfl, hge hh rfl, ⟨fz, k3, fun h => (by cases h), by rw [hce, Nat.mul_one]; exact k4⟩, by rw [hce, Nat.mul_one]; exact k7, k5, k6, fun o => ?_⟩
        rw [hce, Nat.mul_one]
        exact ⟨fun hS => by
          rcases hS with hS | ⟨_, hS⟩
          · exact hSS hh rfl o hS
          · exact hS, fun hS => .inr ⟨rfl, hS⟩⟩
    · rename_i e1
      rw [if_neg e1]
      obtain ⟨x, c', q1, q2⟩ := h.row d' e' k' hd'
      refine ⟨x, c', q1, ?_⟩
      unfold RowAt at q2 ⊢
      cases x with
      | none => exact q2
      | some ad =>
        obtain ⟨g', cur2, z0, z1, z2, z3, z4, z5, z6⟩ := q2
        have hng : g' ≠ g := by
          have := h.brDis _ _ _ _ _ _ hbm q1
          rw [z0] at this
          exact this
        have hnk : slB (.slice a0 bs.length c0) ≠ some g' := by
          intro hk
          obtain ⟨_, _, e2, _⟩ := hblk g' hk
          subst e2
          exact e1 (h.rInj _ _ _ _ _ _ _ _ q1 hon (by rw [z0]))
        have hlt' := z2.lt
        refine ⟨g', cur2, z0, z1, z2.of_eq (ht.block g' hlt' hng fun hh => hnk hh.1), z3, z4, z5, fun o => ?_⟩
        rw [← z6 o]
        refine ⟨fun hS => ?_, .inl⟩
        rcases hS with hS | ⟨hS, _⟩
        · exact hS
        · rcases ht.own with h1 | h1
          · exact absurd (by rw [← h1]; exact hS) hnk
          · have := h1 g' hS
            omega
  · replace hd' : upd st.fr tg (some (e, bs'.length)) d' = none := hd'
    unfold upd at hd' ⊢
    split at hd'
    · cases hd'
    · rename_i e1; rw [if_neg e1]; exact h.rowNone d' hd'
  · -- rows lie apart
    have key : ∀ (y k c2 : Nat) (b b2 : Addr), y ≠ tg → ow y = some (k, some b, c2) → a1 = some b2 → b.block = b2.block → False := by
      intro y k c2 b b2 hy0 hyy e1 e2
      subst e1
      rcases ht.own with h1 | h1
      · obtain ⟨_, _, e3, _⟩ := hblk b2.block (by rw [← h1]; rfl)
        subst e3
        exact hy0 (h.rInj _ _ _ _ _ _ _ _ hyy hon e2)
      · have := h1 b2.block rfl
        obtain ⟨_, _, _, _, _, q, _⟩ := h.rLt hyy
        have := q.lt
        omega
    by_cases e1 : x = tg <;> by_cases e2 : y = tg
    · rw [e1, e2]
    · simp only [upd, if_pos e1, if_neg e2] at hx hy
      cases hx
      exact (key _ _ _ _ _ e2 hy rfl hxy.symm).elim
    · simp only [upd, if_neg e1, if_pos e2] at hx hy
      cases hy
      exact (key _ _ _ _ _ e1 hx rfl hxy).elim
    · simp only [upd, if_neg e1, if_neg e2] at hx hy
      exact h.rInj _ _ _ _ _ _ _ _ hx hy hxy
  · unfold upd at hy
    split at hy
    · cases hy
      intro e1
      rcases ht.own with h1 | h1
      · obtain ⟨_, _, e3, _⟩ := hblk a'.block (by rw [← h1]; rfl)
        subst e3
        exact h.brDis _ _ _ _ _ _ hx hon e1
      · have := h1 a'.block rfl
        obtain ⟨_, _, _, q, _⟩ := h.bLt hx
        have := q.lt
        omega
    · exact h.brDis _ _ _ _ _ _ hx hy

theorem all2_mem {bx : Nat → Option V} : ∀ {vs : List V} {cs : List Value}, All2 (RepS P S w ow bm bx) vs cs → (∀ v ∈ vs, v.mem = true) → All2 (Rep1 P S w ow) vs cs
  | [], [], _, _ => trivial
  | v :: vs, c :: cs, h, hm => ⟨h.1.one (hm v (by simp)), all2_mem h.2 fun x hx => hm x (by simp [hx])⟩
  | [], _ :: _, h, _ => h.elim
  | _ :: _, [], h, _ => h.elim

theorem bldR_mem {k : BK} {bs bs' : List UInt8} {as : List V} {r : V} (h : bldR k bs as = some (bs', r)) : (∀ v ∈ as, v.mem = true) ∧ V.untags as = as := by
  unfold bldR at h
  split at h
  · exact ⟨by simp [V.mem], rfl⟩
  · split at h
    · rename_i v c hv
      unfold byteOf at hv
      split at hv
      · exact ⟨by simp [V.mem], rfl⟩
      · cases hv
    · cases h
  · exact ⟨by simp, rfl⟩
  · exact ⟨by simp, rfl⟩
  · cases h

theorem good_cw {f : FuncId} {k : BK} {args : Array Operand} {ts : Array TypeId} {xs : List X} (hE : ExtOk P w0 LX E) (hs : Sim P n w0 LX df S0 S bm ow st a w) (hd : ∀ k, o.dst = some k → OkD df n k) (ho : o.op = .call { callee := .value (.func f), args := args, argTypes := ts })
    (hk : bkOf P f = some k) (hxs : cXs args.toList = some xs) (h : step1 E (.cw o.dst f k xs) st = some st') (Q : Exit → Act → World → Prop) : o.wp P a w (SimE P n w0 LX df S0 st') Q := by
  have hev := cXs_ev hs hxs
  simp only [step1, PO.dst, PO.args, PO.kd, stepK] at h
  split at h
  · rename_i id c r x v hq
    cases h
    unfold bldV at hq
    split at hq
    · rename_i te args0 T e b as hE1 hxe
      rw [hxe] at hev
      split at hq
      · rename_i tg T' e' bs hbx
        split at hq
        · rename_i e2 m hfr
          split at hq
          · rename_i hc
            obtain ⟨⟨rfl, rfl⟩, ⟨rfl, rfl⟩, hdl, hb⟩ := hc
            split at hq
            · rename_i bs' r' hr
              cases hq
              obtain ⟨G, _, hE⟩ := hE
              obtain ⟨h1, h2⟩ := hE.b _ _ _ _ hE1 hk
              obtain ⟨g, sl, a0, c0, q1, q2, q3, q4, q5, q6, q7, q8⟩ := hs.bldAt hbx hfr hb
              obtain ⟨hmem, hun⟩ := bldR_mem hr
              cases hcl : args.toList.map a.eval with
              | nil => rw [hcl] at hev; exact hev.elim
              | cons c0' cs =>
                rw [hcl] at hev
                obtain ⟨hev1, hev2⟩ := hev
                obtain ⟨g', ct, off, r1, r2, r3, r4⟩ := hev1
                obtain rfl : g' = g := Option.some.inj (r1.symm.trans q1)
                have h00 : off = 0 := by
                  have : ∀ x : V, pathOff P x [] = some 0 := fun x => by cases x <;> rfl
                  rw [this] at r3
                  exact (Option.some.inj r3).symm
                subst h00
                have ha := all2_mem hev2 hmem
                have ha0 : All2 (Rep1 P S w noOw) as cs := by
                  have := args_rep hev2 (List.all_eq_true.2 hmem)
                  rwa [hun] at this
                unfold Oper.wp
                rw [show (execOp a.eval o).run P w = .ok (.enter f (args.map a.eval)) w by simp [execOp, ho, resolve, Act.eval, Deferred.ofValue, invoke, run_callFunc h1]]
                have h3 := h2 w S g' sl bs bs' as v cs q4 q5 hr ha0
                have hargs : args.map a.eval = (Value.pointer (some ⟨g', 0, none⟩) :: cs).toArray := by
                  rw [← r4, ← hcl, ← Array.toList_map, Array.toArray_toList]
                rw [hargs]
                refine Calls.mono h3 ?_
                rintro en w' ⟨c, sl', rfl, ht, hres⟩
                obtain ⟨S', ow', hs'⟩ := hs.bldStep hbx hfr hb hdl q1 q2 q3 q4 q5 q6 q7 q8 ht
                exact ⟨S', bm, ow', hs'.putO hd (hres S').bare⟩
            · cases hq
          · cases hq
        · cases hq
      · cases hq
    · cases hq
  · cases h

theorem array_one {α : Type} {x : α} {xs : Array α} (h : xs.toList = [x]) : xs = #[x] := by
  cases xs; simp_all
theorem array_two {α : Type} {x y : α} {xs : Array α} (h : xs.toList = [x, y]) : xs = #[x, y] := by
  cases xs; simp_all

set_option maxHeartbeats 1000000 in
/-- ONE OPERATION. -/
theorem sim_op {nz : List TypeId} {po : PO} (hE : ExtOk P w0 LX E) (hs : Sim P n w0 LX df S0 S bm ow st a w) (hc : compileOp P nz o = some po) (hd : ∀ k, o.dst = some k → OkD df n k)
    (h : step1 E po st = some st') (Q : Exit → Act → World → Prop) : o.wp P a w (SimE P n w0 LX df S0 st') Q := by
  unfold compileOp at hc
  split at hc
  · -- move
    rename_i x ho
    split at hc
    · rename_i y hx; cases hc; exact good_move hs hd (.inl ho) hx h Q
    · cases hc
  · -- assign
    rename_i x ho
    split at hc
    · rename_i d' e hd' h2 h3
      cases hc
      have hx : x = .const (.slice none 0 0) := by
        cases x with
        | const v =>
          split at h3
          · rename_i heq; exact heq
          · cases h3
        | tmp => simp at h3
        | func => simp at h3
        | global => simp at h3
      subst hx
      exact good_nl hs (hd _ hd') hd' ho h Q
    · split at hc
      · rename_i y hx; cases hc; exact good_move hs hd (.inr ho) hx h Q
      · cases hc
  · -- pick
    rename_i c x y d ho hd'
    split at hc
    · rename_i c' x' y' h1 h2 h3; cases hc; exact good_pick hs (hd _ hd') hd' ho h1 h2 h3 h Q
    · cases hc
  · -- binOp
    rename_i op t x y u d ho hd'
    split at hc
    · rename_i x' y' h1 h2 h3; cases hc; exact good_ar hs (hd _ hd') hd' ho h2 h3 h Q
    · rename_i x' y' h1 h2 h3; cases hc; exact good_ar hs (hd _ hd') hd' ho h2 h3 h Q
    · rename_i x' y' h1 h2 h3
      split at hc
      · cases hc; exact good_eb hs (hd _ hd') hd' ho rfl h1 h2 h3 h Q
      · cases hc; exact good_eb hs (hd _ hd') hd' ho rfl h1 h2 h3 h Q
      · cases hc
    · rename_i ms x' y' h1 h2 h3
      split at hc
      · rename_i g h4 h5; cases hc; exact good_se hs (hd _ hd') hd' ho h4 (.inl ⟨rfl, ⟨ms, h1⟩, h5⟩) h2 h3 h Q
      · cases hc
    · rename_i e x' y' h1 h2 h3
      split at hc
      · rename_i g h4 h5; cases hc; exact good_se hs (hd _ hd') hd' ho h4 (.inr (.inl ⟨rfl, e, h1⟩)) h2 h3 h Q
      · cases hc
    · rename_i e x' h1 h2
      split at hc
      · cases hc
        obtain ⟨v, hv, rfl⟩ := stepK_P h
        simp only [PO.args, List.map_cons, List.map_nil] at hv
        split at hv
        · rename_i b hb
          cases hb
        · cases hv
      · cases hc
    · rename_i fs x' y' h1 h2 h3
      split at hc
      · rename_i g ks h4 h5; cases hc; exact good_se hs (hd _ hd') hd' ho h4 (.inr (.inr ⟨ks, rfl, h5⟩)) h2 h3 h Q
      · cases hc
    · cases hc
  · -- unOp
    rename_i op t x d ho hd'
    split at hc
    · rename_i x' h1; cases hc; exact good_un hs (hd _ hd') hd' ho h1 h Q
    · cases hc
  · -- len
    rename_i args ts d ho hd'
    split at hc
    · rename_i x t h1 h2
      obtain rfl := array_one h1
      obtain rfl := array_one h2
      split at hc
      · rename_i x' h3 h4; cases hc; exact good_ln hs (hd _ hd') hd' ho h4 (.inl ⟨rfl, h3⟩) h Q
      · rename_i e x' h3 h4; cases hc; exact good_ln hs (hd _ hd') hd' ho h4 (.inr ⟨e, rfl, h3⟩) h Q
      · cases hc
    · cases hc
  · -- makeFunc
    rename_i f first captured d ho hd'
    split at hc
    · rename_i xs h1 h2
      cases hc
      exact good_mf hs (hd _ hd') hd' ho h1 h2 h Q
    · cases hc
  · -- min
    rename_i args ts d ho hd'
    split at hc
    · rename_i x y h1
      obtain rfl := array_two h1
      split at hc
      · rename_i x' y' h2 h3; cases hc; exact good_mn (mx := false) hs (hd _ hd') hd' ho h2 h3 h Q
      · cases hc
    · cases hc
  · -- max
    rename_i args ts d ho hd'
    split at hc
    · rename_i x y h1
      obtain rfl := array_two h1
      split at hc
      · rename_i x' y' h2 h3; cases hc; exact good_mn (mx := true) hs (hd _ hd') hd' ho h2 h3 h Q
      · cases hc
    · cases hc
  · -- append
    rename_i args ts d ho hd'
    split at hc
    · rename_i x y t u h1 h2
      obtain rfl := array_two h1
      obtain rfl := array_two h2
      split at hc
      · rename_i e e' x' y' h3 h4 h5 h6
        split at hc
        · rename_i hh
          obtain ⟨rfl, rfl, hok⟩ := hh
          split at hc
          · cases hc; exact good_cx hs (hd _ hd') hd' ho h3 hok h5 h6 h Q
          · cases hc
            exact good_ap hs (hd _ hd') hd' ho h3 hok h5 h6 h Q
        · cases hc
      · cases hc
    · cases hc
  · -- call of a named function
    rename_i f args ts ho
    split at hc
    · rename_i xs hxs
      split at hc
      · rename_i k hk
        cases hc
        exact good_cw hE hs hd ho hk hxs h Q
      split at hc
      · cases hc; exact good_cb hE hs hd ho hxs h Q
      · rename_i d _ hdst; cases hc; exact good_cn hE hs hd hdst ho hxs h Q
      · cases hc; exact good_ca hE hs hd ho hxs h Q
    · cases hc
  · -- call of a function value
    rename_i f args ts _ ho
    split at hc
    · rename_i xf xs hf hxs; cases hc; exact good_cd hE hs hd ho hf hxs h Q
    · cases hc
  · -- index
    rename_i t x i d ho hd'
    split at hc
    · rename_i x' i' h1 h2 h3; cases hc; exact good_ix hs (hd _ hd') hd' ho h1 h2 h3 h Q
    · cases hc
  · -- indexAddr
    rename_i t x i d ho hd'
    split at hc
    · rename_i e x' i' h1 h2 h3
      split at hc
      · rename_i hi; cases hc; exact good_ea hs (hd _ hd') hd' ho h1 hi h2 h3 h Q
      · cases hc
    · rename_i m e x' i' h1 h2 h3
      split at hc
      · rename_i hi
        simp only [Bool.and_eq_true] at hi
        obtain ⟨_, _, _, _, _, _, h10⟩ := okAgg_spec hi.1
        cases hc; exact good_aa hs (hd _ hd') hd' ho h1 h10 hi.2 h2 h3 h Q
      · cases hc
    · cases hc
  · -- fieldAddr
    rename_i s x f d ho hd'
    split at hc
    · rename_i hf
      split at hc
      · rename_i x' h1; cases hc; exact good_fa hs (hd _ hd') hd' ho hf h1 h Q
      · cases hc
    · cases hc
  · -- field
    rename_i s x f d ho hd'
    split at hc
    · rename_i hf
      split at hc
      · rename_i x' fs h1 h2
        split at hc
        · rename_i tt h3
          cases hc
          obtain ⟨fd, h4, h5⟩ := Option.bind_eq_some_iff.1 h3
          exact good_fd hs (hd _ hd') hd' ho hf h2 h4 h5 h1 h Q
        · cases hc
      · cases hc
    · cases hc
  · -- load
    rename_i t x d ho hd'
    split at hc
    · rename_i tt x' h1 h2; cases hc; exact good_ld hs (hd _ hd') hd' ho h1 h2 h Q
    · cases hc
  · -- store
    rename_i t x y ho hd'
    split at hc
    · rename_i tt x' y' h1 h2 h3; cases hc; exact good_st hs hd' ho h1 h2 h3 h Q
    · cases hc
  · -- box
    rename_i t x d ho hd'
    split at hc
    · rename_i tt x' h1 h2; cases hc; exact good_bx hs (hd _ hd') hd' ho h2 h Q
    · cases hc
  · -- alloc
    rename_i t d ho hd'
    split at hc
    · rename_i e h1; cases hc; exact good_ab hs (hd _ hd') hd' ho h1 h Q
    split at hc
    · rename_i z h1; cases hc; exact good_al hs (hd _ hd') hd' ho h1 h Q
    · cases hc
  · -- buildSlice
    rename_i t m ps d ho hd'
    split at hc
    · rename_i e os h1 h2
      split at hc
      · rename_i tt xs h3 h4
        split at hc
        · rename_i hh
          simp only [Bool.and_eq_true, beq_iff_eq] at hh
          obtain ⟨_, rfl, hz⟩ := hh
          split at hc
          · rename_i hok
            cases hc; exact good_zs hs (hd _ hd') hd' ho h1 hz hok h Q
          · cases hc
        split at hc
        · rename_i hh
          simp only [Bool.and_eq_true, decide_eq_true_eq] at hh
          cases hc; exact good_bs hs (hd _ hd') hd' ho h1 h2 h3 h4 hh.1 hh.2 h Q
        · cases hc
      · cases hc
    · cases hc
  · -- build
    rename_i t ps d ho hd'
    split at hc
    · rename_i fs t' z xs h1 h2 h3
      split at hc
      · rename_i hh
        simp only [Bool.and_eq_true, beq_iff_eq] at hh
        obtain ⟨⟨⟨g1, g2⟩, rfl⟩, g3⟩ := hh
        cases hc; exact good_bd hs (hd _ hd') hd' ho h1 h2 h3 g1 (by simpa using g3) h Q
      · cases hc
    · cases hc
  · -- makeSlice
    rename_i t x y d ho hd'
    split at hc
    · rename_i e h1
      split at hc
      · rename_i z n' c' h2 h3 h4
        split at hc
        · rename_i hok
          split at hc
          · cases hc; exact good_mm hs (hd _ hd') hd' ho h1 h2 hok h3 h4 h Q
          · cases hc; exact good_mk hs (hd _ hd') hd' ho h1 h2 hok h3 h4 h Q
        · cases hc
      · rename_i z x' y' _ h2 h3 h4
        split at hc
        · rename_i hok; cases hc; exact good_mk hs (hd _ hd') hd' ho h1 h2 hok h3 h4 h Q
        · cases hc
      · cases hc
    · cases hc
  · -- slice
    rename_i t x lo hi d ho hd'
    split at hc
    · rename_i x' lo' hi' h1 h2 h3 h4; cases hc; exact good_sc hs (hd _ hd') hd' ho h2 h3 h4 (.inl ⟨rfl, h1⟩) h Q
    · rename_i e x' lo' hi' h1 h2 h3 h4
      split at hc
      · rename_i hi0
        obtain ⟨inf, hinf⟩ := Option.isSome_iff_exists.1 hi0
        cases hc; exact good_sc hs (hd _ hd') hd' ho h2 h3 h4 (.inr ⟨e, inf, rfl, h1, hinf⟩) h Q
      · cases hc
    · rename_i m e x' lo' hi' h1 h2 h3 h4
      split at hc
      · rename_i hi0
        simp only [Bool.and_eq_true, decide_eq_true_eq] at hi0
        obtain ⟨_, _, _, _, _, _, h10⟩ := okAgg_spec hi0.1.1
        cases hc; exact good_sa hs (hd _ hd') hd' ho h2 h3 h4 h1 h10 hi0.1.2 hi0.2 h Q
      · cases hc
    · cases hc
  · -- convert
    rename_i s t x d ho hd'
    split at hc
    · rename_i k0 k x' h1 h2 h3; cases hc; exact good_cvi hs (hd _ hd') hd' ho h1 h2 h3 h Q
    · rename_i x' h1 h2 h3; cases hc; exact good_cvS hs (hd _ hd') hd' ho h1 h2 h3 h Q
    · rename_i e x' h1 h2 h3
      split at hc
      · rename_i h4
        split at hc
        · rename_i hh
          simp only [Bool.and_eq_true, beq_iff_eq] at hh
          cases hc; exact good_cvs hs (hd _ hd') hd' ho h1 h2 h4 hh.2 h3 h Q
        · cases hc
      · cases hc
    · rename_i e x' h1 h2 h3
      split at hc
      · rename_i h4; cases hc; exact good_cvb hs (hd _ hd') hd' ho h1 h4 h2 h3 h Q
      · cases hc
    · cases hc
  · -- makeInterface
    rename_i t x d ho hd'
    split at hc
    · cases hc
    · rename_i td x' hn h1 h2; cases hc; exact good_mi hs (hd _ hd') hd' ho h1 (fun ms e => hn ms e) h2 h Q
    · cases hc
  · -- extract
    rename_i x i d ho hd'
    split at hc
    · rename_i x' h1; cases hc; exact good_ex hs (hd _ hd') hd' ho h1 h Q
    · cases hc
  · -- nilCheck
    rename_i x ho
    split at hc
    · rename_i x' h1; cases hc; exact good_nc hs hd ho h1 h Q
    · cases hc
  · -- range
    rename_i t x d ho hd'
    split at hc
    · rename_i x' h1 h2; cases hc; exact good_rg hs (hd _ hd') hd' ho h1 h2 h Q
    · cases hc
  · -- next
    rename_i x d ho hd'
    split at hc
    · rename_i x' h1; cases hc; exact good_nx hs (hd _ hd') hd' ho h1 h Q
    · cases hc
  · -- panic
    split at hc
    · cases hc; simp [step1, PO.kd, stepK] at h
    · cases hc
  · cases hc

end
end Go.Nu
/-
  NU, text 18: two plain operations that do not look at one another may change places.
-/
namespace Go.Nu
open Go

inductive Cl where
  | P | L | S | A | N | F | C
  deriving DecidableEq

def PO.cl : PO → Cl
  | .fa _ _ _ _ | .aa _ _ _ _ | .ld _ _ _ | .ln _ _ _ | .ea _ _ _ _ | .lx _ _ _ _ | .fx _ _ _ _ _ => .L
  | .st _ _ _ | .nx _ _ | .cb _ _ _ | .sx _ _ _ _ => .S
  | .bx _ _ _ | .al _ _ | .rg _ _ | .mm _ _ _ _ _ | .cn _ _ _ | .cx _ _ _ _ => .A
  | .nl _ _ | .bs _ _ _ _ | .mk _ _ _ _ _ => .N
  | .ap _ _ _ _ => .F
  | .ab _ _ _ | .cw _ _ _ _ => .C
  | _ => .P

def okPair : Cl → Cl → Bool
  | .L, .S | .S, .L | .S, .S | .A, .L | .A, .S | .N, .F | .F, .F => false
  | .C, .P | .P, .C => true
  | .C, _ | _, .C => false
  | _, _ => true

/-- A look into other boxes, and a write into this one. -/
def offPair0 : PO → PO → Bool
  | .lx bs _ _ _, .sx b _ _ _ | .sx b _ _ _, .lx bs _ _ _ => bs.contains b
  | .fx bs _ _ _ _, .sx b _ _ _ | .sx b _ _ _, .fx bs _ _ _ _ => bs.contains b
  | _, _ => false

/-- It turns neither a box nor a row (a builder's 'Len' and 'String' leave them as they are). -/
def stillB : PO → Bool
  | .cw _ _ k _ => match k with
    | .len | .str => true
    | _ => false
  | p => match p.cl with
    | .L | .P => true
    | _ => false
def offPair (p q : PO) : Bool := offPair0 p q || (stillB p && stillB q)

def xSlots : List X → List Nat
  | [] => []
  | .t n :: l => n :: xSlots l
  | .v _ :: l => xSlots l

def PG.reads (p : PG) : List Nat := xSlots p.po.args ++ (match p.g with | some (j, _) => [j] | none => [])

def apartD (d : Option Nat) (l : List Nat) : Bool :=
  match d with
  | some d => !l.contains d
  | none => true

/-- x (first in the text) and y may change places. -/
def indep (x y : PG) : Bool :=
  apartD x.po.dst y.reads && apartD y.po.dst x.reads && apartD x.po.dst y.po.dst.toList && (okPair x.po.cl y.po.cl || offPair x.po y.po)

structure Eff where
  v : V
  bx : Option (Nat × V)
  fr : Option (Nat × (TypeId × Nat))

def updO {α : Type} (f : Nat → Option α) : Option (Nat × α) → Nat → Option α
  | some (d, v) => upd f d (some v)
  | none => f

def app (dst : Option Nat) (e : Eff) (st : St) : St :=
  ({ s := st.s, bx := updO st.bx e.bx, fr := updO st.fr e.fr } : St).putO dst e.v

def effK (dst : Option Nat) (args : List V) (kd : Kd) (bx : Nat → Option V) (fr : Nat → Option (TypeId × Nat)) : Option Eff :=
  match kd with
  | .P f => match f args with
    | some v => some ⟨v, none, none⟩
    | none => none
  | .L f => match f args bx with
    | some v => some ⟨v, none, none⟩
    | none => none
  | .S f => match f args bx with
    | some (id, c, r) => match bx id with
      | some _ => some ⟨r, some (id, c), none⟩
      | none => none
    | none => none
  | .A f => match dst with
    | some d => match bx d with
      | some _ => none
      | none => match f args with
        | some c => some ⟨refTo d c, some (d, c), none⟩
        | none => none
    | none => none
  | .N f => match dst with
    | some d => match fr d with
      | some _ => none
      | none => match f args with
        | some (e, es) => some ⟨.sl (some d) e es, none, some (d, (e, es.length))⟩
        | none => none
    | none => none
  | .F f => match f args fr with
    | some (id, e, es) => match fr id with
      | some _ => some ⟨.sl (some id) e es, none, some (id, (e, es.length))⟩
      | none => none
    | none => none
  | .C f => match f args bx fr with
    | some (id, c, r, x, v) => some ⟨v, some (id, c), some (r, x)⟩
    | none => none

theorem stepK_eff (dst : Option Nat) (args : List V) (kd : Kd) (st : St) : stepK dst args kd st = (effK dst args kd st.bx st.fr).map fun e => app dst e st := by
  cases kd with
  | P f => simp only [stepK, effK]; cases f args <;> rfl
  | L f => simp only [stepK, effK]; cases f args st.bx <;> rfl
  | S f =>
    simp only [stepK, effK]
    cases f args st.bx with
    | none => rfl
    | some x =>
      obtain ⟨id, c, r⟩ := x
      simp only []
      cases st.bx id <;> rfl
  | A f =>
    simp only [stepK, effK]
    cases dst with
    | none => rfl
    | some d =>
      simp only []
      cases st.bx d with
      | some _ => rfl
      | none => simp only []; cases f args <;> rfl
  | N f =>
    simp only [stepK, effK]
    cases dst with
    | none => rfl
    | some d =>
      simp only []
      cases st.fr d with
      | some _ => rfl
      | none =>
        simp only []
        cases f args with
        | none => rfl
        | some x => rfl
  | F f =>
    simp only [stepK, effK]
    cases f args st.fr with
    | none => rfl
    | some x =>
      obtain ⟨id, e, es⟩ := x
      simp only []
      cases st.fr id <;> rfl
  | C f =>
    simp only [stepK, effK]
    cases f args st.bx st.fr with
    | none => rfl
    | some x => rfl

def effG (E : Ext) (pg : PG) (s : Nat → V) (bx : Nat → Option V) (fr : Nat → Option (TypeId × Nat)) : Option Eff :=
  match pg.g with
  | none => effK pg.po.dst (pg.po.args.map (X.ev ⟨s, bx, fr⟩)) (pg.po.kd E) bx fr
  | some (j, want) => match guardV (s j) want with
    | some true => effK pg.po.dst (pg.po.args.map (X.ev ⟨s, bx, fr⟩)) (pg.po.kd E) bx fr
    | some false => some ⟨.tup [], none, none⟩
    | none => none

theorem stepG_eff (E : Ext) (pg : PG) (st : St) : stepG E pg st = (effG E pg st.s st.bx st.fr).map fun e => app pg.po.dst e st := by
  unfold stepG effG step1
  cases pg.g with
  | none => exact stepK_eff _ _ _ _
  | some x =>
    obtain ⟨j, want⟩ := x
    simp only []
    cases guardV (st.s j) want with
    | none => rfl
    | some b =>
      cases b with
      | true => exact stepK_eff _ _ _ _
      | false => rfl

/-- What the classes say of the operations. -/
def Kd.cl : Kd → Cl
  | .P _ => .P | .L _ => .L | .S _ => .S | .A _ => .A | .N _ => .N | .F _ => .F | .C _ => .C

theorem PO.kd_cl (E : Ext) (po : PO) : (po.kd E).cl = po.cl := by cases po <;> rfl

theorem ev_congr {s s' : Nat → V} {bx bx' : Nat → Option V} {fr fr' : Nat → Option (TypeId × Nat)} : ∀ {l : List X}, (∀ i ∈ xSlots l, s' i = s i) → l.map (X.ev ⟨s', bx', fr'⟩) = l.map (X.ev ⟨s, bx, fr⟩)
  | [], _ => rfl
  | .t n :: l, h => by
    rw [List.map_cons, List.map_cons, ev_congr (l := l) (fun i hi => h i (by simp [xSlots, hi]))]
    congr 1
    exact h n (by simp [xSlots])
  | .v x :: l, h => by
    rw [List.map_cons, List.map_cons, ev_congr (l := l) (fun i hi => h i (by simpa [xSlots] using hi))]
    rfl

theorem effG_slots {E : Ext} {pg : PG} {s s' : Nat → V} {bx : Nat → Option V} {fr : Nat → Option (TypeId × Nat)} (h : ∀ i ∈ pg.reads, s' i = s i) : effG E pg s' bx fr = effG E pg s bx fr := by
  unfold effG
  have h1 : pg.po.args.map (X.ev ⟨s', bx, fr⟩) = pg.po.args.map (X.ev ⟨s, bx, fr⟩) := ev_congr fun i hi => h i (by simp [PG.reads, hi])
  rw [h1]
  cases hg : pg.g with
  | none => rfl
  | some x =>
    obtain ⟨j, want⟩ := x
    simp only []
    rw [h j (by simp [PG.reads, hg])]

theorem app_slots {dst : Option Nat} {e : Eff} {st : St} {l : List Nat} (h : apartD dst l = true) : ∀ i ∈ l, (app dst e st).s i = st.s i := by
  intro i hi
  unfold app St.putO
  cases dst with
  | none => rfl
  | some d =>
    simp only [apartD, Bool.not_eq_true', List.contains_eq_mem, decide_eq_false_iff_not] at h
    show upd st.s d e.v i = _
    unfold upd
    exact if_neg (fun (hh : i = d) => h (hh ▸ hi))

theorem app_bx (dst : Option Nat) (e : Eff) (st : St) : (app dst e st).bx = updO st.bx e.bx := by unfold app St.putO; cases dst <;> rfl
theorem app_fr (dst : Option Nat) (e : Eff) (st : St) : (app dst e st).fr = updO st.fr e.fr := by unfold app St.putO; cases dst <;> rfl

/-- A box that was not there is not looked at. -/
theorem L_stable {E : Ext} {po : PO} {args : List V} {f : List V → (Nat → Option V) → Option V} (hk : po.kd E = .L f) {bx : Nat → Option V} {d : Nat} {c v : V} (hd : bx d = none) (h : f args bx = some v) : f args (upd bx d (some c)) = some v := by
  have key : ∀ id x, bx id = some x → upd bx d (some c) id = some x := by
    intro id x hx
    unfold upd
    rw [if_neg]
    · exact hx
    · rintro rfl; rw [hd] at hx; cases hx
  cases po <;> simp only [PO.kd, reduceCtorEq] at hk <;> cases hk
  · -- ln
    match args, h with
    | [x], h =>
      simp only [lenB] at h ⊢
      split at h
      · rename_i id
        split at h
        · have hq := ‹bx id = some _›
          simp only [key _ _ hq]; exact h
        · cases h
      · exact h
  · -- ea
    match args, h with
    | [x, i], h =>
      simp only [eaB] at h ⊢
      split at h
      · rename_i id
        split at h
        · rename_i ik m t es hq; simp only [key _ _ hq]; exact h
        · cases h
      · exact h
  · -- fa
    match args, h with
    | [x], h =>
      simp only [faV] at h ⊢
      split at h
      · exact h
      · rename_i id p
        split at h
        · rename_i q hq; simp only [key _ _ hq]; exact h
        · cases h
      · cases h
  · -- aa
    match args, h with
    | [x, i], h =>
      simp only [aaV] at h ⊢
      split at h
      · exact h
      · rename_i id p ik q
        split at h
        · rename_i q hq; simp only [key _ _ hq]; exact h
        · cases h
      · cases h
  · -- ld
    match args, h with
    | [x], h =>
      simp only [ldV] at h ⊢
      split at h
      · exact h
      · rename_i id p
        split at h
        · rename_i q hq; simp only [key _ _ hq]; exact h
        · cases h
      · cases h
  · -- lx
    match args, h with
    | [x], h =>
      simp only [ldV] at h ⊢
      split at h
      · rename_i hoff
        rw [if_pos hoff]
        split at h
        · exact h
        · rename_i id p
          split at h
          · rename_i q hq; simp only [key _ _ hq]; exact h
          · cases h
        · cases h
      · cases h
  · -- fx
    match args, h with
    | [x], h =>
      simp only [faV] at h ⊢
      split at h
      · rename_i hoff
        rw [if_pos hoff]
        split at h
        · exact h
        · rename_i id p
          split at h
          · rename_i q hq; simp only [key _ _ hq]; exact h
          · cases h
        · cases h
      · cases h

theorem S_stable {E : Ext} {po : PO} {args : List V} {f : List V → (Nat → Option V) → Option (Nat × V × V)} (hk : po.kd E = .S f) {bx : Nat → Option V} {d : Nat} {c : V} {v : Nat × V × V} (hd : bx d = none) (h : f args bx = some v) : f args (upd bx d (some c)) = some v := by
  have key : ∀ id x, bx id = some x → upd bx d (some c) id = some x := by
    intro id x hx
    unfold upd
    rw [if_neg]
    · exact hx
    · rintro rfl; rw [hd] at hx; cases hx
  cases po <;> simp only [PO.kd, reduceCtorEq] at hk <;> cases hk
  · match args, h with
    | [x, y], h =>
      simp only [stV] at h ⊢
      split at h
      · rename_i id p
        split at h
        · rename_i q hq; simp only [key _ _ hq]; exact h
        · cases h
      · cases h
  · simp only [cbV] at h ⊢
    split at h
    · split at h
      · rename_i ct hq; simp only [key _ _ hq]; exact h
      · cases h
    · cases h
  · match args, h with
    | [x], h =>
      simp only [nextV] at h ⊢
      split at h
      · rename_i id
        split at h
        · rename_i l pos hq; simp only [key _ _ hq]; exact h
        · cases h
      · cases h
  · match args, h with
    | [x, y], h =>
      simp only [stV] at h ⊢
      split at h
      · rename_i hon
        rw [if_pos hon]
        split at h
        · rename_i id p
          split at h
          · rename_i q hq; simp only [key _ _ hq]; exact h
          · cases h
        · cases h
      · cases h

theorem F_stable {E : Ext} {po : PO} {args : List V} {f : List V → (Nat → Option (TypeId × Nat)) → Option (Nat × TypeId × List V)} (hk : po.kd E = .F f) {fr : Nat → Option (TypeId × Nat)} {d : Nat} {c : TypeId × Nat} {v : Nat × TypeId × List V}
    (hd : fr d = none) (h : f args fr = some v) : f args (upd fr d (some c)) = some v := by
  have key : ∀ id x, fr id = some x → upd fr d (some c) id = some x := by
    intro id x hx
    unfold upd
    rw [if_neg]
    · exact hx
    · rintro rfl; rw [hd] at hx; cases hx
  cases po <;> simp only [PO.kd, reduceCtorEq] at hk <;> cases hk
  match args, h with
  | [x, y], h =>
    simp only [apV] at h ⊢
    split at h
    · rename_i id e' es
      split at h
      · rename_i he
        rw [if_pos he]
        split at h
        · rename_i e'' n hq; simp only [key _ _ hq]; exact h
        · cases h
      · cases h
    · cases h


theorem upd_comm {α : Type} (f : Nat → α) {d d' : Nat} (v v' : α) (h : d ≠ d') : upd (upd f d v) d' v' = upd (upd f d' v') d v := by
  funext i
  unfold upd
  by_cases h1 : i = d
  · subst h1; rw [if_neg h, if_pos rfl, if_pos rfl]
  · rw [if_neg h1, if_neg h1]

theorem updO_none {α : Type} {f : Nat → Option α} {x : Option (Nat × α)} {d : Nat} (h : updO f x d = none) : f d = none := by
  cases x with
  | none => exact h
  | some y =>
    obtain ⟨d', v⟩ := y
    simp only [updO, upd] at h
    split at h
    · cases h
    · exact h

/-- What an operation writes, by its class. -/
theorem effK_form {dst : Option Nat} {args : List V} {kd : Kd} {bx : Nat → Option V} {fr : Nat → Option (TypeId × Nat)} {e : Eff} (h : effK dst args kd bx fr = some e) :
    match kd.cl with
    | .P | .L => e.bx = none ∧ e.fr = none
    | .S => e.fr = none ∧ ∃ id c x, e.bx = some (id, c) ∧ bx id = some x
    | .A => e.fr = none ∧ ∃ d c, dst = some d ∧ e.bx = some (d, c) ∧ bx d = none
    | .N => e.bx = none ∧ ∃ d c, dst = some d ∧ e.fr = some (d, c) ∧ fr d = none
    | .F => e.bx = none ∧ ∃ id c x, e.fr = some (id, c) ∧ fr id = some x
    | .C => True := by
  cases kd <;> simp only [effK, Kd.cl] at h ⊢
  · split at h
    · cases h; exact ⟨rfl, rfl⟩
    · cases h
  · split at h
    · cases h; exact ⟨rfl, rfl⟩
    · cases h
  · split at h
    · rename_i id c r _
      split at h
      · rename_i x hx; cases h; exact ⟨rfl, id, c, x, rfl, hx⟩
      · cases h
    · cases h
  · split at h
    · rename_i d
      split at h
      · cases h
      · rename_i hn
        split at h
        · rename_i c _; cases h; exact ⟨rfl, d, c, rfl, rfl, hn⟩
        · cases h
    · cases h
  · split at h
    · rename_i d
      split at h
      · cases h
      · rename_i hn
        split at h
        · rename_i e1 es _; cases h; exact ⟨rfl, d, _, rfl, rfl, hn⟩
        · cases h
    · cases h
  · split at h
    · rename_i id e1 es _
      split at h
      · rename_i x hx; cases h; exact ⟨rfl, id, _, x, rfl, hx⟩
      · cases h
    · cases h

/-- Other tables, the same effect. -/
theorem effK_congr {E : Ext} {po : PO} {dst : Option Nat} {args : List V} {bx bx' : Nat → Option V} {fr fr' : Nat → Option (TypeId × Nat)} {e : Eff} (h : effK dst args (po.kd E) bx fr = some e)
    (hb : match (po.kd E).cl with
      | .L | .S => bx' = bx ∨ ∃ d c, bx d = none ∧ bx' = upd bx d (some c)
      | .A => ∀ d, dst = some d → bx' d = none
      | .C => bx' = bx
      | _ => True)
    (hf : match (po.kd E).cl with
      | .F => fr' = fr ∨ ∃ d c, fr d = none ∧ fr' = upd fr d (some c)
      | .N => ∀ d, dst = some d → fr' d = none
      | .C => fr' = fr
      | _ => True) : effK dst args (po.kd E) bx' fr' = some e := by
  cases hk : po.kd E <;> simp only [hk, Kd.cl, effK] at h hb hf ⊢
  · exact h
  · rcases hb with rfl | ⟨d, c, hd, rfl⟩
    · exact h
    · split at h
      · rename_i v hv; simp only [L_stable hk hd hv]; exact h
      · cases h
  · rcases hb with rfl | ⟨d, c, hd, rfl⟩
    · exact h
    · split at h
      · rename_i id c' r hv
        simp only [S_stable hk hd hv]
        split at h
        · rename_i x hx
          have : upd bx d (some c) id = some x := by
            unfold upd
            rw [if_neg]
            · exact hx
            · rintro rfl; rw [hd] at hx; cases hx
          simp only [this]
          exact h
        · cases h
      · cases h
  · cases dst with
    | none => exact h
    | some d =>
      simp only [hb d rfl] at h ⊢
      split at h
      · cases h
      · exact h
  · cases dst with
    | none => exact h
    | some d =>
      simp only [hf d rfl] at h ⊢
      split at h
      · cases h
      · exact h
  · rcases hf with rfl | ⟨d, c, hd, rfl⟩
    · exact h
    · split at h
      · rename_i id e' es hv
        simp only [F_stable hk hd hv]
        split at h
        · rename_i x hx
          have : upd fr d (some c) id = some x := by
            unfold upd
            rw [if_neg]
            · exact hx
            · rintro rfl; rw [hd] at hx; cases hx
          simp only [this]
          exact h
        · cases h
      · cases h
  · subst hb hf
    exact h

theorem effK_swap {E : Ext} {p q : PO} {dp dq : Option Nat} {ap aq : List V} {bx : Nat → Option V} {fr : Nat → Option (TypeId × Nat)} {ep eq : Eff} (hdd : ∀ d, dp = some d → dq ≠ some d) (hcl : okPair p.cl q.cl = true)
    (hp : effK dp ap (p.kd E) bx fr = some ep) (hq : effK dq aq (q.kd E) (updO bx ep.bx) (updO fr ep.fr) = some eq) :
    effK dq aq (q.kd E) bx fr = some eq ∧ effK dp ap (p.kd E) (updO bx eq.bx) (updO fr eq.fr) = some ep ∧
      updO (updO bx ep.bx) eq.bx = updO (updO bx eq.bx) ep.bx ∧ updO (updO fr ep.fr) eq.fr = updO (updO fr eq.fr) ep.fr := by
  rw [← PO.kd_cl E p, ← PO.kd_cl E q] at hcl
  have fp := effK_form hp
  have fq := effK_form hq
  have hq0 : effK dq aq (q.kd E) bx fr = some eq := by
    refine effK_congr hq ?_ ?_
    · revert fp hcl
      cases hkp : (p.kd E).cl <;> cases hkq : (q.kd E).cl <;> simp only [okPair, Bool.false_eq_true, false_implies, implies_true] <;> intro _ fp
      all_goals first
        | (rw [fp.1]; rfl)
        | (left; rw [fp.1]; rfl)
        | (left; rw [fp.2.1]; rfl)
        | (intro d hd; rw [hkq] at fq; obtain ⟨_, d', c, h1, _, h2⟩ := fq; rw [hd] at h1; cases h1; exact updO_none h2)
    · revert fp hcl
      cases hkp : (p.kd E).cl <;> cases hkq : (q.kd E).cl <;> simp only [okPair, Bool.false_eq_true, false_implies, implies_true] <;> intro _ fp
      all_goals first
        | (rw [fp.2]; rfl)
        | (left; rw [fp.1]; rfl)
        | (left; rw [fp.2]; rfl)
        | (intro d hd; rw [hkq] at fq; obtain ⟨_, d', c, h1, _, h2⟩ := fq; rw [hd] at h1; cases h1; exact updO_none h2)
  have fq0 := effK_form hq0
  refine ⟨hq0, effK_congr hp ?_ ?_, ?_, ?_⟩
  · revert fp fq0 hcl
    cases hkp : (p.kd E).cl <;> cases hkq : (q.kd E).cl <;> simp only [okPair, Bool.false_eq_true, false_implies, implies_true] <;> intro _ fp fq0
    all_goals first
      | (rw [fq0.1]; rfl)
      | (left; rw [fq0.1]; rfl)
      | (obtain ⟨_, d', c, h1, h2, h3⟩ := fq0; right; exact ⟨d', c, h3, by rw [h2]; rfl⟩)
      | (intro d hd; obtain ⟨_, d0, c0, h0, _, h00⟩ := fp; rw [hd] at h0; cases h0; rw [fq0.1]; exact h00)
      | (intro d hd; obtain ⟨_, d0, c0, h0, _, h00⟩ := fp; rw [hd] at h0; cases h0; obtain ⟨_, d', c, h1, h2, h3⟩ := fq0; rw [h2]; show upd bx d' (some c) d = none; unfold upd; rw [if_neg (fun (e : d = d') => hdd d hd (e ▸ h1))]; exact h00)
  · revert fp fq0 hcl
    cases hkp : (p.kd E).cl <;> cases hkq : (q.kd E).cl <;> simp only [okPair, Bool.false_eq_true, false_implies, implies_true] <;> intro _ fp fq0
    all_goals first
      | (rw [fq0.2]; rfl)
      | (left; rw [fq0.2]; rfl)
      | (left; rw [fq0.1]; rfl)
      | (obtain ⟨_, d', c, h1, h2, h3⟩ := fq0; right; exact ⟨d', c, h3, by rw [h2]; rfl⟩)
      | (intro d hd; obtain ⟨_, d0, c0, h0, _, h00⟩ := fp; rw [hd] at h0; cases h0; rw [fq0.2]; exact h00)
      | (intro d hd; obtain ⟨_, d0, c0, h0, _, h00⟩ := fp; rw [hd] at h0; cases h0; rw [fq0.1]; exact h00)
      | (intro d hd; obtain ⟨_, d0, c0, h0, _, h00⟩ := fp; rw [hd] at h0; cases h0; obtain ⟨_, d', c, h1, h2, h3⟩ := fq0; rw [h2]; show upd fr d' (some c) d = none; unfold upd; rw [if_neg (fun (e : d = d') => hdd d hd (e ▸ h1))]; exact h00)
  · revert fp fq0 hcl
    cases hkp : (p.kd E).cl <;> cases hkq : (q.kd E).cl <;> simp only [okPair, Bool.false_eq_true, false_implies] <;> intro _ fp fq0
    all_goals first
      | (rw [fp.1]; rfl)
      | (rw [fq0.1]; rfl)
      | (obtain ⟨_, d, c, h1, h2, h2'⟩ := fp; obtain ⟨_, d', c', h3, h4, h5⟩ := fq0; rw [h2, h4]; refine upd_comm _ _ _ ?_; rintro rfl; exact hdd _ h1 h3)
      | (obtain ⟨_, id, c, x, h1, h2⟩ := fp; obtain ⟨_, d', c', h3, h4, h5⟩ := fq0; rw [h1, h4]; refine upd_comm _ _ _ ?_; rintro rfl; rw [h5] at h2; cases h2)
  · revert fp fq0 hcl
    cases hkp : (p.kd E).cl <;> cases hkq : (q.kd E).cl <;> simp only [okPair, Bool.false_eq_true, false_implies] <;> intro _ fp fq0
    all_goals first
      | (rw [fp.2]; rfl)
      | (rw [fp.1]; rfl)
      | (rw [fq0.2]; rfl)
      | (rw [fq0.1]; rfl)
      | (obtain ⟨_, d, c, h1, h2, h2'⟩ := fp; obtain ⟨_, d', c', h3, h4, h5⟩ := fq0; rw [h2, h4]; refine upd_comm _ _ _ ?_; rintro rfl; exact hdd _ h1 h3)
      | (obtain ⟨_, id, c, x, h1, h2⟩ := fp; obtain ⟨_, d', c', h3, h4, h5⟩ := fq0; rw [h1, h4]; refine upd_comm _ _ _ ?_; rintro rfl; rw [h5] at h2; cases h2)

theorem onV_some {b : Nat} {x : V} (h : onV b x = true) : ∃ p, x = .rf b p := by
  unfold onV at h
  split at h
  · rename_i id p
    exact ⟨p, by rw [Nat.eq_of_beq_eq_true h]⟩
  · cases h
/-- What a load finds does not depend on a box that it does not look at. -/
theorem ldV_off {bs : List Nat} {b : Nat} {t : Option TypeId} {x : V} {bx : Nat → Option V} {c : Option V} (hb : bs.contains b = true) (h : offV bs x = true) : ldV t x (upd bx b c) = ldV t x bx := by
  unfold ldV
  cases x with
  | rf id p =>
    have hne : id ≠ b := by
      rintro rfl
      simp only [offV, hb] at h
      cases h
    have : upd bx b c id = bx id := by unfold upd; rw [if_neg hne]
    simp only [this]
  | _ => rfl
theorem faV_off {bs : List Nat} {b : Nat} {t : TypeId} {f : Nat} {x : V} {bx : Nat → Option V} {c : Option V} (hb : bs.contains b = true) (h : offV bs x = true) : faV t f x (upd bx b c) = faV t f x bx := by
  by_cases hx : ∃ id p, x = .rf id p
  · obtain ⟨id, p, rfl⟩ := hx
    have hne : id ≠ b := by
      rintro rfl
      simp only [offV, hb] at h
      cases h
    have : upd bx b c id = bx id := by unfold upd; rw [if_neg hne]
    simp only [faV, this]
  · unfold faV
    split
    · rfl
    · rename_i id p
      exact absurd ⟨_, _, rfl⟩ hx
    · rfl
/-- A look. -/
def isLook (bs : List Nat) : PO → Bool
  | .lx bs' _ _ _ | .fx bs' _ _ _ _ => decide (bs' = bs)
  | _ => false
theorem look_form {E : Ext} {bs : List Nat} {p : PO} (hp : isLook bs p = true) {dst : Option Nat} {args : List V} {bx : Nat → Option V} {fr : Nat → Option (TypeId × Nat)} {e : Eff} (h : effK dst args (p.kd E) bx fr = some e) :
    e.bx = none ∧ e.fr = none ∧ ∀ b c fr', bs.contains b = true → effK dst args (p.kd E) (upd bx b c) fr' = some e := by
  cases p <;> simp only [isLook, Bool.false_eq_true] at hp <;> have hp := of_decide_eq_true hp <;> rw [hp] at h ⊢ <;> simp only [PO.kd, effK] at h ⊢
  all_goals
    match args, h with
    | [x], h =>
      simp only [] at h ⊢
      by_cases hoff : offV bs x = true
      · rw [if_pos hoff] at h
        refine ⟨?_, ?_, fun b c fr' hb => ?_⟩
        · split at h
          · cases h; rfl
          · cases h
        · split at h
          · cases h; rfl
          · cases h
        · rw [if_pos hoff]
          first
            | rw [ldV_off hb hoff]
            | rw [faV_off hb hoff]
          exact h
      · rw [if_neg hoff] at h
        cases h
theorem write_form {E : Ext} {b : Nat} {t : Option TypeId} {x y : X} {dst : Option Nat} {args : List V} {bx : Nat → Option V} {fr : Nat → Option (TypeId × Nat)} {e : Eff} (h : effK dst args ((PO.sx b t x y).kd E) bx fr = some e) :
    e.fr = none ∧ ∃ c, e.bx = some (b, c) := by
  simp only [PO.kd, effK] at h
  match args, h with
  | [u, v], h =>
    simp only [] at h
    by_cases hon : onV b u = true
    · rw [if_pos hon] at h
      obtain ⟨p, rfl⟩ := onV_some hon
      simp only [stV] at h
      split at h
      · rename_i id c r hv
        split at hv
        · split at hv
          · split at hv
            · cases hv
              split at h
              · cases h; exact ⟨rfl, _, rfl⟩
              · cases h
            · cases hv
          · cases hv
        · cases hv
      · cases h
    · rw [if_neg hon] at h
      cases h
theorem write_fr {E : Ext} {b : Nat} {t : Option TypeId} {x y : X} {dst : Option Nat} {args : List V} {bx : Nat → Option V} {fr fr' : Nat → Option (TypeId × Nat)} : effK dst args ((PO.sx b t x y).kd E) bx fr = effK dst args ((PO.sx b t x y).kd E) bx fr' := rfl
theorem upd_same8 {α : Type} {f : Nat → Option α} {d : Nat} {v : α} (h : f d = some v) : upd f d (some v) = f := by
  funext i
  unfold upd
  by_cases hi : i = d
  · rw [if_pos hi, hi, h]
  · rw [if_neg hi]
theorem still_form {E : Ext} {p : PO} (hp : stillB p = true) {dst : Option Nat} {args : List V} {bx : Nat → Option V} {fr : Nat → Option (TypeId × Nat)} {e : Eff} (h : effK dst args (p.kd E) bx fr = some e) :
    updO bx e.bx = bx ∧ updO fr e.fr = fr := by
  by_cases hc : ∃ d f k xs, p = .cw d f k xs
  · obtain ⟨d, f, k, xs, rfl⟩ := hc
    have key : ∀ y, bldV (E.b f) k args bx fr = some y → bx y.1 = some y.2.1 ∧ fr y.2.2.1 = some y.2.2.2.1 := by
      intro y hy
      unfold bldV at hy
      split at hy
      · split at hy
        · rename_i hb
          split at hy
          · rename_i hf
            split at hy
            · rename_i hcnd
              obtain ⟨⟨rfl, rfl⟩, ⟨rfl, rfl⟩, _, _⟩ := hcnd
              split at hy
              · rename_i hr
                cases hy
                cases k with
                | len | str =>
                  unfold bldR at hr
                  split at hr <;> first | contradiction | (cases hr; exact ⟨hb, hf⟩)
                | _ => cases hp
              · cases hy
            · cases hy
          · cases hy
        · cases hy
      · cases hy
    have h : (match bldV (E.b f) k args bx fr with
      | some (id, c, r, x, v) => some (⟨v, some (id, c), some (r, x)⟩ : Eff)
      | none => none) = some e := h
    split at h
    · rename_i hv
      cases h
      obtain ⟨h1, h2⟩ := key _ hv
      exact ⟨upd_same8 h1, upd_same8 h2⟩
    · cases h
  · have hc2 : p.cl = .L ∨ p.cl = .P := by
      unfold stillB at hp
      split at hp
      · exact absurd ⟨_, _, _, _, rfl⟩ hc
      · split at hp
        · rename_i h1; exact .inl h1
        · rename_i h1; exact .inr h1
        · cases hp
    have f := effK_form h
    rw [PO.kd_cl] at f
    rcases hc2 with h1 | h1 <;> rw [h1] at f <;> rw [f.1, f.2] <;> exact ⟨rfl, rfl⟩
theorem effK_still {E : Ext} {p q : PO} {dp dq : Option Nat} {ap aq : List V} {bx : Nat → Option V} {fr : Nat → Option (TypeId × Nat)} {ep eq : Eff} (hp1 : stillB p = true) (hq1 : stillB q = true)
    (hp : effK dp ap (p.kd E) bx fr = some ep) (hq : effK dq aq (q.kd E) (updO bx ep.bx) (updO fr ep.fr) = some eq) :
    effK dq aq (q.kd E) bx fr = some eq ∧ effK dp ap (p.kd E) (updO bx eq.bx) (updO fr eq.fr) = some ep ∧
      updO (updO bx ep.bx) eq.bx = updO (updO bx eq.bx) ep.bx ∧ updO (updO fr ep.fr) eq.fr = updO (updO fr eq.fr) ep.fr := by
  obtain ⟨h1, h2⟩ := still_form hp1 hp
  rw [h1, h2] at hq
  obtain ⟨h3, h4⟩ := still_form hq1 hq
  rw [h1, h2, h3, h4]
  exact ⟨hq, hp, h1.symm, h2.symm⟩
theorem effK_off {E : Ext} {p q : PO} {dp dq : Option Nat} {ap aq : List V} {bx : Nat → Option V} {fr : Nat → Option (TypeId × Nat)} {ep eq : Eff} (ho : offPair p q = true)
    (hp : effK dp ap (p.kd E) bx fr = some ep) (hq : effK dq aq (q.kd E) (updO bx ep.bx) (updO fr ep.fr) = some eq) :
    effK dq aq (q.kd E) bx fr = some eq ∧ effK dp ap (p.kd E) (updO bx eq.bx) (updO fr eq.fr) = some ep ∧
      updO (updO bx ep.bx) eq.bx = updO (updO bx eq.bx) ep.bx ∧ updO (updO fr ep.fr) eq.fr = updO (updO fr eq.fr) ep.fr := by
  by_cases hst : stillB p = true ∧ stillB q = true
  · exact effK_still hst.1 hst.2 hp hq
  replace ho : offPair0 p q = true := by
    unfold offPair at ho
    rcases Bool.or_eq_true _ _ ▸ ho with h | h
    · exact h
    · exact absurd (Bool.and_eq_true _ _ ▸ h) hst
  have key : (∃ bs b, isLook bs p = true ∧ (∃ t x y, q = .sx b t x y) ∧ bs.contains b = true) ∨ (∃ bs b, isLook bs q = true ∧ (∃ t x y, p = .sx b t x y) ∧ bs.contains b = true) := by
    unfold offPair0 at ho
    split at ho
    · exact .inl ⟨_, _, by simp [isLook], ⟨_, _, _, rfl⟩, ho⟩
    · exact .inr ⟨_, _, by simp [isLook], ⟨_, _, _, rfl⟩, ho⟩
    · exact .inl ⟨_, _, by simp [isLook], ⟨_, _, _, rfl⟩, ho⟩
    · exact .inr ⟨_, _, by simp [isLook], ⟨_, _, _, rfl⟩, ho⟩
    · cases ho
  rcases key with ⟨bs, b, hl, ⟨t, x, y, rfl⟩, hb⟩ | ⟨bs, b, hl, ⟨t, x, y, rfl⟩, hb⟩
  · obtain ⟨e1, e2, e3⟩ := look_form hl hp
    rw [e1, e2] at hq ⊢
    obtain ⟨f1, c, f2⟩ := write_form hq
    refine ⟨hq, ?_, rfl, rfl⟩
    rw [f2]
    exact e3 b (some c) _ hb
  · obtain ⟨f1, c, f2⟩ := write_form hp
    rw [f2, f1] at hq ⊢
    have hq' := hq
    -- the look before the write
    have back : upd (upd bx b (some c)) b (bx b) = bx := by
      funext i
      unfold upd
      by_cases h : i = b
      · rw [if_pos h, h]
      · rw [if_neg h, if_neg h]
    obtain ⟨e1, e2, e3⟩ := look_form hl hq'
    have h0 := e3 b (bx b) fr hb
    simp only [updO] at h0
    rw [back] at h0
    rw [e1, e2]
    exact ⟨h0, hp, rfl, rfl⟩

end Go.Nu
/-
  NU, text 19: a region, in whatever order its edges allow, comes to what its operations do in the order of the text.
-/
namespace Go.Nu
open Go Go.RowKit

def modeG (pg : PG) (s : Nat → V) : Option Bool :=
  match pg.g with
  | none => some true
  | some (j, want) => guardV (s j) want

theorem effG_mode (E : Ext) (pg : PG) (s : Nat → V) (bx : Nat → Option V) (fr : Nat → Option (TypeId × Nat)) : effG E pg s bx fr = match modeG pg s with
    | some true => effK pg.po.dst (pg.po.args.map (X.ev ⟨s, bx, fr⟩)) (pg.po.kd E) bx fr
    | some false => some ⟨.tup [], none, none⟩
    | none => none := by
  unfold effG modeG
  cases pg.g with
  | none => rfl
  | some x => obtain ⟨j, want⟩ := x; rfl

theorem mode_slots {pg : PG} {s s' : Nat → V} (h : ∀ i ∈ pg.reads, s' i = s i) : modeG pg s' = modeG pg s := by
  unfold modeG
  cases hg : pg.g with
  | none => rfl
  | some x => obtain ⟨j, want⟩ := x; simp only []; rw [h j (by simp [PG.reads, hg])]

theorem app_comm {dx dy : Option Nat} {ex ey : Eff} {st : St} (hd : apartD dx dy.toList = true) (h1 : updO (updO st.bx ex.bx) ey.bx = updO (updO st.bx ey.bx) ex.bx) (h2 : updO (updO st.fr ex.fr) ey.fr = updO (updO st.fr ey.fr) ex.fr) :
    app dy ey (app dx ex st) = app dx ex (app dy ey st) := by
  unfold app
  have e1 : ∀ (d : Option Nat) (v : V) (s : St), (s.putO d v).bx = s.bx := fun d v s => by cases d <;> rfl
  have e2 : ∀ (d : Option Nat) (v : V) (s : St), (s.putO d v).fr = s.fr := fun d v s => by cases d <;> rfl
  simp only [e1, e2, h1, h2]
  cases dx with
  | none => cases dy <;> rfl
  | some a =>
    cases dy with
    | none => rfl
    | some b =>
      have hab : a ≠ b := by
        intro e
        subst e
        simp [apartD] at hd
      simp only [St.putO, St.put]
      congr 1
      exact upd_comm _ _ _ hab

theorem stepG_swap {E : Ext} {x y : PG} {st st1 st2 : St} (h : indep x y = true) (hx : stepG E x st = some st1) (hy : stepG E y st1 = some st2) : ∃ st1', stepG E y st = some st1' ∧ stepG E x st1' = some st2 := by
  unfold indep at h
  simp only [Bool.and_eq_true] at h
  obtain ⟨⟨⟨h1, h2⟩, h3⟩, h4⟩ := h
  rw [stepG_eff] at hx hy
  simp only [Option.map_eq_some_iff] at hx hy
  obtain ⟨ex, gx, rfl⟩ := hx
  obtain ⟨ey, gy, rfl⟩ := hy
  rw [app_bx, app_fr, effG_slots (app_slots h1)] at gy
  have key : effG E y st.s st.bx st.fr = some ey ∧ effG E x st.s (updO st.bx ey.bx) (updO st.fr ey.fr) = some ex ∧
      updO (updO st.bx ex.bx) ey.bx = updO (updO st.bx ey.bx) ex.bx ∧ updO (updO st.fr ex.fr) ey.fr = updO (updO st.fr ey.fr) ex.fr := by
    rw [effG_mode] at gx gy
    rw [effG_mode, effG_mode]
    have hev : ∀ (pg : PG) (bx bx' : Nat → Option V) (fr fr' : Nat → Option (TypeId × Nat)), pg.po.args.map (X.ev ⟨st.s, bx, fr⟩) = pg.po.args.map (X.ev ⟨st.s, bx', fr'⟩) := fun pg _ _ _ _ => ev_congr fun _ _ => rfl
    cases hmx : modeG x st.s with
    | none => rw [hmx] at gx; cases gx
    | some bx =>
      cases hmy : modeG y st.s with
      | none => rw [hmy] at gy; cases gy
      | some by' =>
        rw [hmx] at gx
        rw [hmy] at gy
        cases bx with
        | false =>
          obtain rfl := Option.some.inj gx
          refine ⟨?_, rfl, rfl, rfl⟩
          cases by' with
          | false => exact gy
          | true => exact gy
        | true =>
          cases by' with
          | false =>
            obtain rfl := Option.some.inj gy
            exact ⟨rfl, gx, rfl, rfl⟩
          | true =>
            simp only [] at gx gy ⊢
            rw [hev y _ st.bx _ st.fr] at gy
            rw [hev x (updO st.bx ey.bx) st.bx (updO st.fr ey.fr) st.fr]
            rcases Bool.or_eq_true _ _ |>.mp h4 with h5 | h5
            · exact effK_swap (fun d hd hd' => by simp [apartD, hd, hd'] at h3) h5 gx gy
            · exact effK_off h5 gx gy
  obtain ⟨k1, k2, k3, k4⟩ := key
  refine ⟨app y.po.dst ey st, by rw [stepG_eff, k1]; rfl, ?_⟩
  rw [stepG_eff, app_bx, app_fr, effG_slots (app_slots h2), k2]
  simp only [Option.map_some, Option.some.injEq]
  exact (app_comm h3 k3 k4).symm

/-- The operations at these places, one after the other. -/
def evalI (E : Ext) (pgs : List PG) : List Nat → St → Option St
  | [], st => some st
  | i :: r, st => match pgs[i]? with
    | none => none
    | some pg => match stepG E pg st with
      | some st' => evalI E pgs r st'
      | none => none

theorem evalI_front {E : Ext} {pgs : List PG} {i : Nat} {x : PG} (hx : pgs[i]? = some x) : ∀ (R1 R2 : List Nat) (st stF : St), (∀ j ∈ R1, ∃ y, pgs[j]? = some y ∧ indep y x = true) → evalI E pgs (R1 ++ i :: R2) st = some stF → evalI E pgs (i :: (R1 ++ R2)) st = some stF
  | [], R2, st, stF, _, h => h
  | j :: R1, R2, st, stF, hj, h => by
    obtain ⟨y, hy, hind⟩ := hj j (by simp)
    simp only [List.cons_append, evalI, hy] at h
    split at h
    · rename_i st1 h1
      have h2 := evalI_front hx R1 R2 st1 stF (fun k hk => hj k (by simp [hk])) h
      simp only [evalI, hx] at h2
      split at h2
      · rename_i st2 h3
        obtain ⟨st1', g1, g2⟩ := stepG_swap hind h1 h3
        simp only [List.cons_append, evalI, hx, g1, hy, g2]
        exact h2
      · cases h2
    · cases h

section
variable {P : Program} {nz : List TypeId} {n : Nat} {w0 w w' : World} {LX : Nat → Prop} {df : Df} {S0 S S' : Nat → Nat → Prop} {bm : Bm} {ow ow' : Ow} {st st' : St} {a : Act} {o : Oper} {E : Ext}

/-- What the compiler does not know stands still: it must not be come to. -/
def compileO (P : Program) (nz : List TypeId) (o : Oper) : PO :=
  match compileOp P nz o with
  | some po => po
  | none => .no o.dst

/-- This number, and more, among the hints of nz: a slot that is not written. -/
def pinT : Nat := 70000000
def PinOk (nz : List TypeId) (df : Df) : Prop := ∀ d, df.pin d ≠ none → nz.contains (pinT + d) = true
theorem PinOk.nil (nz : List TypeId) : PinOk nz Df.nil := fun _ h => (h rfl).elim
/-- The compiled operation. -/
def compileG (P : Program) (nz : List TypeId) (n : Nat) (ops : Array Oper) (o : Oper) : Option PG :=
  match some (compileO P nz o), (match o.dst with | none => true | some d => decide (d < n) && !nz.contains (pinT + d)), o.guard with
  | some po, true, none => some ⟨none, po⟩
  | some po, true, some (j, want) => match (ops[j]?).bind (·.dst) with
    | some g => if g < n then some ⟨some (g, want), po⟩ else none
    | none => none
  | _, _, _ => none

def compileL (P : Program) (nz : List TypeId) (n : Nat) (ops : Array Oper) : List Oper → Option (List PG)
  | [] => some []
  | o :: os => match compileG P nz n ops o, compileL P nz n ops os with
    | some pg, some pgs => some (pg :: pgs)
    | _, _ => none

theorem compileL_get : ∀ {l : List Oper} {pgs : List PG} {ops : Array Oper}, compileL P nz n ops l = some pgs → l.length = pgs.length ∧ ∀ (i : Nat) (o : Oper), l[i]? = some o → ∃ pg, pgs[i]? = some pg ∧ compileG P nz n ops o = some pg
  | [], pgs, ops, h => by simp [compileL] at h; subst h; exact ⟨rfl, fun i o hi => by simp at hi⟩
  | o :: os, pgs, ops, h => by
    simp only [compileL] at h
    split at h
    · rename_i pg pgs' h1 h2
      cases h
      obtain ⟨g1, g2⟩ := compileL_get h2
      refine ⟨by simp [g1], fun i o' hi => ?_⟩
      cases i with
      | zero => simp at hi; subst hi; exact ⟨pg, rfl, h1⟩
      | succ i => simpa using g2 i o' (by simpa using hi)
    · cases h

theorem compileOp_dst {po : PO} (h : compileOp P nz o = some po) : po.dst = o.dst := by
  unfold compileOp at h
  split at h
  all_goals (try (repeat' (split at h)))
  all_goals first
    | (cases h; done)
    | (obtain rfl := Option.some.inj h; simp_all [PO.dst])

theorem compileO_dst : (compileO P nz o).dst = o.dst := by
  unfold compileO
  split
  · rename_i po h; exact compileOp_dst h
  · rfl

theorem sim_opO (hE : ExtOk P w0 LX E) (hs : Sim P n w0 LX df S0 S bm ow st a w) (hd : ∀ k, o.dst = some k → OkD df n k) (h : step1 E (compileO P nz o) st = some st') (Q : Exit → Act → World → Prop) : o.wp P a w (SimE P n w0 LX df S0 st') Q := by
  unfold compileO at h
  split at h
  · rename_i po hc; exact sim_op hE hs hc hd h Q
  · exfalso
    simp [step1, PO.kd, stepK] at h

theorem sim_at {ops : Array Oper} {i : Nat} {pg : PG} (hpn : PinOk nz df) (hE : ExtOk P w0 LX E) (hi : ops[i]? = some o) (hpg : compileG P nz n ops o = some pg) (hst : stepG E pg st = some st') (hs : Sim P n w0 LX df S0 S bm ow st a w)
    {K : Act → World → Prop} {Q : Exit → Act → World → Prop} (hK : ∀ a w, SimE P n w0 LX df S0 st' a w → K a w) : wpOp P ops Q i K a w := by
  unfold wpOp
  simp only [hi]
  have hd : ∀ {po : PO}, (match o.dst with | none => true | some d => decide (d < n) && !nz.contains (pinT + d)) = true → ∀ k, o.dst = some k → OkD df n k := by
    intro po h k hk
    rw [hk] at h
    simp only [Bool.and_eq_true, decide_eq_true_eq, Bool.not_eq_true'] at h
    refine ⟨h.1, ?_⟩
    cases hq : df.pin k with
    | none => rfl
    | some v =>
      have := hpn k (by rw [hq]; simp)
      rw [this] at h
      cases h.2
  unfold compileG at hpg
  split at hpg
  · rename_i po h1 h2 h3
    obtain rfl := Option.some.inj h1
    cases hpg
    have hw : Region.wanted o (yielded ops a.tmps) = true := by simp [Region.wanted, h3]
    rw [if_pos hw]
    exact .inl (Oper.wp_mono hK (sim_opO hE hs (hd (po := compileO P nz o) h2) hst Q))
  · rename_i po j want h1 h2 h3
    obtain rfl := Option.some.inj h1
    split at hpg
    · rename_i g hg
      split at hpg
      · rename_i hgn
        cases hpg
        have hslot := hs.slot g
        have hget : a.tmps[g]? = some (a.tmps.getD g undef) := by
          rw [Array.getD_eq_getD_getElem?, Array.getElem?_eq_getElem (by rw [hs.size]; exact hgn)]
          rfl
        have hy : yielded ops a.tmps j = match a.tmps.getD g undef with | .bool b => some b | _ => none := by
          unfold yielded
          rw [hg]
          simp only [Option.bind_some, hget]
          cases a.tmps.getD g undef <;> rfl
        simp only [stepG] at hst
        cases hv : st.s g with
        | bool b =>
          rw [hv] at hslot hst
          have hc := rep_bool hslot
          rw [hc] at hy
          simp only [guardV] at hst
          have hw : Region.wanted o (yielded ops a.tmps) = (b == want) := by
            simp only [Region.wanted, h3, hy]
            cases b <;> cases want <;> rfl
          rw [hw]
          cases hbw : b == want with
          | true =>
            rw [hbw] at hst
            rw [if_pos rfl]
            exact .inl (Oper.wp_mono hK (sim_opO hE hs (hd (po := compileO P nz o) h2) hst Q))
          | false =>
            rw [hbw] at hst
            obtain rfl := Option.some.inj hst
            rw [if_neg (by simp)]
            refine hK _ _ ⟨S, bm, ow, ?_⟩
            rw [compileO_dst]
            exact hs.putO (hd (po := compileO P nz o) h2) ⟨[], rfl, trivial⟩
        | tup vs =>
          rw [hv] at hslot hst
          cases vs with
          | nil =>
            obtain ⟨cs, hc, h0⟩ := hslot
            cases cs with
            | cons _ _ => exact h0.elim
            | nil =>
              rw [hc] at hy
              have hw : Region.wanted o (yielded ops a.tmps) = false := by
                simp only [Region.wanted, h3, hy]
                rfl
              rw [hw, if_neg (by simp)]
              obtain rfl := Option.some.inj hst
              refine hK _ _ ⟨S, bm, ow, ?_⟩
              rw [compileO_dst]
              exact hs.putO (hd (po := compileO P nz o) h2) ⟨[], rfl, trivial⟩
          | cons _ _ => simp [guardV] at hst
        | _ => rw [hv] at hst; simp [guardV] at hst
      · cases hpg
    · cases hpg
  · cases hpg

/-- In the order of the text. -/
theorem sim_list {ops : Array Oper} {pgs : List PG} {Q : Exit → Act → World → Prop} {stF : St} (hpn : PinOk nz df) (hE : ExtOk P w0 LX E) (hc : compileL P nz n ops ops.toList = some pgs) (hQ : ∀ a w, SimE P n w0 LX df S0 stF a w → Q .normal a w) :
    ∀ (R : List Nat) (st : St) (a : Act) (w : World), (∀ i ∈ R, i < ops.size) → evalI E pgs R st = some stF → SimE P n w0 LX df S0 st a w → wpOps P ops Q R a w
  | [], st, a, w, _, h, hs => by
    simp only [evalI, Option.some.injEq] at h
    subst h
    exact hQ a w hs
  | i :: R, st, a, w, hlt, h, ⟨S, bm, ow, hs⟩ => by
    simp only [evalI] at h
    split at h
    · cases h
    · rename_i pg hpg
      split at h
      · rename_i st1 h1
        rw [wpOps_cons]
        have hi : i < ops.size := hlt i (by simp)
        have ho : ops.toList[i]? = some ops[i] := by simp [hi]
        obtain ⟨pg', q1, q2⟩ := (compileL_get hc).2 i _ ho
        obtain rfl : pg' = pg := Option.some.inj (q1.symm.trans hpg)
        exact sim_at hpn hE (by simp [hi]) q2 h1 hs fun a' w' hs' => sim_list hpn hE hc hQ R st1 a' w' (fun k hk => hlt k (by simp [hk])) h hs'
      · cases h

def edgeOk (i : Nat) (o : Oper) : Bool := o.after.all fun e => !Region.binds .any e || decide (e.on < i)

/-- Every two operations are ordered by the edges, or may change places. -/
def orderOk (ops : Array Oper) (pgs : List PG) : Bool :=
  (List.range ops.size).all fun i => (match ops[i]? with | some o => edgeOk i o | none => false) && (List.range i).all fun j => (((Region.before ops).getD i 0).testBit j) || (match pgs[j]?, pgs[i]? with | some y, some x => indep y x | _, _ => false)

/-- A set of listed operations that holds all that its members wait for. -/
def Closed (ops : Array Oper) (listed : Array Bool) : Prop := ∀ i j, listed.getD i false = true → ((Region.before ops).getD i 0).testBit j = true → listed.getD j false = true

theorem foldl_bits {acc : Array Nat} {j : Nat} : ∀ {l : List Edge} {s : Nat}, (l.foldl (fun s e => if Region.binds .any e then s ||| 2 ^ e.on ||| acc.getD e.on 0 else s) s).testBit j = true →
    s.testBit j = true ∨ ∃ e ∈ l, Region.binds .any e = true ∧ (e.on = j ∨ (acc.getD e.on 0).testBit j = true)
  | [], s, h => .inl h
  | e :: l, s, h => by
    rw [List.foldl_cons] at h
    rcases foldl_bits h with h1 | ⟨e', he', h2⟩
    · by_cases hb : Region.binds .any e = true
      · rw [if_pos hb] at h1
        simp only [Nat.testBit_or, Bool.or_eq_true, Nat.testBit_two_pow, decide_eq_true_eq] at h1
        rcases h1 with (h1 | h1) | h1
        · exact .inl h1
        · exact .inr ⟨e, by simp, hb, .inl h1⟩
        · exact .inr ⟨e, by simp, hb, .inr h1⟩
      · rw [if_neg hb] at h1
        exact .inl h1
    · exact .inr ⟨e', by simp [he'], h2⟩

def beforeF (acc : Array Nat) (o : Oper) : Array Nat := acc.push (o.after.foldl (fun s e => if Region.binds .any e then s ||| 2 ^ e.on ||| acc.getD e.on 0 else s) 0)

theorem before_eq (ops : Array Oper) : Region.before ops = ops.toList.foldl beforeF #[] := by
  unfold Region.before
  rw [← Array.foldl_toList]
  rfl

theorem before_keep : ∀ (l : List Oper) (acc : Array Nat) (k : Nat), k < acc.size → (l.foldl beforeF acc).getD k 0 = acc.getD k 0
  | [], _, _, _ => rfl
  | o :: l, acc, k, h => by
    rw [List.foldl_cons, before_keep l _ k (by simp [beforeF]; omega)]
    simp only [beforeF, Array.getD_eq_getD_getElem?, Array.getElem?_push]
    rw [if_neg (by omega)]

theorem before_bits : ∀ (l : List Oper) (acc : Array Nat) (i j : Nat) (o : Oper), l[i]? = some o → (∀ e ∈ o.after, Region.binds .any e = true → e.on < acc.size + i) → ((l.foldl beforeF acc).getD (acc.size + i) 0).testBit j = true →
    ∃ e ∈ o.after, Region.binds .any e = true ∧ (e.on = j ∨ ((l.foldl beforeF acc).getD e.on 0).testBit j = true)
  | [], _, _, _, _, h, _, _ => by simp at h
  | o0 :: l, acc, 0, j, o, h, he, hb => by
    simp at h
    subst h
    rw [List.foldl_cons, before_keep l _ _ (by simp [beforeF])] at hb
    have h0 : (beforeF acc o0).getD (acc.size + 0) 0 = (o0.after.foldl (fun s e => if Region.binds .any e then s ||| 2 ^ e.on ||| acc.getD e.on 0 else s) 0) := by
      simp [beforeF]
    rw [h0, ← Array.foldl_toList] at hb
    rcases foldl_bits hb with h1 | ⟨e, he', h2, h3⟩
    · simp at h1
    · have hea : e ∈ o0.after := by simpa using he'
      refine ⟨e, hea, h2, h3.imp id fun h4 => ?_⟩
      have hlt := he e hea h2
      rw [before_keep (o0 :: l) acc e.on (by omega)]
      exact h4
  | o0 :: l, acc, i + 1, j, o, h, he, hb => by
    rw [List.foldl_cons] at hb ⊢
    have hsz : (beforeF acc o0).size = acc.size + 1 := by simp [beforeF]
    have e1 : acc.size + (i + 1) = (beforeF acc o0).size + i := by rw [hsz]; omega
    rw [e1] at hb
    exact before_bits l _ i j o (by simpa using h) (fun e hea hbi => by have := he e hea hbi; rw [hsz]; omega) hb

end
end Go.Nu
/-
  NU, text 20: a region that draws its order; the whole of a function's body; a contract out of a body.
-/
namespace Go.Nu
open Go Go.RowKit

section
variable {P : Program} {nz : List TypeId} {n : Nat} {w0 w w' : World} {LX : Nat → Prop} {df : Df} {S0 S S' : Nat → Nat → Prop} {bm : Bm} {ow ow' : Ow} {st st' : St} {a : Act} {o : Oper} {E : Ext}

theorem ready_spec {ops : Array Oper} {listed : Array Bool} {i : Nat} (h : i ∈ Region.ready .any ops listed) : ∃ o, ops[i]? = some o ∧ listed.getD i true = false ∧ ∀ e ∈ o.after, Region.binds .any e = true → listed.getD e.on false = true := by
  unfold Region.ready at h
  rw [List.mem_filter] at h
  obtain ⟨h1, h2⟩ := h
  simp only [Bool.and_eq_true, Bool.not_eq_true'] at h2
  cases ho : ops[i]? with
  | none => simp [ho] at h2
  | some o =>
    refine ⟨o, rfl, h2.1, fun e he hb => ?_⟩
    have := h2.2
    simp only [ho, Option.map_some, Option.getD_some, Array.all_eq_true'] at this
    have := this e he
    simpa [hb] using this

theorem ready_mk {ops : Array Oper} {listed : Array Bool} {i : Nat} (o : Oper) (ho : ops[i]? = some o) (hl : listed.getD i true = false) (he : ∀ e ∈ o.after, Region.binds .any e = true → listed.getD e.on false = true) : i ∈ Region.ready .any ops listed := by
  unfold Region.ready
  rw [List.mem_filter]
  refine ⟨List.mem_range.2 (Array.getElem?_eq_some_iff.1 ho).1, ?_⟩
  simp only [Bool.and_eq_true, Bool.not_eq_true', hl, ho, Option.map_some, Option.getD_some, Array.all_eq_true', true_and]
  intro e hea
  cases hb : Region.binds .any e
  · simp
  · simp [he e hea hb]

theorem orderOk_spec {ops : Array Oper} {pgs : List PG} (h : orderOk ops pgs = true) {i : Nat} {o : Oper} (ho : ops[i]? = some o) : (∀ e ∈ o.after, Region.binds .any e = true → e.on < i) ∧
    ∀ j, j < i → ((Region.before ops).getD i 0).testBit j = true ∨ ∃ y x, pgs[j]? = some y ∧ pgs[i]? = some x ∧ indep y x = true := by
  unfold orderOk at h
  rw [List.all_eq_true] at h
  have hi := (Array.getElem?_eq_some_iff.1 ho).1
  have := h i (List.mem_range.2 hi)
  simp only [ho, Bool.and_eq_true, List.all_eq_true, List.mem_range, Bool.or_eq_true] at this
  obtain ⟨h1, h2⟩ := this
  refine ⟨fun e he hb => ?_, fun j hj => ?_⟩
  · unfold edgeOk at h1
    simp only [Array.all_eq_true'] at h1
    simpa [hb] using h1 e he
  · rcases h2 j hj with h3 | h3
    · exact .inl h3
    · right
      split at h3
      · rename_i y x hy hx; exact ⟨y, x, hy, hx, h3⟩
      · cases h3

theorem set_getD {listed : Array Bool} {i k : Nat} {d : Bool} (hi : i < listed.size) : (listed.setIfInBounds i true).getD k d = if k = i then true else listed.getD k d := by
  simp only [Array.getD_eq_getD_getElem?, Array.getElem?_setIfInBounds]
  by_cases h : i = k
  · subst h; simp [hi]
  · rw [if_neg h, if_neg (fun e => h e.symm)]

/-- Loads and writes that say which boxes they look at. -/
theorem eaB_of_eaV {e : TypeId} {x i v : V} {bx : Nat → Option V} (h : eaV e x i = some v) : eaB e x i bx = some v := by
  unfold eaB
  split
  · exact (by unfold eaV at h; cases h)
  · exact h
def stBoxes : List PG → List Nat
  | [] => []
  | ⟨_, .st _ (.t b) _⟩ :: l => b :: stBoxes l
  | _ :: l => stBoxes l
def fixG (bs : List Nat) (pg : PG) : PG :=
  match pg.po with
  | .ld d t x => ⟨pg.g, .lx bs d t x⟩
  | .fa d t f x => ⟨pg.g, .fx bs d t f x⟩
  | .st t (.t b) y => ⟨pg.g, .sx b t (.t b) y⟩
  | .ea d e x i => ⟨pg.g, .gx d e x i⟩
  | _ => pg
def fixL (pgs : List PG) : List PG := pgs.map (fixG (stBoxes pgs))
theorem step_fix {bs : List Nat} {pg : PG} {st st1 : St} (h : stepG E (fixG bs pg) st = some st1) : stepG E pg st = some st1 := by
  obtain ⟨g, po⟩ := pg
  have key : ∀ po' : PO, po'.dst = po.dst → (∀ s, step1 E po' st = some s → step1 E po st = some s) → stepG E ⟨g, po'⟩ st = some st1 → stepG E ⟨g, po⟩ st = some st1 := by
    intro po' hd hs h
    unfold stepG at h ⊢
    cases g with
    | none => exact hs _ h
    | some x =>
      obtain ⟨j, want⟩ := x
      simp only [] at h ⊢
      cases hg : guardV (st.s j) want with
      | none => rw [hg] at h; cases h
      | some b =>
        rw [hg] at h
        cases b with
        | true => exact hs _ h
        | false => rw [← hd]; exact h
  unfold fixG at h
  split at h
  · rename_i d t x e
    simp only at e
    subst e
    refine key (.lx bs d t x) rfl (fun s hs => ?_) h
    simp only [step1, PO.dst, PO.args, PO.kd, List.map_cons, List.map_nil, stepK] at hs ⊢
    by_cases ho : offV bs (x.ev st) = true
    · simpa only [if_pos ho] using hs
    · simp only [if_neg ho] at hs; cases hs
  · rename_i d t f x e
    simp only at e
    subst e
    refine key (.fx bs d t f x) rfl (fun s hs => ?_) h
    simp only [step1, PO.dst, PO.args, PO.kd, List.map_cons, List.map_nil, stepK] at hs ⊢
    by_cases ho : offV bs (x.ev st) = true
    · simpa only [if_pos ho] using hs
    · simp only [if_neg ho] at hs; cases hs
  · rename_i t b y e
    simp only at e
    subst e
    refine key (.sx b t (.t b) y) rfl (fun s hs => ?_) h
    simp only [step1, PO.dst, PO.args, PO.kd, List.map_cons, List.map_nil, stepK] at hs ⊢
    by_cases ho : onV b ((X.t b).ev st) = true
    · simpa only [if_pos ho] using hs
    · simp only [if_neg ho] at hs; cases hs
  · rename_i d t x i e
    simp only at e
    subst e
    refine key (.gx d t x i) rfl (fun s hs => ?_) h
    simp only [step1, PO.dst, PO.args, PO.kd, List.map_cons, List.map_nil, stepK] at hs ⊢
    cases hv : eaV t (x.ev st) (i.ev st) with
    | none => rw [hv] at hs; cases hs
    | some v =>
      rw [hv] at hs
      rw [eaB_of_eaV hv]
      exact hs
  · exact h
theorem fixL_get {pgs : List PG} {i : Nat} {pg' : PG} (h : (fixL pgs)[i]? = some pg') : ∃ pg, pgs[i]? = some pg ∧ pg' = fixG (stBoxes pgs) pg := by
  unfold fixL at h
  rw [List.getElem?_map, Option.map_eq_some_iff] at h
  obtain ⟨pg, h1, h2⟩ := h
  exact ⟨pg, h1, h2.symm⟩

theorem any_sim {ops : Array Oper} {pgs pgs0 : List PG} {Q : Exit → Act → World → Prop} {stF : St} (hpn : PinOk nz df) (hE : ExtOk P w0 LX E) (hc : compileL P nz n ops ops.toList = some pgs0)
    (hfix : ∀ (i : Nat) (pg0 : PG), pgs0[i]? = some pg0 → ∃ pg : PG, pgs[i]? = some pg ∧ ∀ st st1, stepG E pg st = some st1 → stepG E pg0 st = some st1) (hord : orderOk ops pgs = true) (hQ : ∀ a w, SimE P n w0 LX df S0 stF a w → Q .normal a w) :
    ∀ (fuel : Nat) (listed : Array Bool) (R : List Nat) (st : St) (a : Act) (w : World), R.length = fuel → listed.size = ops.size → (∀ i, i ∈ R ↔ i < ops.size ∧ listed.getD i false = false) → R.Pairwise (· < ·) → Closed ops listed →
      evalI E pgs R st = some stF → SimE P n w0 LX df S0 st a w → wpAny P .any ops Q fuel listed a w := by
  intro fuel
  induction fuel with
  | zero =>
    intro listed R st a w hlen hsz hR _ _ hev hs
    have hR0 : R = [] := List.eq_nil_of_length_eq_zero hlen
    subst hR0
    simp only [evalI, Option.some.injEq] at hev
    subst hev
    refine ⟨?_, hQ a w hs⟩
    cases hr : Region.ready .any ops listed with
    | nil => rfl
    | cons i l =>
      have hi : i ∈ Region.ready .any ops listed := by rw [hr]; simp
      obtain ⟨o, ho, hl, _⟩ := ready_spec hi
      have hlt := (Array.getElem?_eq_some_iff.1 ho).1
      have := (hR i).2 ⟨hlt, by
        rw [Array.getD_eq_getD_getElem?, Array.getElem?_eq_getElem (by omega)] at hl ⊢
        simpa using hl⟩
      cases this
  | succ fuel ih =>
    intro listed R st a w hlen hsz hR hsort hcl hev hs
    have toT : ∀ k, k < ops.size → listed.getD k true = listed.getD k false := fun k hk => by
      rw [Array.getD_eq_getD_getElem?, Array.getD_eq_getD_getElem?, Array.getElem?_eq_getElem (by omega)]
      rfl
    refine ⟨fun hnil => ?_, fun i hi => ?_⟩
    · exfalso
      cases R with
      | nil => simp at hlen
      | cons m R =>
        obtain ⟨hm1, hm2⟩ := (hR m).1 (by simp)
        have ho : ops[m]? = some ops[m] := by simp [hm1]
        obtain ⟨h1, _⟩ := orderOk_spec hord ho
        have hin : m ∈ Region.ready .any ops listed := ready_mk _ ho (by rw [toT m hm1]; exact hm2) fun e he hb => by
          have hlt := h1 e he hb
          cases hq : listed.getD e.on false with
          | true => rfl
          | false =>
            have hmem := (hR e.on).2 ⟨by omega, hq⟩
            rcases List.mem_cons.1 hmem with h2 | h2
            · omega
            · have := (List.pairwise_cons.1 hsort).1 _ h2
              omega
        rw [hnil] at hin
        cases hin
    · obtain ⟨o, ho, hl, hedges⟩ := ready_spec hi
      have hlt := (Array.getElem?_eq_some_iff.1 ho).1
      have hiR := (hR i).2 ⟨hlt, by rw [← toT i hlt]; exact hl⟩
      obtain ⟨R1, R2, rfl⟩ := List.append_of_mem hiR
      obtain ⟨h1, h2⟩ := orderOk_spec hord ho
      obtain ⟨pg0, hpg0, hcg⟩ := (compileL_get hc).2 i o (by simpa using ho)
      obtain ⟨pg, hpg, href⟩ := hfix i pg0 hpg0
      have hs1 := List.pairwise_append.1 hsort
      have hfront := evalI_front (E := E) hpg R1 R2 st stF (fun j hj => by
        have hji : j < i := hs1.2.2 j hj i (by simp)
        rcases h2 j hji with hb | ⟨y, x, hy, hx, hind⟩
        · exfalso
          have hjl := ((hR j).1 (by simp [hj])).2
          rw [before_eq] at hb
          have hbb := before_bits ops.toList #[] i j o (by simpa using ho) (fun e he hb => by simpa using h1 e he hb) (by simpa using hb)
          obtain ⟨e, he, hbi, hor⟩ := hbb
          have hle := hedges e he hbi
          rcases hor with rfl | hor
          · rw [hjl] at hle; cases hle
          · rw [← before_eq] at hor
            have := hcl _ _ hle hor
            rw [hjl] at this; cases this
        · obtain rfl : x = pg := Option.some.inj (hx.symm.trans hpg)
          exact ⟨y, hy, hind⟩) hev
      simp only [evalI, hpg] at hfront
      split at hfront
      · rename_i st1 hst1
        obtain ⟨S, bm, ow, hs'⟩ := hs
        refine sim_at hpn hE ho hcg (href _ _ hst1) hs' fun a' w' hs2 => ?_
        have hi' : i < listed.size := by omega
        refine ih (listed.setIfInBounds i true) (R1 ++ R2) st1 a' w' ?_ (by simp [hsz]) (fun k => ?_) ?_ (fun x y hx hy => ?_) hfront hs2
        · simp at hlen ⊢; omega
        · rw [set_getD hi']
          have hk := hR k
          have hnot : i ∉ R1 ++ R2 := by
            intro hm
            rcases List.mem_append.1 hm with hm | hm
            · have := hs1.2.2 i hm i (by simp); omega
            · have := (List.pairwise_cons.1 hs1.2.1).1 i hm; omega
          by_cases hki : k = i
          · subst hki
            simp only [if_true, Bool.true_eq_false, and_false, iff_false]
            exact hnot
          · rw [if_neg hki, ← hk]
            simp [hki]
        · rw [List.pairwise_append]
          exact ⟨hs1.1, (List.pairwise_cons.1 hs1.2.1).2, fun x hx y hy => hs1.2.2 x hx y (by simp [hy])⟩
        · rw [set_getD hi'] at hx ⊢
          split
          · rfl
          · rename_i hyi
            split at hx
            · rename_i hxi
              subst hxi
              rw [before_eq] at hy
              have hbb := before_bits ops.toList #[] x y o (by simpa using ho) (fun e he hb => by simpa using h1 e he hb) (by simpa using hy)
              obtain ⟨e, he, hbi, hor⟩ := hbb
              have hle := hedges e he hbi
              rcases hor with rfl | hor
              · exact hle
              · rw [← before_eq] at hor
                exact hcl _ _ hle hor
            · exact hcl _ _ hx hy
      · cases hfront

theorem evalI_range {pgs : List PG} : ∀ (l : List PG) (k : Nat) (st : St), (∀ j, l[j]? = pgs[k + j]?) → evalI E pgs (List.range' k l.length) st = stepL E l st
  | [], _, _, _ => rfl
  | pg :: l, k, st, h => by
    have h0 : pgs[k]? = some pg := by simpa using (h 0).symm
    simp only [List.length_cons, List.range'_succ, evalI, h0, stepL]
    cases stepG E pg st with
    | none => rfl
    | some st1 => exact evalI_range l (k + 1) st1 fun j => by have := h (j + 1); simpa [Nat.add_assoc, Nat.add_comm 1 j] using this

/-- A region. -/
theorem sim_region {ops : Array Oper} {pgs : List PG} {id : Nat} {draw : Bool} {Q : Exit → Act → World → Prop} {stF : St} (hpn : PinOk nz df) (hE : ExtOk P w0 LX E) (hm : P.follows .mixedOrders = true) (hc : compileL P nz n ops ops.toList = some pgs)
    (hord : draw = true → orderOk ops pgs = true) (hev : stepL E pgs st = some stF) (hs : SimE P n w0 LX df S0 st a w) (hQ : ∀ a w, SimE P n w0 LX df S0 stF a w → Q .normal a w) : (Code.region id ops draw).wp P Q a w := by
  have hlen : ops.size = pgs.length := by simpa using (compileL_get hc).1
  have hev' : evalI E pgs (List.range ops.size) st = some stF := by
    rw [List.range_eq_range', hlen, evalI_range pgs 0 st (fun j => by simp)]
    exact hev
  cases draw with
  | false => exact wp_region (sim_list hpn hE hc hQ _ st a w (fun i hi => List.mem_range.1 hi) hev' hs)
  | true =>
    refine wp_region_any hm ?_
    refine any_sim hpn hE hc (fun i pg h => ⟨pg, h, fun _ _ h => h⟩) (hord rfl) hQ ops.size (Array.replicate ops.size false) (List.range ops.size) st a _ (by simp) (by simp) (fun i => ?_) List.pairwise_lt_range (fun i j h _ => ?_) hev' ?_
    · simp only [List.mem_range, Array.getD_eq_getD_getElem?, Array.getElem?_replicate]
      by_cases hi : i < ops.size <;> simp [hi]
    · simp only [Array.getD_eq_getD_getElem?, Array.getElem?_replicate] at h
      by_cases hi : i < ops.size <;> simp [hi] at h
    · obtain ⟨S, bm, ow, hs⟩ := hs
      exact ⟨S, bm, ow, hs.world rfl rfl rfl rfl⟩

/-- A region whose loads and writes say which boxes they look at. -/
theorem sim_regionF {ops : Array Oper} {pgs : List PG} {id : Nat} {Q : Exit → Act → World → Prop} {stF : St} (hpn : PinOk nz df) (hE : ExtOk P w0 LX E) (hm : P.follows .mixedOrders = true) (hc : compileL P nz n ops ops.toList = some pgs)
    (hord : orderOk ops (fixL pgs) = true) (hev : stepL E (fixL pgs) st = some stF) (hs : SimE P n w0 LX df S0 st a w) (hQ : ∀ a w, SimE P n w0 LX df S0 stF a w → Q .normal a w) : (Code.region id ops true).wp P Q a w := by
  have hlen0 : ops.size = pgs.length := by simpa using (compileL_get hc).1
  have hlen : ops.size = (fixL pgs).length := by rw [hlen0]; simp [fixL]
  have hev' : evalI E (fixL pgs) (List.range ops.size) st = some stF := by
    rw [List.range_eq_range', hlen, evalI_range (fixL pgs) 0 st (fun j => by simp)]
    exact hev
  refine wp_region_any hm ?_
  refine any_sim hpn hE hc (fun i pg h => ⟨fixG (stBoxes pgs) pg, by unfold fixL; rw [List.getElem?_map, h]; rfl, fun _ _ h => step_fix h⟩) hord hQ ops.size (Array.replicate ops.size false) (List.range ops.size) st a _ (by simp) (by simp) (fun i => ?_) List.pairwise_lt_range (fun i j h _ => ?_) hev' ?_
  · simp only [List.mem_range, Array.getD_eq_getD_getElem?, Array.getElem?_replicate]
    by_cases hi : i < ops.size <;> simp [hi]
  · simp only [Array.getD_eq_getD_getElem?, Array.getElem?_replicate] at h
    by_cases hi : i < ops.size <;> simp [hi] at h
  · obtain ⟨S, bm, ow, hs⟩ := hs
    exact ⟨S, bm, ow, hs.world rfl rfl rfl rfl⟩

end
end Go.Nu
/-
  NU, text 21: the whole of a function's body; a contract out of a body.
-/
namespace Go.Nu
open Go Go.RowKit

def ghs : List Nat → PC → PC
  | [], p => p
  | b :: bs, p => .seq (.gh b) (ghs bs p)

/-- A hint's number from here on: the row in that slot is written from now on. -/
def thT : Nat := 5000000
/-- .. in front of the block of that number. -/
def blT : Nat := 10000000
def ghA (pgs : List PG) : List Nat → PC
  | [] => .reg pgs
  | b :: bs => .seq (.reg pgs) (ghs (b :: bs) .skip)

/-- Hints with this number name the types whose nil slices are marked as surely nil. -/
def nzK : Nat := 30000000
def nzOf (h : List (Nat × Nat)) : List TypeId := (h.filter (fun x => x.1 == nzK)).map (·.2)
/-- The compiled body. 'h': which boxes are not written any more from which region on (or, region + thT: behind which). -/
def compileC (P : Program) (n : Nat) (h : List (Nat × Nat)) : Code → Option PC
  | .skip => some .skip
  | .region id ops draw => match compileL P (nzOf h) n ops ops.toList with
    | some pgs => if !draw || orderOk ops pgs then some (ghs ((h.filter (fun x => x.1 == id)).map (·.2)) (ghA pgs ((h.filter (fun x => x.1 == id + thT)).map (·.2))))
      else if orderOk ops (fixL pgs) then some (ghs ((h.filter (fun x => x.1 == id)).map (·.2)) (ghA (fixL pgs) ((h.filter (fun x => x.1 == id + thT)).map (·.2)))) else none
    | none => none
  | .seq a b => match compileC P n h a, compileC P n h b with
    | some a, some b => some (.seq a b)
    | _, _ => none
  | .cond x a b => match cX x, compileC P n h a, compileC P n h b with
    | some x, some a, some b => some (.cond x a b)
    | _, _, _ => none
  | .block id b => match compileC P n h b with
    | some b => some (ghs ((h.filter (fun x => x.1 == id + blT)).map (·.2)) (.block id b))
    | none => none
  | .loop b => match compileC P n h b with
    | some b => some (.loop b)
    | none => none
  | .exit id => some (.exit id)
  | .ret => some .ret
  | _ => none

inductive CR where
  | tmp (t : Nat)
  | cell (a : Nat) (t : Option TypeId)

def compileR (P : Program) : List ResultVar → Option (List CR)
  | [] => some []
  | .tmp t :: rs => match compileR P rs with
    | some crs => some (.tmp t :: crs)
    | none => none
  | .cell a t :: rs => match cT P t, compileR P rs with
    | some tt, some crs => some (.cell a tt :: crs)
    | _, _ => none

def crV (st : St) : CR → Option V
  | .tmp t => if (st.s t).mem then some (st.s t).untag else none
  | .cell a t => match ldV t (st.s a) st.bx with
    | some v => if v.mem then some v.untag else none
    | none => none

def crsV (st : St) : List CR → Option (List V)
  | [] => some []
  | c :: cs => match crV st c, crsV st cs with
    | some v, some vs => some (v :: vs)
    | _, _ => none

def resV (st : St) (crs : List CR) : Option V :=
  match crsV st crs with
  | some [v] => some v
  | some vs => some (.tup vs)
  | none => none

def start (args : List V) : St := ⟨fun i => args.getD i .junk, fun _ => none, fun _ => none⟩

section
variable {P : Program} {nz : List TypeId} {n : Nat} {w0 w w' : World} {LX : Nat → Prop} {df : Df} {S0 S S' : Nat → Nat → Prop} {bm : Bm} {ow ow' : Ow} {st st' : St} {a : Act} {o : Oper} {E : Ext}

theorem TagOk.restrict {fr : Nat → Option (TypeId × Nat)} {tag : Option Nat} {len c : Nat} {a : Option Addr} (h : TagOk ow tag len a c) (ho : ∀ d, (fr d).isSome = true → ow' d = ow d)
    (ht : ∀ d, tag = some d → (d = nilT ∨ d = zerT) ∨ (fr d).isSome = true) : TagOk ow' tag len a c := fun d hd => by
  rcases h d hd with h0 | h0 | ⟨hn, h1⟩
  · exact .inl h0
  · exact .inr (.inl h0)
  · rcases ht d hd with (h2 | h2) | h2
    · exact absurd h2 hn.1
    · exact absurd h2 hn.2
    · rw [ho d h2]
      exact .inr (.inr ⟨hn, h1⟩)

mutual
theorem RepC.restrict {fr : Nat → Option (TypeId × Nat)} : ∀ {ow ow' : Ow} {v : V} {cs : List Value}, RepC P S w ow v cs → okT fr v → (∀ d, (fr d).isSome = true → ow' d = ow d) → RepC P S w ow' v cs
  | _, _, _, _, .bool _ _, _, _ => .bool _ _
  | _, _, _, _, .int _ _ _, _, _ => .int _ _ _
  | _, _, _, _, .str _ _, _, _ => .str _ _
  | _, _, _, _, .nilp _, _, _ => .nilp _
  | _, _, _, _, .nili _, _, _ => .nili _
  | _, _, _, _, .rp _ h1 h2, _, _ => .rp _ h1 h2
  | _, _, _, _, .emp (tag := tag) _ h, ht, ho => .emp _ (h.restrict ho fun d hd => by subst hd; exact ht)
  | _, _, _, _, .nilsl (tag := tag) _ h, ht, ho => .nilsl _ (h.restrict ho fun d hd => by subst hd; exact ht)
  | _, _, _, _, .sl (tag := tag) _ h1 h2 h3 h4 h5 h6, ht, ho => .sl _ h1 h2 h3 h4 h5 (h6.restrict ho fun d hd => by subst hd; exact ht)
  | _, _, _, _, .agg _ h1 h2 h3 h4, ht, ho => .agg _ h1 h2 (RepCs.restrict h3 ht ho) h4
  | _, _, _, _, .row _ h1 h2 h3, ht, ho => .row _ (RepCs.restrict h1 ht ho) h2 h3
  | _, _, _, _, .iface1 _ h1 h2, ht, ho => .iface1 _ h1 (RepC.restrict h2 ht ho)
  | _, _, _, _, .iface2 _ h, ht, ho => .iface2 _ (RepC.restrict h ht ho)
  | _, _, _, _, .fn _ h1 h2, _, _ => .fn _ h1 h2
theorem RepCs.restrict {fr : Nat → Option (TypeId × Nat)} : ∀ {ow ow' : Ow} {vs : List V} {cs : List Value}, RepCs P S w ow vs cs → okTs fr vs → (∀ d, (fr d).isSome = true → ow' d = ow d) → RepCs P S w ow' vs cs
  | _, _, _, _, .nil _, _, _ => .nil _
  | _, _, _, _, .cons _ h1 h2, ht, ho => .cons _ (RepC.restrict h1 ht.1 ho) (RepCs.restrict h2 ht.2 ho)
end

theorem Rep1.restrict {fr : Nat → Option (TypeId × Nat)} {v : V} {c : Value} (h : Rep1 P S w ow v c) (ht : okT fr v) (ho : ∀ d, (fr d).isSome = true → ow' d = ow d) : Rep1 P S w ow' v c := by
  cases v <;> simp only [Rep1] at h ⊢ <;> first
    | exact RepC.restrict h ht ho
    | (obtain ⟨cs, h1, h2⟩ := h; exact ⟨cs, h1, h2.restrict ht ho⟩)

theorem all2_restrict {fr : Nat → Option (TypeId × Nat)} (ho : ∀ d, (fr d).isSome = true → ow' d = ow d) : ∀ {vs : List V} {cs : List Value}, All2 (Rep1 P S w ow) vs cs → okTs fr vs → All2 (Rep1 P S w ow') vs cs
  | [], [], _, _ => trivial
  | _ :: _, _ :: _, h, ht => ⟨h.1.restrict ht.1 ho, all2_restrict ho h.2 ht.2⟩
  | [], _ :: _, h, _ => h.elim
  | _ :: _, [], h, _ => h.elim

theorem Sim.less {st0 : St} (h : Sim P n w0 LX df S0 S bm ow st a w) (hl : Less st st0) : SimE P n w0 LX df S0 st0 a w := by
  let bm0 : Bm := fun d => if (st0.bx d).isSome then bm d else none
  let ow0 : Ow := fun d => if (st0.fr d).isSome then ow d else none
  have ho : ∀ d, (st0.fr d).isSome = true → ow0 d = ow d := fun d hd => if_pos hd
  have hb : ∀ d, (st0.bx d).isSome = true → bm0 d = bm d := fun d hd => if_pos hd
  have hb2 : ∀ d g, bm0 d = some g → bm d = some g := fun d g hd => by
    by_cases hh : (st0.bx d).isSome = true
    · rwa [hb d hh] at hd
    · simp only [bm0, if_neg hh] at hd; cases hd
  have ho2 : ∀ d g, ow0 d = some g → ow d = some g := fun d g hd => by
    by_cases hh : (st0.fr d).isSome = true
    · rwa [ho d hh] at hd
    · simp only [ow0, if_neg hh] at hd; cases hd
  refine ⟨S, bm0, ow0, ⟨h.size, h.defers, h.pins, h.below, h.slt, h.sold, fun i => ?_, ⟨h.junk.1, fun i hi => ?_⟩, fun d v hv => ?_, fun d hd => ?_, fun d e k hd => ?_, fun d hd => ?_,
    fun d d' g h1 h2 => h.bInj d d' g (hb2 _ _ h1) (hb2 _ _ h2), fun d d' k k' x x' c c' h1 h2 => h.rInj d d' k k' x x' c c' (ho2 _ _ h1) (ho2 _ _ h2), fun d d' g k x c h1 h2 => h.brDis d d' g k x c (hb2 _ _ h1) (ho2 _ _ h2)⟩⟩
  · rcases hl.s i with hj | ⟨he, ht⟩ | ⟨hm, he⟩
    · rw [hj]; trivial
    rotate_left
    · rw [he]; exact ((h.slot i).one hm).untag.any.toS
    · have hs := h.slot i
      have href := hl.ref i
      rw [he] at href ⊢
      generalize hc : st.s i = v at *
      generalize a.tmps.getD i undef = c at hs
      cases v <;> simp only [RepS] at hs ⊢ <;> first
        | trivial
        | exact hs.restrict ht ho
        | (obtain ⟨cs, h1, h2⟩ := hs; exact ⟨cs, h1, all2_restrict ho h2 ht⟩)
        | skip
      · rename_i d p
        obtain ⟨g, ct, off, r1, r2, r3, r4⟩ := hs
        have hd := href d p (.inl rfl)
        obtain ⟨ct', hct⟩ := Option.isSome_iff_exists.1 hd
        obtain rfl : ct' = ct := Option.some.inj ((hl.bx d ct' hct).1.symm.trans r2)
        exact ⟨g, ct', off, (hb d hd).trans r1, hct, r3, r4⟩
      · rename_i d
        obtain ⟨g, ct, r1, r2, r3⟩ := hs
        have hd := href d [] (.inr rfl)
        obtain ⟨ct', hct⟩ := Option.isSome_iff_exists.1 hd
        obtain rfl : ct' = ct := Option.some.inj ((hl.bx d ct' hct).1.symm.trans r2)
        exact ⟨g, ct', (hb d hd).trans r1, hct, r3⟩
  · rcases hl.s i with hj | ⟨he, _⟩ | ⟨_, he⟩
    · exact hj
    · rw [he]; exact h.junk.2 i hi
    · rw [he, h.junk.2 i hi]; rfl
  · obtain ⟨h1, h2⟩ := hl.bx d v hv
    obtain ⟨g, z1, z2, z3, z4⟩ := h.box d v h1
    refine ⟨g, (hb d (by rw [hv]; rfl)).trans z1, z2, ?_, z4⟩
    unfold BoxAt at z3 ⊢
    cases v <;> simp only [] at z3 ⊢ <;> first
      | exact z3
      | (obtain ⟨p, sl, e1, e0, e2, e3⟩ := z3; exact ⟨p, sl, e1, e0, e2.restrict (.inr h2) ho, e3⟩)
      | (obtain ⟨cur, T, cs, rest, e1, e0, e2⟩ := z3; exact ⟨cur, T, cs, rest, e1, e0, e2.restrict h2 ho⟩)
  · simp only [bm0, hd]; rfl
  · obtain ⟨x, c, h1, h2⟩ := h.row d e k (hl.fr d _ hd)
    exact ⟨x, c, (ho d (by rw [hd]; rfl)).trans h1, h2⟩
  · simp only [ow0, hd]; rfl

theorem mem_row {g : Nat} {cur : Array Value} {T : TypeId} {pre c post : List Value} (hh : w.heap[g]? = some (.cells cur T (0, 0))) (hc : cur.toList = pre ++ (c ++ post)) : Mem (fun b o => S b o ∨ (b = g ∧ o < cur.size)) w g pre.length c := by
  intro j u hu
  have hj : j < c.length := by
    rcases Nat.lt_or_ge j c.length with h | h
    · exact h
    · simp [List.getElem?_eq_none h] at hu
  have hsz : cur.size = pre.length + (c.length + post.length) := by rw [← Array.length_toList, hc]; simp
  refine ⟨.inr ⟨rfl, by omega⟩, ?_⟩
  rw [cell_of_row w g _ cur T (0, 0) hh, ← Array.getElem?_toList, hc]
  rw [List.getElem?_append_right (by omega), Nat.add_sub_cancel_left, List.getElem?_append_left hj]
  exact hu

/-- A box that is written no more. -/
theorem BoxAt.cells_of {g : Nat} {v : V} (h : BoxAt P S w ow g v) (hv : v.isItc = false) : ∃ cur T cs rest, w.heap[g]? = some (.cells cur T (0, 0)) ∧ cur.toList = cs ++ rest ∧ RepC P S w ow v cs := by
  unfold BoxAt at h
  cases v <;> first
    | exact h
    | simp [V.isItc] at hv

theorem Sim.freeze (h : Sim P n w0 LX df S0 S bm ow st a w) {b : Nat} (hf : freeze b st = some st') : SimE P n w0 LX df S0 st' a w := by
  unfold Nu.freeze at hf
  split at hf
  · rename_i ct0 hb
    by_cases hlent0 : b = lentT ∨ ct0.isItc = true
    · rw [if_pos hlent0] at hf; cases hf
    rw [if_neg hlent0] at hf
    obtain rfl := Option.some.inj hf
    have hlent : b ≠ lentT := fun e => hlent0 (.inl e)
    obtain ⟨g, z1, z20, zbox, z4⟩ := h.box _ _ hb
    obtain ⟨cur, T, cs, rest, y0, yr, y1⟩ := zbox.cells_of (by simpa using fun e => hlent0 (.inr e))
    have hglt := heap_lt y0
    have z2 : w0.heap.size ≤ g := ownB_ge hlent z20
    have hle : Le S (fun b o => S b o ∨ (b = g ∧ o < cur.size)) ow ow w w := ⟨fun _ _ h => .inl h, fun _ _ _ => rfl, (Le.refl S ow w).oW⟩
    have hbm : ∀ d, d ≠ b → upd bm b none d = bm d := fun d hd => if_neg hd
    have hbx : ∀ d, d ≠ b → upd st.bx b none d = st.bx d := fun d hd => if_neg hd
    refine ⟨fun b o => S b o ∨ (b = g ∧ o < cur.size), upd bm b none, ow, ⟨h.size, h.defers, h.pins, h.below, fun b' o hS => ?_, fun b' o hlt => ?_, fun i => ?_, ⟨h.junk.1, fun i hi => ?_⟩, fun d v hv => ?_, fun d hd => ?_, fun d e k hd => ?_, h.rowNone,
      fun d d' g' h1 h2 => ?_, h.rInj, fun d d' g' k x c h1 h2 => ?_⟩⟩
    · rcases hS with hS | ⟨rfl, _⟩
      · exact h.slt _ _ hS
      · exact hglt
    · rw [← h.sold b' o hlt]
      exact ⟨fun hS => by rcases hS with hS | ⟨rfl, _⟩ <;> first | exact hS | omega, .inl⟩
    · have hs := (h.slot i).mono hle
      show RepS P _ w ow (upd bm b none) (upd st.bx b none) (still b ct0 (st.s i)) _
      generalize st.s i = v at hs
      generalize a.tmps.getD i undef = c at hs
      cases v <;> try exact hs
      · rename_i d p
        by_cases hd : d = b
        · subst hd
          obtain ⟨g', ct, off, r1, r2, r3, r4⟩ := hs
          obtain rfl : g' = g := Option.some.inj (r1.symm.trans z1)
          obtain rfl : ct = ct0 := Option.some.inj (r2.symm.trans hb)
          simp only [still, if_true]
          cases hat : V.at_ ct p with
          | none => trivial
          | some u =>
            obtain ⟨off', pre, c0, post, q1, q2, q3, q4⟩ := RepC.at_ y1 hat
            obtain rfl : off' = off := Option.some.inj (q1.symm.trans r3)
            rw [r4]
            rw [q2, List.append_assoc, List.append_assoc] at yr
            have hm := mem_row (S := S) y0 yr
            rw [q3] at hm
            exact RepC.rp _ (RepC.mono q4.untag hle.bare) hm
        · simp only [still, if_neg hd]
          obtain ⟨g', ct, off, r1, r2, r3, r4⟩ := hs
          exact ⟨g', ct, off, (hbm d hd).trans r1, (hbx d hd).trans r2, r3, r4⟩
      · rename_i d
        by_cases hd : d = b
        · subst hd
          obtain ⟨g', ct, r1, r2, r3⟩ := hs
          obtain rfl : g' = g := Option.some.inj (r1.symm.trans z1)
          obtain rfl : ct = ct0 := Option.some.inj (r2.symm.trans hb)
          rcases r3 with ⟨s, pos, e1, _⟩ | ⟨e, es', cap, e1, c1, c2, e2⟩
          · subst e1; exact (hlent0 (.inr rfl)).elim
          · subst e1
            simp only [still, if_true, if_pos (Nat.le_add_right rowT e), Nat.add_sub_cancel_left]
            generalize hq : rowT + e = q at y1
            cases y1 with
            | agg _ _ _ _ h4 => exact absurd (show rowT ≤ q by rw [← hq]; exact Nat.le_add_right _ _) h4
            | row _ k1 k2 k3 =>
              rename_i e'
              obtain rfl : e = e' := Nat.add_left_cancel hq
              rw [e2]
              have hm := mem_row (S := S) (pre := []) (post := rest) (c := cs) y0 (by simpa using yr)
              have := RepC.sl (P := P) (w := w) ow (tag := none) (e := e) (cap := cap) (RepCs.mono k1.untag hle.bare) (untags_all k2) hm (by rw [untags_len]; exact c1) c2 (TagOk.none_ _ _ _ _)
              rw [untags_len] at this
              exact this
        · simp only [still, if_neg hd]
          obtain ⟨g', ct, r1, r2, r3⟩ := hs
          exact ⟨g', ct, (hbm d hd).trans r1, (hbx d hd).trans r2, r3⟩
    · show still b ct0 (st.s i) = .junk
      rw [h.junk.2 i hi]
      rfl
    · have hv' : upd st.bx b none d = some v := hv
      have hd : d ≠ b := by rintro rfl; simp [upd] at hv'
      rw [hbx d hd] at hv'
      obtain ⟨g', q1, q2, q3, q4⟩ := h.box d v hv'
      refine ⟨g', (hbm d hd).trans q1, q2, q3.mono hle rfl, fun o hS => ?_⟩
      rcases hS with hS | ⟨rfl, _⟩
      · exact q4 o hS
      · exact hd (h.bInj _ _ _ q1 z1)
    · have hd' : upd st.bx b none d = none := hd
      by_cases hdb : d = b
      · subst hdb; simp [upd]
      · rw [hbx d hdb] at hd'; rw [hbm d hdb]; exact h.boxNone d hd'
    · obtain ⟨x, c, h1, h2⟩ := h.row d e k hd
      refine ⟨x, c, h1, ?_⟩
      unfold RowAt at h2 ⊢
      cases x with
      | none => exact h2
      | some ad =>
        obtain ⟨g', cur', q0, q1, q2, q3, q4, q5, q6⟩ := h2
        refine ⟨g', cur', q0, q1, q2, q3, q4, q5, fun o => ?_⟩
        rw [← q6 o]
        refine ⟨fun hS => ?_, .inl⟩
        rcases hS with hS | ⟨hgg, _⟩
        · exact hS
        · have := h.brDis _ _ _ _ _ _ z1 h1
          rw [q0] at this
          exact absurd hgg this
    · unfold upd at h1 h2
      split at h1 <;> split at h2
      · cases h1
      · cases h1
      · cases h2
      · exact h.bInj _ _ _ h1 h2
    · unfold upd at h1
      split at h1
      · cases h1
      · exact h.brDis _ _ _ _ _ _ h1 h2
  · cases hf

/-! ### a row of the call's own that is written -/
mutual
/-- A value that looks into no memory. -/
def V.flat : V → Bool
  | .bool _ | .int _ _ | .str _ | .nilp | .nili => true
  | .agg _ fs => V.flats fs
  | .iface _ v => V.flat v
  | .sl none _ [] => true
  | .sl (some d) _ [] => Nat.beq d nilT
  | _ => false
def V.flats : List V → Bool
  | [] => true
  | v :: vs => V.flat v && V.flats vs
end

mutual
theorem RepC.flat {S' : Nat → Nat → Prop} {w' : World} : ∀ {ow ow' : Ow} {v : V} {cs : List Value}, RepC P S w ow v cs → v.flat = true → RepC P S' w' ow' v cs
  | _, _, _, _, .bool _ _, _ => .bool _ _
  | _, _, _, _, .int _ _ _, _ => .int _ _ _
  | _, _, _, _, .str _ _, _ => .str _ _
  | _, _, _, _, .nilp _, _ => .nilp _
  | _, _, _, _, .nili _, _ => .nili _
  | _, _, _, _, .rp _ h1 h2, h => by simp [V.flat] at h
  | _, _, _, _, .nilsl (tag := tag) _ h1, h => by
    cases tag with
    | none => exact .nilsl _ (TagOk.none_ _ _ _ _)
    | some d =>
      obtain rfl := Nat.eq_of_beq_eq_true (show Nat.beq d nilT = true from h)
      exact .nilsl _ (TagOk.nil_ _)
  | _, _, _, _, .emp (tag := tag) _ h1, h => by
    cases tag with
    | none => exact .emp _ (TagOk.none_ _ _ _ _)
    | some d =>
      obtain rfl := Nat.eq_of_beq_eq_true (show Nat.beq d nilT = true from h)
      rcases h1 nilT rfl with ⟨_, h7, _⟩ | ⟨h7, _⟩ | ⟨h7, _⟩
      · cases h7
      · exact absurd h7 (by decide)
      · exact absurd rfl h7.1
  | _, _, _, _, .sl (tag := tag) (es := es) _ h1 h2 h3 h4 h5 h6, h => by
    cases tag with
    | none => cases es with
      | nil => exact .emp _ (TagOk.none_ _ _ _ _)
      | cons => simp [V.flat] at h
    | some d => cases es with
      | nil =>
        obtain rfl := Nat.eq_of_beq_eq_true (show Nat.beq d nilT = true from h)
        rcases h6 nilT rfl with ⟨_, h7, _⟩ | ⟨h7, _⟩ | ⟨h7, _⟩
        · cases h7
        · exact absurd h7 (by decide)
        · exact absurd rfl h7.1
      | cons => simp [V.flat] at h
  | _, _, _, _, .agg _ h1 h2 h3 h4, h => .agg _ h1 h2 (RepCs.flat h3 (by simpa [V.flat] using h)) h4
  | _, _, _, _, .row _ h1 h2 h3, h => .row _ (RepCs.flat h1 (by simpa [V.flat] using h)) h2 h3
  | _, _, _, _, .iface1 _ h1 h2, h => .iface1 _ h1 (RepC.flat h2 (by simpa [V.flat] using h))
  | _, _, _, _, .iface2 _ h1, h => .iface2 _ (RepC.flat h1 (by simpa [V.flat] using h))
  | _, _, _, _, .fn _ h1 h2, h => by simp [V.flat] at h
theorem RepCs.flat {S' : Nat → Nat → Prop} {w' : World} : ∀ {ow ow' : Ow} {vs : List V} {cs : List Value}, RepCs P S w ow vs cs → V.flats vs = true → RepCs P S' w' ow' vs cs
  | _, _, _, _, .nil _, _ => .nil _
  | _, _, _, _, .cons _ h1 h2, h => by
    simp only [V.flats, Bool.and_eq_true] at h
    exact .cons _ (RepC.flat h1 h.1) (RepCs.flat h2 h.2)
end
theorem Rep1.flat {S' : Nat → Nat → Prop} {w' : World} {ow ow' : Ow} {v : V} {c : Value} (h : Rep1 P S w ow v c) (hf : v.flat = true) : Rep1 P S' w' ow' v c := by
  cases v <;> simp only [Rep1] at h ⊢ <;> first
    | exact h.flat hf
    | (obtain ⟨cs, h1, h2⟩ := h; exact ⟨cs, h1, h2.flat hf⟩)

theorem flat_mem {v : V} (h : v.flat = true) : v.mem = true := by
  cases v <;> first
    | rfl
    | (simp only [V.flat] at h; cases h)

/-- What is kept when row d is written from now on. -/
def KeepT (st' : St) (v : V) : Prop :=
  v.flat = true ∨ (∃ k e es, v = .sl (some k) e es ∧ st'.fr k = some (e, es.length) ∧ V.flats es = true) ∨ ∃ k p, (v = .rf k p ∨ v = .it k) ∧ (st'.bx k).isSome = true
def FlatB (v : V) : Prop := v.flat = true ∨ ∃ s pos, v = .itc s pos
/-- The row in slot x is a box from now on. -/
def ThawTo (x : Nat) (st st' : St) : Prop :=
  ∃ d e es, (d ≠ lentT ∧ okRow d = true) ∧ st.s x = .sl (some d) e es ∧ st.fr d = some (e, es.length) ∧ es ≠ [] ∧ st.bx d = none ∧ V.flats es = true ∧
    (∀ i, st'.s i = .junk ∨ (st'.s i = .it d ∧ ∃ e' es', st.s i = .sl (some d) e' es' ∧ es'.length = es.length) ∨ (st'.s i = st.s i ∧ KeepT st' (st.s i))) ∧
    st'.bx d = some (.agg (rowT + e) es) ∧ (∀ k, k ≠ d → ∀ v, st'.bx k = some v → st.bx k = some v ∧ FlatB v) ∧
    ∀ k y, st'.fr k = some y → st.fr k = some y ∧ k ≠ d

theorem tag_full {tag : Nat} {e : TypeId} {es : List V} {c : Value} {a0 : Option Addr} {c0 : Nat} (h : Rep1 P S w ow (.sl (some tag) e es) c) (ho : ow tag = some (es.length, a0, c0)) (hne : es ≠ []) :
    ∃ b o cs, a0 = some ⟨b, o, none⟩ ∧ c = .slice (some ⟨b, o, none⟩) es.length c0 ∧ RepCs P S w noOw es cs ∧ (∀ x ∈ es, width P x = P.cellsOf e) ∧ Mem S w b o cs ∧ es.length ≤ c0 ∧ c0 ≤ maxLen := by
  have h : RepC P S w ow (.sl (some tag) e es) [c] := h
  generalize hq : [c] = q at h
  cases h with
  | nilsl => exact absurd rfl hne
  | emp => exact absurd rfl hne
  | sl _ h1 h2 h3 h4 h5 h6 =>
    rename_i cs b o cap
    obtain ⟨n0, a1, c1, g1, g2, g3⟩ : ∃ n0 a0 c0, ow tag = some (n0, a0, c0) ∧ es.length ≤ n0 ∧ (es.length = n0 → a0 = some ⟨b, o, none⟩ ∧ c0 = cap) := by
      rcases h6 tag rfl with ⟨_, h7, _⟩ | ⟨_, h7, _⟩ | ⟨_, h7⟩
      · cases h7
      · exact absurd (List.eq_nil_of_length_eq_zero h7) hne
      · exact h7
    rw [ho] at g1
    cases g1
    obtain ⟨g4, g5⟩ := g3 rfl
    subst g4
    subst g5
    simp only [List.cons.injEq, and_true] at hq
    exact ⟨b, o, cs, rfl, hq, h1, h2, h3, h4, h5⟩

theorem tag_ne {tag : Nat} {e : TypeId} {es : List V} {c : Value} (h : Rep1 P S w ow (.sl (some tag) e es) c) (hne : es ≠ []) : tag ≠ nilT ∧ tag ≠ zerT := by
  have h : RepC P S w ow (.sl (some tag) e es) [c] := h
  generalize [c] = q at h
  cases h with
  | nilsl => exact absurd rfl hne
  | emp => exact absurd rfl hne
  | sl _ h1 h2 h3 h4 h5 h6 =>
    rcases h6 tag rfl with ⟨_, h7, _⟩ | ⟨_, h7, _⟩ | ⟨h7, _⟩
    · cases h7
    · exact absurd (List.eq_nil_of_length_eq_zero h7) hne
    · exact h7

/-- A surely nil field becomes a row. -/
theorem Sim.nilRow (h : Sim P n w0 LX df S0 S bm ow st a w) {x : Nat} (ht : nilRow x st = some st') : SimE P n w0 LX df S0 st' a w := by
  unfold Go.Nu.nilRow at ht
  split at ht
  · rename_i t fs hb hf
    split at ht
    · rename_i d e hg
      split at ht
      · rename_i hc
        obtain ⟨rfl, hrow, hok⟩ := hc
        cases ht
        have hxn : x ≠ nilT ∧ x ≠ zerT := by
          constructor <;> (rintro rfl; exact absurd hok (by decide))
        have g1 := h.addNil (d := x) (e := e) hf
        obtain ⟨g, z1, z2, z3, z4⟩ := g1.box _ _ hb
        obtain ⟨cur, T, cs, rest, y0, yr, y1⟩ : ∃ cur T cs rest, w.heap[g]? = some (.cells cur T (0, 0)) ∧ cur.toList = cs ++ rest ∧ RepC P S w (upd ow x (some (0, none, 0))) (.agg t fs) cs := z3
        have hat : (V.agg t fs).at_ [(x - nlB) % 100] = some (.sl (some nilT) e []) := by simp [V.at_, hg]
        have hnew : RepC P S w (upd ow x (some (0, none, 0))) (.sl (some x) e []) [.slice none 0 0] :=
          .nilsl _ (TagOk.mk_ hxn ⟨0, none, 0, by simp [upd], Nat.le_refl _, fun _ => ⟨rfl, rfl⟩⟩)
        obtain ⟨off, pre, c, post, q1, q2, q3, q4⟩ := RepC.at_ y1 hat
        have hc : c = [.slice none 0 0] := by
          generalize hv : V.sl (some nilT) e [] = v at q4
          cases q4 with
          | nilsl => rfl
          | sl _ k1 k2 k3 k4 k5 k6 =>
            cases hv
            rcases k6 _ rfl with ⟨_, h10, _⟩ | ⟨h10, _⟩ | ⟨h10, _⟩
            · cases h10
            · exact absurd h10 (by decide)
            · exact absurd rfl h10.1
          | emp _ k6 =>
            cases hv
            rcases k6 _ rfl with ⟨_, h10, _⟩ | ⟨h10, _⟩ | ⟨h10, _⟩
            · cases h10
            · exact absurd h10 (by decide)
            · exact absurd rfl h10.1
          | _ => cases hv
        subst hc
        have hal : V.alike (.sl (some nilT) e []) (.sl (some x) e []) = true := rfl
        obtain ⟨off', pre', c', post', r1, r2, r3, r4, r5⟩ := RepC.setAt y1 hat hal hnew
        have hset : (V.agg t fs).setAt [(x - nlB) % 100] (.sl (some x) e []) = .agg t (fs.set ((x - nlB) % 100) (.sl (some x) e [])) := by simp [V.setAt]
        rw [hset] at r5
        have hcs : pre' ++ ([.slice none 0 0] ++ post') = cs := by
          have e1 : pre' = pre ∧ c' ++ post' = [Value.slice none 0 0] ++ post := by
            obtain rfl : off' = off := Option.some.inj (r1.symm.trans q1)
            exact List.append_inj (r2.symm.trans q2) (by rw [r3, q3])
          have e2 : c' = [Value.slice none 0 0] ∧ post' = post := List.append_inj e1.2 (by simpa using r4)
          rw [q2, e1.1, e2.2]
        rw [hcs] at r5
        have g2 := g1.setBox (w' := w) (v' := .agg t (fs.set ((x - nlB) % 100) (.sl (some x) e []))) z1 hb rfl rfl rfl rfl (fun _ _ => rfl) ⟨cur, T, cs, rest, y0, yr, r5⟩
          (fun p off hp => by
            have := alike_setAt hat hal
            rw [hset] at this
            exact alike_pathOff this hp) ⟨fun _ _ e1 => by (cases e1), fun t' es e1 => by cases e1; exact ⟨_, rfl, by simp⟩⟩
        exact ⟨_, _, _, g2⟩
      · cases ht
    · cases ht
  · rename_i d e hb hf
    split at ht
    · rename_i hc
      obtain ⟨rfl, hok⟩ := hc
      cases ht
      have hxn : x ≠ nilT ∧ x ≠ zerT := by
        constructor <;> (rintro rfl; exact absurd hok (by decide))
      have g1 := h.addNil (d := x) (e := e) hf
      obtain ⟨g, z1, z2, z3, z4⟩ := g1.box _ _ hb
      obtain ⟨cur, T, cs, rest, y0, yr, q4⟩ : ∃ cur T cs rest, w.heap[g]? = some (.cells cur T (0, 0)) ∧ cur.toList = cs ++ rest ∧ RepC P S w (upd ow x (some (0, none, 0))) (.sl (some nilT) e []) cs := z3
      have hnew : RepC P S w (upd ow x (some (0, none, 0))) (.sl (some x) e []) [.slice none 0 0] :=
        .nilsl _ (TagOk.mk_ hxn ⟨0, none, 0, by simp [upd], Nat.le_refl _, fun _ => ⟨rfl, rfl⟩⟩)
      have hc : cs = [.slice none 0 0] := by
        generalize hv : V.sl (some nilT) e [] = v at q4
        cases q4 with
        | nilsl => rfl
        | sl _ k1 k2 k3 k4 k5 k6 =>
          cases hv
          rcases k6 _ rfl with ⟨_, h10, _⟩ | ⟨h10, _⟩ | ⟨h10, _⟩
          · cases h10
          · exact absurd h10 (by decide)
          · exact absurd rfl h10.1
        | emp _ k6 =>
          cases hv
          rcases k6 _ rfl with ⟨_, h10, _⟩ | ⟨h10, _⟩ | ⟨h10, _⟩
          · cases h10
          · exact absurd h10 (by decide)
          · exact absurd rfl h10.1
        | _ => cases hv
      subst hc
      have g2 := g1.setBox (w' := w) (v' := .sl (some x) e []) z1 hb rfl rfl rfl rfl (fun _ _ => rfl) ⟨cur, T, _, rest, y0, yr, hnew⟩
        (fun p off hp => by cases p <;> exact hp) ⟨fun _ _ e1 => by (cases e1), fun t' es e1 => by cases e1⟩
      exact ⟨_, _, _, g2⟩
    · cases ht
  · cases ht

/-- A row of the call's own that is written. -/
theorem Sim.thaw (h : Sim P n w0 LX df S0 S bm ow st a w) {x : Nat} (ht : ThawTo x st st') : SimE P n w0 LX df S0 st' a w := by
  obtain ⟨d, e, es, ⟨hdl, hokr⟩, hx, hfr, hne, hbn, hfl, hsl, hbd, hbo, hfo⟩ := ht
  obtain ⟨a0, c0, ho, hrow⟩ := h.row _ _ _ hfr
  have hs := h.slot x
  rw [hx] at hs
  obtain ⟨g, o, cs, rfl, hc, hr, hwd, hm, hl1, hl2⟩ := tag_full hs ho hne
  obtain ⟨e0, cur, q0, q1, q2, q3, q4, q5, q6, q7⟩ := h.rLt ho
  obtain rfl : e = e0 := congrArg Prod.fst (Option.some.inj (hfr.symm.trans q0))
  obtain rfl : o = 0 := by
    have := congrArg Addr.off q1
    exact this
  simp only [] at q2 q3 q7
  have hnb : isBld d = false := by
    unfold okRow at hokr
    rw [Bool.and_eq_true, Bool.not_eq_true'] at hokr
    exact hokr.1
  rw [hnb] at q3
  replace q3 := q3.plain
  have hbnone : bm d = none := h.boxNone d hbn
  let S' : Nat → Nat → Prop := fun b o => S b o ∧ b ≠ g
  let bm' : Bm := fun k => if k = d then some g else if (st'.bx k).isSome then bm k else none
  let ow' : Ow := fun k => if (st'.fr k).isSome then ow k else none
  have hbd' : bm' d = some g := if_pos rfl
  have hbm : ∀ k, k ≠ d → (st'.bx k).isSome = true → bm' k = bm k := fun k hk hs => by simp only [bm', if_neg hk, if_pos hs]
  have hbm2 : ∀ k g', bm' k = some g' → (k = d ∧ g' = g) ∨ (k ≠ d ∧ bm k = some g') := by
    intro k g' hk
    by_cases hkd : k = d
    · subst hkd
      rw [hbd'] at hk
      exact .inl ⟨rfl, (Option.some.inj hk).symm⟩
    · simp only [bm', if_neg hkd] at hk
      split at hk
      · exact .inr ⟨hkd, hk⟩
      · cases hk
  have how : ∀ k, (st'.fr k).isSome = true → ow' k = ow k := fun k hk => if_pos hk
  have how2 : ∀ k y, ow' k = some y → ow k = some y ∧ k ≠ d := by
    intro k y hk
    by_cases hkk : (st'.fr k).isSome = true
    · rw [how k hkk] at hk
      obtain ⟨z, hz⟩ := Option.isSome_iff_exists.1 hkk
      exact ⟨hk, (hfo k z hz).2⟩
    · simp only [ow', if_neg hkk] at hk; cases hk
  have hgb : ∀ k g', bm k = some g' → g' ≠ g := fun k g' hk e2 => (h.brDis _ _ _ _ _ _ hk ho) e2.symm
  have hcells : ∃ rest, cur.toList = cs ++ rest := by
    refine ⟨cur.toList.drop cs.length, ?_⟩
    have hle : cs.length ≤ cur.toList.length := by
      rcases Nat.lt_or_ge cur.toList.length cs.length with hlt | hge
      · exfalso
        obtain ⟨u, hu⟩ : ∃ u, cs[cur.toList.length]? = some u := ⟨cs[cur.toList.length], List.getElem?_eq_getElem _⟩
        have := (hm _ u hu).2
        rw [Nat.zero_add, cell_of_row w g _ cur e (0, 0) q3, ← Array.getElem?_toList, List.getElem?_eq_none (Nat.le_refl _)] at this
        cases this
      · exact hge
    have : cur.toList.take cs.length = cs := by
      apply List.ext_getElem?
      intro j
      by_cases hj : j < cs.length
      · rw [List.getElem?_take_of_lt hj]
        have := (hm j cs[j] (List.getElem?_eq_getElem hj)).2
        rw [Nat.zero_add, cell_of_row w g _ cur e (0, 0) q3, ← Array.getElem?_toList] at this
        rw [this, List.getElem?_eq_getElem hj]
      · rw [List.getElem?_eq_none (by rw [List.length_take]; omega), List.getElem?_eq_none (by omega)]
    conv => lhs; rw [← List.take_append_drop cs.length cur.toList, this]
  obtain ⟨rest, hrest⟩ := hcells
  refine ⟨S', bm', ow', ⟨h.size, h.defers, h.pins, h.below, fun b o hS => h.slt b o hS.1, fun b o hlt => ?_, fun i => ?_, ⟨h.junk.1, fun i hi => ?_⟩, fun k v hv => ?_, fun k hk => ?_, fun k e' k' hk => ?_, fun k hk => ?_, fun k k' g' h1 h2 => ?_, fun k k' n1 n2 x1 x2 c1 c2 h1 h2 => h.rInj _ _ _ _ _ _ _ _ (how2 _ _ h1).1 (how2 _ _ h2).1, fun k k' g' k2 ad c2 h1 h2 => ?_⟩⟩
  · rw [← h.sold b o hlt]
    exact ⟨fun hS => hS.1, fun hS => ⟨hS, fun hb => by omega⟩⟩
  · have hs := h.slot i
    rcases hsl i with hj | ⟨hi, e', es', hv, hlen⟩ | ⟨hi, hk⟩
    · rw [hj]; trivial
    · rw [hi]
      rw [hv] at hs
      have hne' : es' ≠ [] := by
        intro h0
        rw [h0] at hlen
        exact hne (List.eq_nil_of_length_eq_zero hlen.symm)
      obtain ⟨b', o', cs', hq, hc', _, _, _, _, _⟩ := tag_full hs (by rw [hlen]; exact ho) hne'
      obtain ⟨rfl, rfl⟩ : g = b' ∧ 0 = o' := by
        have := Option.some.inj hq
        exact ⟨congrArg Addr.block this, congrArg Addr.off this⟩
      exact ⟨g, _, hbd', hbd, .inr ⟨e, es, c0, rfl, hl1, hl2, by rw [hc', hlen]⟩⟩
    · rw [hi]
      rcases hk with hk | ⟨k, e', es', hv, hk1, hk2⟩ | ⟨k, p, hv, hk⟩
      · exact ((hs.one (flat_mem hk)).flat hk).toS
      · rw [hv] at hs ⊢
        obtain ⟨y1, y2⟩ := hfo k _ hk1
        obtain ⟨a1, c1, z1, z2⟩ := h.row _ _ _ y1
        have how3 : ow' k = ow k := how k (by rw [hk1]; rfl)
        show RepC P S' w ow' (.sl (some k) e' es') [a.tmps.getD i undef]
        cases es' with
        | nil =>
          have hs : RepC P S w ow (.sl (some k) e' []) [a.tmps.getD i undef] := hs
          generalize [a.tmps.getD i undef] = q at hs
          cases hs with
          | nilsl _ h1 => exact .nilsl _ (fun d' hd' => by cases hd'; rw [how3]; exact h1 k rfl)
          | emp _ h1 => exact .emp _ (fun d' hd' => by cases hd'; rw [how3]; exact h1 k rfl)
          | sl _ h1 h2 h3 h4 h5 h6 =>
            cases h1
            exact .sl _ (.nil _) (by simp) (fun j u hu => by simp at hu) h4 h5 (fun d' hd' => by cases hd'; rw [how3]; exact h6 k rfl)
        | cons y ys =>
          obtain ⟨b', o', cs', hq, hc', w1, w2, w3, w4, w5⟩ := tag_full hs z1 (by simp)
          subst hq
          rw [hc']
          refine .sl _ (RepCs.flat w1 hk2) w2 (fun j u hu => ⟨⟨(w3 j u hu).1, fun hb => ?_⟩, (w3 j u hu).2⟩) w4 w5 (fun d' hd' => ?_)
          · exact y2 (h.rInj _ _ _ _ _ _ _ _ z1 ho hb)
          · cases hd'
            exact .inr (.inr ⟨tag_ne hs (by simp), _, _, _, by rw [how3]; exact z1, Nat.le_refl _, fun _ => ⟨rfl, rfl⟩⟩)
      · obtain ⟨ct, hct⟩ := Option.isSome_iff_exists.1 hk
        rcases hv with hv | hv
        · rw [hv] at hs ⊢
          obtain ⟨g', ct', off, r1, r2, r3, r4⟩ := hs
          have hkd : k ≠ d := by rintro rfl; rw [hbn] at r2; cases r2
          obtain rfl : ct' = ct := Option.some.inj (r2.symm.trans (hbo k hkd ct hct).1)
          exact ⟨g', ct', off, (hbm k hkd hk).trans r1, hct, r3, r4⟩
        · rw [hv] at hs ⊢
          obtain ⟨g', ct', r1, r2, r3⟩ := hs
          have hkd : k ≠ d := by rintro rfl; rw [hbn] at r2; cases r2
          obtain rfl : ct' = ct := Option.some.inj (r2.symm.trans (hbo k hkd ct hct).1)
          exact ⟨g', ct', (hbm k hkd hk).trans r1, hct, r3⟩
  · rcases hsl i with hj | ⟨_, e', es', hv, _⟩ | ⟨hi2, _⟩
    · exact hj
    · rw [h.junk.2 i hi] at hv; cases hv
    · rw [hi2]; exact h.junk.2 i hi
  · by_cases hkd : k = d
    · subst hkd
      rw [hbd] at hv
      cases hv
      refine ⟨g, hbd', ownB_new hdl q2, ?_, fun o hS => hS.2 rfl⟩
      refine BoxAt.ofSlack rfl q3 hrest ?_
      exact .row _ (RepCs.flat hr hfl) hwd (by unfold maxLen at *; omega)
    · obtain ⟨hv', hf⟩ := hbo k hkd v hv
      obtain ⟨g', z1, z2, z3, z4⟩ := h.box k v hv'
      refine ⟨g', (hbm k hkd (by rw [hv]; rfl)).trans z1, z2, ?_, fun o hS => z4 o hS.1⟩
      unfold BoxAt at z3 ⊢
      rcases hf with hf | ⟨s, pos, rfl⟩
      · cases v <;> simp only [] at z3 ⊢ <;> first
          | (obtain ⟨cur', T', cs', rest', e1, e2, e3⟩ := z3; exact ⟨cur', T', cs', rest', e1, e2, e3.flat hf⟩)
          | simp [V.flat] at hf
      · exact z3
  · by_cases hkd : k = d
    · subst hkd; rw [hbd] at hk; cases hk
    · show (if k = d then some g else if (st'.bx k).isSome then bm k else none) = none
      rw [if_neg hkd, hk]; rfl
  · obtain ⟨y1, y2⟩ := hfo k _ hk
    obtain ⟨a1, c1, z1, z2⟩ := h.row _ _ _ y1
    refine ⟨a1, c1, (how k (by rw [hk]; rfl)).trans z1, ?_⟩
    unfold RowAt at z2 ⊢
    cases a1 with
    | none => exact z2
    | some ad =>
      obtain ⟨g', cur', p0, p1, p2, p3, p4, p5, p6⟩ := z2
      refine ⟨g', cur', p0, p1, p2, p3, p4, p5, fun o => ?_⟩
      rw [← p6 o]
      refine ⟨fun hS => hS.1, fun hS => ⟨hS, fun hb => ?_⟩⟩
      exact y2 (h.rInj _ _ _ _ _ _ _ _ z1 ho (by rw [p0]; exact hb))
  · show (if (st'.fr k).isSome then ow k else none) = none
    rw [hk]; rfl
  · rcases hbm2 _ _ h1 with ⟨rfl, rfl⟩ | ⟨h3, h4⟩ <;> rcases hbm2 _ _ h2 with ⟨h5, h6⟩ | ⟨h5, h6⟩
    · exact h5.symm
    · exact absurd rfl (hgb _ _ h6)
    · exact absurd h6 (hgb _ _ h4)
    · exact h.bInj _ _ _ h4 h6
  · obtain ⟨y1, y2⟩ := how2 _ _ h2
    rcases hbm2 _ _ h1 with ⟨rfl, rfl⟩ | ⟨h3, h4⟩
    · intro hb
      exact y2 (h.rInj _ _ _ _ _ _ _ _ y1 ho hb)
    · exact h.brDis _ _ _ _ _ _ h4 y1

def resF (tmps : Array Value) : ResultVar → Sem Value
  | .tmp t => pure (tmps.getD t undef)
  | .cell x t => do loadVar t (← asAddr (tmps.getD x undef))

theorem run_results {fn : Func} {tmps : Array Value} {cs : List Value} (h : (fn.results.toList.mapM (resF tmps)).run P w = .ok cs w) :
    (results fn tmps).run P w = .ok (if h : cs.toArray.size = 1 then cs.toArray[0] else .tuple cs.toArray) w := by
  have e : results fn tmps = (fn.results.mapM (resF tmps) >>= fun vs => pure (if h : vs.size = 1 then vs[0] else .tuple vs)) := by
    unfold results
    congr 1
  rw [e, Array.mapM_eq_mapM_toList]
  simp only [Sem.run_bind, Sem.run_map, h, Result.andThen_ok, Sem.run_pure]

theorem crsV_rep (hs : Sim P n w0 LX df S0 S bm ow st a w) : ∀ {rs : List ResultVar} {crs : List CR} {vs : List V}, compileR P rs = some crs → crsV st crs = some vs →
      ∃ cs : List Value, (rs.mapM (resF a.tmps)).run P w = .ok cs w ∧ All2 (Rep1 P S w noOw) vs cs
  | [], crs, vs, hc, hv => by
    cases hc; cases hv
    exact ⟨[], rfl, trivial⟩
  | .tmp t :: rs, crs, vs, hc, hv => by
    unfold compileR at hc
    split at hc
    · rename_i crs' h1
      cases hc
      unfold crsV at hv
      split at hv
      · rename_i v vs' h2 h3
        cases hv
        obtain ⟨cs, q1, q2⟩ := crsV_rep hs h1 h3
        replace h2 : (if (st.s t).mem then some (st.s t).untag else none) = some v := h2
        split at h2
        · rename_i hm
          cases h2
          refine ⟨a.tmps.getD t undef :: cs, ?_, ((hs.slot t).one hm).untag, q2⟩
          rw [List.mapM_cons, Sem.run_bind]
          simp only [resF, Sem.run_pure, Result.andThen_ok, Sem.run_bind, q1]
        · cases h2
      · cases hv
    · cases hc
  | .cell x t :: rs, crs, vs, hc, hv => by
    unfold compileR at hc
    split at hc
    · rename_i tt crs' h0 h1
      cases hc
      unfold crsV at hv
      split at hv
      · rename_i v vs' h2 h3
        cases hv
        obtain ⟨cs, q1, q2⟩ := crsV_rep hs h1 h3
        replace h2 : (match ldV tt (st.s x) st.bx with
          | some v => if v.mem then some v.untag else none
          | none => none) = some v := h2
        split at h2
        · rename_i u hu
          split at h2
          · cases h2
            obtain ⟨b, k, c, e1, e2, e3⟩ := ld_key hs h0 (hs.slot x) hu
            refine ⟨c :: cs, ?_, e3.untag, q2⟩
            rw [List.mapM_cons, Sem.run_bind]
            simp only [resF, e1, asAddr, Sem.run_pure, Result.andThen_ok, Sem.run_bind, e2, q1]
          · cases h2
        · cases h2
      · cases hv
    · cases hc

end
/-- The code of a function whose second statement defers a closure, without that statement. -/
def bodyD : Code → Code
  | .seq a (.seq (.region _ _ false) c) => .seq a c
  | c => c
end Go.Nu
/-
  NU, text 26: regions in which an operation panics.
-/
namespace Go.Nu
open Go Go.RowKit

/-- Which panic an operation raises. -/
def panG (E : Ext) (pg : PG) (st : St) : Option TypeId :=
  match pg.g, pg.po with
  | none, .ca _ f xs => if (xs.map (X.ev st)).all V.mem then E.x f (V.untags (xs.map (X.ev st))) else none
  | none, .pn x => match x.ev st with
    | .iface T (.agg _ []) => some T
    | _ => none
  | _, _ => none

/-- It looks at what a call that panicked would have given. -/
def deadR (dead : List Nat) (pg : PG) : Bool := pg.reads.any fun k => dead.contains k
/-- It turns no box and no row that is there. -/
def keepsB (po : PO) : Bool :=
  match po.cl with
  | .P | .L | .A | .N => true
  | _ => false
/-- These operations, in whatever order, come to a panic: those that hang on what panics are never run. -/
def PanI (E : Ext) (pgs : List PG) (T : TypeId) : List Nat → List Nat → Bool → St → Prop
  | [], _, hit, _ => hit = true
  | i :: R, dead, hit, st => ∃ pg, pgs[i]? = some pg ∧
    ((deadR dead pg = true ∧ PanI E pgs T R (pg.po.dst.toList ++ dead) hit st) ∨
     (deadR dead pg = false ∧ panG E pg st = some T ∧ PanI E pgs T R (pg.po.dst.toList ++ dead) true st) ∨
     (deadR dead pg = false ∧ keepsB pg.po = true ∧ apartD pg.po.dst dead = true ∧ ∃ st', stepG E pg st = some st' ∧ PanI E pgs T R dead hit st'))
def PanL (E : Ext) (T : TypeId) : List PG → List Nat → Bool → St → Prop
  | [], _, hit, _ => hit = true
  | pg :: l, dead, hit, st =>
    (deadR dead pg = true ∧ PanL E T l (pg.po.dst.toList ++ dead) hit st) ∨
     (deadR dead pg = false ∧ panG E pg st = some T ∧ PanL E T l (pg.po.dst.toList ++ dead) true st) ∨
     (deadR dead pg = false ∧ keepsB pg.po = true ∧ apartD pg.po.dst dead = true ∧ ∃ st', stepG E pg st = some st' ∧ PanL E T l dead hit st')

/-- The boxes that were there, and the slots that are not written, are as they were. -/
def Grows (nz : List TypeId) (st st' : St) : Prop := (∀ d v, st.bx d = some v → st'.bx d = some v) ∧ ∀ i, nz.contains (pinT + i) = true → st'.s i = st.s i
theorem Grows.refl (nz : List TypeId) (st : St) : Grows nz st st := ⟨fun _ _ h => h, fun _ _ => rfl⟩
theorem Grows.trans {nz : List TypeId} {st st' st'' : St} (h : Grows nz st st') (h' : Grows nz st' st'') : Grows nz st st'' := ⟨fun d v hv => h'.1 d v (h.1 d v hv), fun i hi => (h'.2 i hi).trans (h.2 i hi)⟩

theorem compileG_dst {P : Program} {nz : List TypeId} {n : Nat} {ops : Array Oper} {o : Oper} {pg : PG} (h : compileG P nz n ops o = some pg) {d : Nat} (hd : pg.po.dst = some d) : nz.contains (pinT + d) = false := by
  unfold compileG at h
  have key : ∀ {po : PO}, (match o.dst with | none => true | some d => decide (d < n) && !nz.contains (pinT + d)) = true → po = compileO P nz o → po.dst = some d → nz.contains (pinT + d) = false := by
    intro po h1 h2 h3
    subst h2
    rw [compileO_dst] at h3
    rw [h3] at h1
    simp only [Bool.and_eq_true, Bool.not_eq_true'] at h1
    exact h1.2
  split at h
  · rename_i po h1 h2 h3
    cases h
    exact key h2 (Option.some.inj h1).symm hd
  · rename_i po j want h1 h2 h3
    split at h
    · split at h
      · cases h
        exact key h2 (Option.some.inj h1).symm hd
      · cases h
    · cases h
  · cases h

theorem apartD_iff {d : Option Nat} {l : List Nat} : apartD d l = true ↔ ∀ x, d = some x → x ∉ l := by
  cases d <;> simp [apartD]
theorem grows_step {nz : List TypeId} {E : Ext} {pg : PG} {st st' : St} (h : stepG E pg st = some st') (hk : keepsB pg.po = true) (hdn : ∀ d, pg.po.dst = some d → nz.contains (pinT + d) = false) : Grows nz st st' := by
  rw [stepG_eff, Option.map_eq_some_iff] at h
  obtain ⟨e, he, rfl⟩ := h
  have key : e.bx = none ∨ ∃ d c, e.bx = some (d, c) ∧ st.bx d = none := by
    have k1 : effK pg.po.dst (pg.po.args.map (X.ev ⟨st.s, st.bx, st.fr⟩)) (pg.po.kd E) st.bx st.fr = some e → e.bx = none ∨ ∃ d c, e.bx = some (d, c) ∧ st.bx d = none := by
      intro h
      have hf := effK_form h
      rw [PO.kd_cl] at hf
      unfold keepsB at hk
      split at hk
      · rename_i hc; rw [hc] at hf; exact .inl hf.1
      · rename_i hc; rw [hc] at hf; exact .inl hf.1
      · rename_i hc; rw [hc] at hf
        obtain ⟨_, d, c, _, h2, h3⟩ := hf
        exact .inr ⟨d, c, h2, h3⟩
      · rename_i hc; rw [hc] at hf; exact .inl hf.1
      · cases hk
    unfold effG at he
    split at he
    · exact k1 he
    · split at he
      · exact k1 he
      · cases he; exact .inl rfl
      · cases he
  have hsl : ∀ i, nz.contains (pinT + i) = true → (app pg.po.dst e st).s i = st.s i := by
    intro i hi
    refine app_slots (l := [i]) (apartD_iff.2 fun x hx hm => ?_) i (by simp)
    have := hdn x hx
    simp at hm
    subst hm
    rw [hi] at this
    cases this
  refine ⟨fun d v hv => ?_, hsl⟩
  rw [app_bx]
  rcases key with e1 | ⟨d', c, e1, e2⟩
  · rw [e1]; exact hv
  · rw [e1]
    show upd st.bx d' (some c) d = some v
    unfold upd
    rw [if_neg]
    · exact hv
    · rintro rfl; rw [e2] at hv; cases hv

theorem deadR_iff {dead : List Nat} {pg : PG} : deadR dead pg = false ↔ ∀ k ∈ pg.reads, k ∉ dead := by
  simp [deadR]
theorem deadR_app {a b : List Nat} {pg : PG} : deadR (a ++ b) pg = false ↔ deadR a pg = false ∧ deadR b pg = false := by
  simp only [deadR_iff, List.mem_append, not_or]
  exact ⟨fun h => ⟨fun k hk => (h k hk).1, fun k hk => (h k hk).2⟩, fun h k hk => ⟨h.1 k hk, h.2 k hk⟩⟩
theorem deadR_apart {d : Option Nat} {pg : PG} (h : apartD d pg.reads = true) : deadR d.toList pg = false := by
  rw [deadR_iff]
  intro k hk hd
  cases d with
  | none => cases hd
  | some x =>
    simp at hd
    subst hd
    exact apartD_iff.1 h _ rfl hk
theorem apartD_app {d : Option Nat} {a b : List Nat} : apartD d (a ++ b) = true ↔ apartD d a = true ∧ apartD d b = true := by
  simp only [apartD_iff, List.mem_append, not_or]
  exact ⟨fun h => ⟨fun x hx => (h x hx).1, fun x hx => (h x hx).2⟩, fun h x hx => ⟨h.1 x hx, h.2 x hx⟩⟩

theorem panI_congr {E : Ext} {pgs : List PG} {T : TypeId} : ∀ {R : List Nat} {dead dead' : List Nat} {hit : Bool} {st : St}, (∀ k, k ∈ dead ↔ k ∈ dead') → PanI E pgs T R dead hit st → PanI E pgs T R dead' hit st
  | [], _, _, _, _, _, h => h
  | i :: R, dead, dead', hit, st, hd, h => by
    obtain ⟨pg, hpg, h⟩ := h
    have e : deadR dead' pg = deadR dead pg := by
      cases hq : deadR dead pg with
      | false => rw [deadR_iff] at hq ⊢; exact fun k hk hk' => hq k hk ((hd k).2 hk')
      | true =>
        cases hq' : deadR dead' pg with
        | true => rfl
        | false =>
          rw [deadR_iff] at hq'
          have := (deadR_iff (dead := dead) (pg := pg)).2 fun k hk hk' => hq' k hk ((hd k).1 hk')
          rw [hq] at this; cases this
    have hd2 : ∀ k, k ∈ pg.po.dst.toList ++ dead ↔ k ∈ pg.po.dst.toList ++ dead' := fun k => by simp only [List.mem_append, hd k]
    refine ⟨pg, hpg, ?_⟩
    rw [e]
    rcases h with ⟨h1, h2⟩ | ⟨h1, h2, h3⟩ | ⟨h1, h2, h3, st', h4, h5⟩
    · exact .inl ⟨h1, panI_congr hd2 h2⟩
    · exact .inr (.inl ⟨h1, h2, panI_congr hd2 h3⟩)
    · exact .inr (.inr ⟨h1, h2, by rw [apartD_iff] at h3 ⊢; exact fun x hx hm => h3 x hx ((hd x).2 hm), st', h4, panI_congr hd h5⟩)

theorem panG_slots {E : Ext} {pg : PG} {st st' : St} (h : ∀ i ∈ pg.reads, st'.s i = st.s i) : panG E pg st' = panG E pg st := by
  unfold panG
  split
  · rename_i d f xs hg hp
    have h1 : xs.map (X.ev st') = xs.map (X.ev st) := ev_congr (s := st.s) (s' := st'.s) fun i hi => h i (by unfold PG.reads; rw [hp]; exact List.mem_append_left _ hi)
    rw [h1]
  · rename_i x hg hp
    have h1 : [x].map (X.ev st') = [x].map (X.ev st) := ev_congr (s := st.s) (s' := st'.s) fun i hi => h i (by unfold PG.reads; rw [hp]; exact List.mem_append_left _ hi)
    simp only [List.map_cons, List.map_nil, List.cons.injEq, and_true] at h1
    rw [h1]
  · rfl

theorem step_slots {E : Ext} {x y : PG} {st st' : St} (h : stepG E y st = some st') (hd : apartD y.po.dst x.reads = true) : ∀ i ∈ x.reads, st'.s i = st.s i := by
  rw [stepG_eff, Option.map_eq_some_iff] at h
  obtain ⟨e, _, rfl⟩ := h
  exact app_slots hd

theorem mem_swap {α : Type} {a b c : List α} (k : α) : k ∈ a ++ (b ++ c) ↔ k ∈ b ++ (a ++ c) := by
  simp only [List.mem_append]
  constructor <;> (rintro (h | h | h) <;> simp [h])

theorem panI_front {E : Ext} {pgs : List PG} {T : TypeId} {i : Nat} {x : PG} (hx : pgs[i]? = some x) : ∀ (R1 R2 dead : List Nat) (hit : Bool) (st : St), deadR dead x = false → (∀ j ∈ R1, ∃ y, pgs[j]? = some y ∧ indep y x = true) →
    PanI E pgs T (R1 ++ i :: R2) dead hit st → PanI E pgs T (i :: (R1 ++ R2)) dead hit st
  | [], R2, dead, hit, st, _, _, h => h
  | j :: R1, R2, dead, hit, st, hd, hj, h => by
    obtain ⟨y, hy, hind⟩ := hj j (by simp)
    obtain ⟨y', hy', h⟩ := h
    obtain rfl : y' = y := Option.some.inj (hy'.symm.trans hy)
    have ih := fun dead hit st hd h => panI_front (E := E) (T := T) hx R1 R2 dead hit st hd (fun k hk => hj k (by simp [hk])) h
    have hi := hind
    unfold indep at hi
    simp only [Bool.and_eq_true] at hi
    obtain ⟨⟨⟨i1, i2⟩, i3⟩, _⟩ := hi
    have hdy : deadR (y'.po.dst.toList ++ dead) x = false := deadR_app.2 ⟨deadR_apart i1, hd⟩
    rcases h with ⟨h1, h2⟩ | ⟨h1, h2, h3⟩ | ⟨h1, h2, h3, st1, h4, h5⟩
    · obtain ⟨x', hx', g⟩ := ih _ _ _ hdy h2
      obtain rfl : x' = x := Option.some.inj (hx'.symm.trans hx)
      rcases g with ⟨g1, _⟩ | ⟨_, g2, g3⟩ | ⟨_, g2, g3, st', g4, g5⟩
      · rw [hdy] at g1; cases g1
      · refine ⟨x', hx, .inr (.inl ⟨hd, g2, y', hy, .inl ⟨?_, panI_congr mem_swap g3⟩⟩)⟩
        cases hq : deadR (x'.po.dst.toList ++ dead) y' with
        | true => rfl
        | false => rw [(deadR_app.1 hq).2] at h1; cases h1
      · exact ⟨x', hx, .inr (.inr ⟨hd, g2, (apartD_app.1 g3).2, st', g4, y', hy, .inl ⟨h1, g5⟩⟩)⟩
    · obtain ⟨x', hx', g⟩ := ih _ _ _ hdy h3
      obtain rfl : x' = x := Option.some.inj (hx'.symm.trans hx)
      rcases g with ⟨g1, _⟩ | ⟨_, g2, g3⟩ | ⟨_, g2, g3, st', g4, g5⟩
      · rw [hdy] at g1; cases g1
      · exact ⟨x', hx, .inr (.inl ⟨hd, g2, y', hy, .inr (.inl ⟨deadR_app.2 ⟨deadR_apart i2, h1⟩, h2, panI_congr mem_swap g3⟩)⟩)⟩
      · exact ⟨x', hx, .inr (.inr ⟨hd, g2, (apartD_app.1 g3).2, st', g4, y', hy, .inr (.inl ⟨h1, (panG_slots (step_slots g4 i2)).trans h2, g5⟩)⟩)⟩
    · obtain ⟨x', hx', g⟩ := ih _ _ _ hd h5
      obtain rfl : x' = x := Option.some.inj (hx'.symm.trans hx)
      rcases g with ⟨g1, _⟩ | ⟨_, g2, g3⟩ | ⟨_, g2, g3, st', g4, g5⟩
      · rw [hd] at g1; cases g1
      · exact ⟨x', hx, .inr (.inl ⟨hd, (panG_slots (step_slots h4 i1)).symm.trans g2, y', hy, .inr (.inr ⟨deadR_app.2 ⟨deadR_apart i2, h1⟩, h2, apartD_app.2 ⟨i3, h3⟩, st1, h4, g3⟩)⟩)⟩
      · obtain ⟨st1', q1, q2⟩ := stepG_swap hind h4 g4
        exact ⟨x', hx, .inr (.inr ⟨hd, g2, g3, st1', q1, y', hy, .inr (.inr ⟨h1, h2, h3, st', q2, g5⟩)⟩)⟩

/-- What a run of a piece of code comes to. -/
def PostC (P : Program) (nz : List TypeId) (n : Nat) (w0 : World) (LX : Nat → Prop) (df : Df) (S0 : Nat → Nat → Prop) (Q : Ex → St → Prop) : Exit → Act → World → Prop
  | .normal, a, w => ∃ st, Q .normal st ∧ SimE P n w0 LX df S0 st a w
  | .exit i, a, w => ∃ st, Q (.exit i) st ∧ SimE P n w0 LX df S0 st a w
  | .ret, a, w => ∃ st, Q .ret st ∧ SimE P n w0 LX df S0 st a w
  | .panic c, a, w => ∃ T st st', c = panC T ∧ Q (.pan T) st ∧ Grows nz st st' ∧ SimE P n w0 LX df S0 st' a w
  | _, _, _ => False

theorem panL_range {E : Ext} {T : TypeId} {pgs : List PG} : ∀ (l : List PG) (k : Nat) (dead : List Nat) (hit : Bool) (st : St), (∀ j, l[j]? = pgs[k + j]?) → PanL E T l dead hit st → PanI E pgs T (List.range' k l.length) dead hit st
  | [], _, _, _, _, _, h => h
  | pg :: l, k, dead, hit, st, hl, h => by
    have h0 : pgs[k]? = some pg := by simpa using (hl 0).symm
    have ih := fun dead hit st h => panL_range (E := E) (T := T) l (k + 1) dead hit st (fun j => by have := hl (j + 1); simpa [Nat.add_assoc, Nat.add_comm 1 j] using this) h
    simp only [List.length_cons, List.range'_succ]
    refine ⟨pg, h0, ?_⟩
    rcases h with ⟨h1, h2⟩ | ⟨h1, h2, h3⟩ | ⟨h1, h2, h3, st', h4, h5⟩
    · exact .inl ⟨h1, ih _ _ _ h2⟩
    · exact .inr (.inl ⟨h1, h2, ih _ _ _ h3⟩)
    · exact .inr (.inr ⟨h1, h2, h3, st', h4, ih _ _ _ h5⟩)

section
variable {P : Program} {nz : List TypeId} {n : Nat} {w0 w w' : World} {LX : Nat → Prop} {df : Df} {S0 S S' : Nat → Nat → Prop} {bm : Bm} {ow ow' : Ow} {st st' : St} {a : Act} {o : Oper} {E : Ext}

theorem repC_iface0 {T t : TypeId} {c : Value} (h : RepC P S w ow (.iface T (.agg t [])) [c]) : c = .iface T (.agg #[]) := by
  generalize hv : V.iface T (.agg t []) = v at h
  generalize hc : [c] = cs at h
  cases h with
  | iface1 _ h1 _ => cases hv; cases h1
  | iface2 _ h =>
    cases hv
    cases hc
    generalize hv : V.agg t [] = v at h
    cases h with
    | agg _ _ _ h3 _ => cases hv; cases h3; rfl
    | row _ h3 _ _ => cases hv; cases h3; rfl
    | _ => cases hv
  | _ => cases hv

theorem compileOp_ca {d : Option Nat} {f : FuncId} {xs : List X} (h : compileOp P nz o = some (.ca d f xs)) : ∃ args ts, o.op = .call { callee := .value (.func f), args := args, argTypes := ts } ∧ cXs args.toList = some xs := by
  unfold compileOp at h
  split at h
  all_goals (try (repeat' (split at h)))
  all_goals first
    | (cases h; done)
    | (simp only [Option.some.injEq, reduceCtorEq] at h; done)
    | (cases h; rename_i ho _ hx _ _ _; exact ⟨_, _, ho, hx⟩)
    | (cases h; rename_i ho _ hx _ _ _ _; exact ⟨_, _, ho, hx⟩)
    | (cases h; exact ⟨_, _, by assumption, by assumption⟩)
theorem compileOp_pn {x : X} (h : compileOp P nz o = some (.pn x)) : ∃ y, o.op = .panic y ∧ cX y = some x := by
  unfold compileOp at h
  split at h
  all_goals (try (repeat' (split at h)))
  all_goals first
    | (cases h; done)
    | (simp only [Option.some.injEq, reduceCtorEq] at h; done)
    | (cases h; exact ⟨_, by assumption, by assumption⟩)

theorem pan_at {ops : Array Oper} {i : Nat} {pg : PG} {T : TypeId} (hE : ExtOk P w0 LX E) (hi : ops[i]? = some o) (hpg : compileG P nz n ops o = some pg) (hp : panG E pg st = some T) (hs : Sim P n w0 LX df S0 S bm ow st a w)
    {K : Act → World → Prop} {Q : Exit → Act → World → Prop} (hQ : ∀ w', SimE P n w0 LX df S0 st a w' → Q (.panic (panC T)) a w') : wpOp P ops Q i K a w := by
  unfold wpOp
  simp only [hi]
  unfold compileG at hpg
  split at hpg
  · rename_i po h1 h2 h3
    obtain rfl := Option.some.inj h1
    cases hpg
    have hw : Region.wanted o (yielded ops a.tmps) = true := by simp [Region.wanted, h3]
    rw [if_pos hw]
    left
    unfold panG at hp
    split at hp
    · rename_i d f xs _ hpo
      replace hpo : compileO P nz o = .ca d f xs := hpo
      unfold compileO at hpo
      split at hpo
      · rename_i po hc
        subst hpo
        obtain ⟨args, ts, ho, hxs⟩ := compileOp_ca hc
        by_cases hm : (xs.map (X.ev st)).all V.mem = true
        · rw [if_pos hm] at hp
          obtain ⟨G, hk, hE⟩ := hE
          obtain ⟨g1, g2⟩ := hE.x _ _ _ hp
          have hev := cXs_ev hs hxs
          have hrun : (execOp a.eval o).run P w = .ok (.enter f (args.map a.eval)) w := by
            simp [execOp, ho, resolve, Act.eval, Deferred.ofValue, invoke, run_callFunc g1]
          unfold Oper.wp
          rw [hrun]
          have h1 := g2 w S (args.map a.eval).toList (hk _ hs.below) hs.slt (by rw [Array.toList_map]; exact args_rep hev hm)
          rw [Array.toArray_toList] at h1
          refine Calls.mono h1 ?_
          rintro e w' ⟨rfl, hb, S', q1, q2⟩
          exact hQ w' ⟨S', bm, ow, hs.called hb q1 q2⟩
        · rw [if_neg hm] at hp; cases hp
      · cases hpo
    · rename_i x _ hpo
      replace hpo : compileO P nz o = .pn x := hpo
      unfold compileO at hpo
      split at hpo
      · rename_i po hc
        subst hpo
        obtain ⟨y, ho, hx⟩ := compileOp_pn hc
        split at hp
        · rename_i T' t hv
          cases hp
          have hev := hs.ev hx
          rw [hv] at hev
          have hc := repC_iface0 (show RepC P S w ow (.iface T (.agg t [])) [a.eval y] from hev)
          unfold Oper.wp
          have hrun : (execOp a.eval o).run P w = .halt (.panic (.iface T (.agg #[]))) w := by
            unfold execOp
            rw [ho]
            simp only [hc]
            rfl
          rw [hrun]
          exact hQ w ⟨S, bm, ow, hs⟩
        · cases hp
      · cases hpo
    · cases hp
  · rename_i po j want h1 h2 h3
    split at hpg
    · split at hpg
      · cases hpg; cases hp
      · cases hpg
    · cases hpg
  · cases hpg

/-- In the order of the text. -/
theorem pan_list {ops : Array Oper} {pgs : List PG} {Q : Exit → Act → World → Prop} {T : TypeId} {st0 : St} (hpn : PinOk nz df) (hE : ExtOk P w0 LX E) (hc : compileL P nz n ops ops.toList = some pgs) (hQ : ∀ st a w, Grows nz st0 st → SimE P n w0 LX df S0 st a w → Q (.panic (panC T)) a w) :
    ∀ (R : List Nat) (st : St) (a : Act) (w : World), (∀ i ∈ R, i < ops.size) → PanI E pgs T R [] false st → Grows nz st0 st → SimE P n w0 LX df S0 st a w → wpOps P ops Q R a w
  | [], st, a, w, _, h, _, hs => by cases h
  | i :: R, st, a, w, hlt, h, hg, ⟨S, bm, ow, hs⟩ => by
    obtain ⟨pg, hpg, h⟩ := h
    rw [wpOps_cons]
    have hi : i < ops.size := hlt i (by simp)
    have ho : ops.toList[i]? = some ops[i] := by simp [hi]
    obtain ⟨pg', q1, q2⟩ := (compileL_get hc).2 i _ ho
    obtain rfl : pg' = pg := Option.some.inj (q1.symm.trans hpg)
    rcases h with ⟨h1, _⟩ | ⟨_, h2, _⟩ | ⟨_, h2, _, st1, h4, h5⟩
    · simp [deadR] at h1
    · exact pan_at hE (by simp [hi]) q2 h2 hs fun w' hs' => hQ st a w' hg hs'
    · exact sim_at hpn hE (by simp [hi]) q2 h4 hs fun a' w' hs' => pan_list hpn hE hc hQ R st1 a' w' (fun k hk => hlt k (by simp [hk])) h5 (hg.trans (grows_step h4 h2 fun d hd => compileG_dst q2 hd)) hs'

theorem any_pan {ops : Array Oper} {pgs pgs0 : List PG} {Q : Exit → Act → World → Prop} {T : TypeId} {st0 : St} (hpn : PinOk nz df) (hE : ExtOk P w0 LX E) (hc : compileL P nz n ops ops.toList = some pgs0)
    (hfix : ∀ (i : Nat) (pg0 : PG), pgs0[i]? = some pg0 → ∃ pg : PG, pgs[i]? = some pg ∧ (∀ st st1, stepG E pg st = some st1 → stepG E pg0 st = some st1) ∧ (∀ st T, panG E pg st = some T → panG E pg0 st = some T) ∧ ∀ d, pg.po.dst = some d → pg0.po.dst = some d) (hord : orderOk ops pgs = true)
    (hQ : ∀ st a w, Grows nz st0 st → SimE P n w0 LX df S0 st a w → Q (.panic (panC T)) a w) :
    ∀ (fuel : Nat) (listed : Array Bool) (R : List Nat) (st : St) (a : Act) (w : World), R.length = fuel → listed.size = ops.size → (∀ i, i ∈ R ↔ i < ops.size ∧ listed.getD i false = false) → R.Pairwise (· < ·) → Closed ops listed →
      PanI E pgs T R [] false st → Grows nz st0 st → SimE P n w0 LX df S0 st a w → wpAny P .any ops Q fuel listed a w := by
  intro fuel
  induction fuel with
  | zero =>
    intro listed R st a w hlen hsz hR _ _ hev _ hs
    have hR0 : R = [] := List.eq_nil_of_length_eq_zero hlen
    subst hR0
    cases hev
  | succ fuel ih =>
    intro listed R st a w hlen hsz hR hsort hcl hev hg hs
    have toT : ∀ k, k < ops.size → listed.getD k true = listed.getD k false := fun k hk => by
      rw [Array.getD_eq_getD_getElem?, Array.getD_eq_getD_getElem?, Array.getElem?_eq_getElem (by omega)]
      rfl
    refine ⟨fun hnil => ?_, fun i hi => ?_⟩
    · exfalso
      cases R with
      | nil => simp at hlen
      | cons m R =>
        obtain ⟨hm1, hm2⟩ := (hR m).1 (by simp)
        have ho : ops[m]? = some ops[m] := by simp [hm1]
        obtain ⟨h1, _⟩ := orderOk_spec hord ho
        have hin : m ∈ Region.ready .any ops listed := ready_mk _ ho (by rw [toT m hm1]; exact hm2) fun e he hb => by
          have hlt := h1 e he hb
          cases hq : listed.getD e.on false with
          | true => rfl
          | false =>
            have hmem := (hR e.on).2 ⟨by omega, hq⟩
            rcases List.mem_cons.1 hmem with h2 | h2
            · omega
            · have := (List.pairwise_cons.1 hsort).1 _ h2
              omega
        rw [hnil] at hin
        cases hin
    · obtain ⟨o, ho, hl, hedges⟩ := ready_spec hi
      have hlt := (Array.getElem?_eq_some_iff.1 ho).1
      have hiR := (hR i).2 ⟨hlt, by rw [← toT i hlt]; exact hl⟩
      obtain ⟨R1, R2, rfl⟩ := List.append_of_mem hiR
      obtain ⟨h1, h2⟩ := orderOk_spec hord ho
      obtain ⟨pg0, hpg0, hcg⟩ := (compileL_get hc).2 i o (by simpa using ho)
      obtain ⟨pg, hpg, href, hrefp, hdst⟩ := hfix i pg0 hpg0
      have hs1 := List.pairwise_append.1 hsort
      have hfront := panI_front (E := E) (T := T) hpg R1 R2 [] false st (by simp [deadR]) (fun j hj => by
        have hji : j < i := hs1.2.2 j hj i (by simp)
        rcases h2 j hji with hb | ⟨y, x, hy, hx, hind⟩
        · exfalso
          have hjl := ((hR j).1 (by simp [hj])).2
          rw [before_eq] at hb
          have hbb := before_bits ops.toList #[] i j o (by simpa using ho) (fun e he hb => by simpa using h1 e he hb) (by simpa using hb)
          obtain ⟨e, he, hbi, hor⟩ := hbb
          have hle := hedges e he hbi
          rcases hor with rfl | hor
          · rw [hjl] at hle; cases hle
          · rw [← before_eq] at hor
            have := hcl _ _ hle hor
            rw [hjl] at this; cases this
        · obtain rfl : x = pg := Option.some.inj (hx.symm.trans hpg)
          exact ⟨y, hy, hind⟩) hev
      obtain ⟨pg', hpg', hfront⟩ := hfront
      obtain rfl : pg' = pg := Option.some.inj (hpg'.symm.trans hpg)
      obtain ⟨S, bm, ow, hs'⟩ := hs
      rcases hfront with ⟨q1, _⟩ | ⟨_, q2, _⟩ | ⟨_, q2, _, st1, hst1, hfront⟩
      · simp [deadR] at q1
      · exact pan_at hE ho hcg (hrefp _ _ q2) hs' fun w' hs2 => hQ st a w' hg hs2
      · refine sim_at hpn hE ho hcg (href _ _ hst1) hs' fun a' w' hs2 => ?_
        have hi' : i < listed.size := by omega
        refine ih (listed.setIfInBounds i true) (R1 ++ R2) st1 a' w' ?_ (by simp [hsz]) (fun k => ?_) ?_ (fun x y hx hy => ?_) hfront (hg.trans (grows_step hst1 q2 fun d hd => compileG_dst hcg (hdst d hd))) hs2
        · simp at hlen ⊢; omega
        · rw [set_getD hi']
          have hk := hR k
          have hnot : i ∉ R1 ++ R2 := by
            intro hm
            rcases List.mem_append.1 hm with hm | hm
            · have := hs1.2.2 i hm i (by simp); omega
            · have := (List.pairwise_cons.1 hs1.2.1).1 i hm; omega
          by_cases hki : k = i
          · subst hki
            simp only [if_true, Bool.true_eq_false, and_false, iff_false]
            exact hnot
          · rw [if_neg hki, ← hk]
            simp [hki]
        · rw [List.pairwise_append]
          exact ⟨hs1.1, (List.pairwise_cons.1 hs1.2.1).2, fun x hx y hy => hs1.2.2 x hx y (by simp [hy])⟩
        · rw [set_getD hi'] at hx ⊢
          split
          · rfl
          · rename_i hyi
            split at hx
            · rename_i hxi
              subst hxi
              rw [before_eq] at hy
              have hbb := before_bits ops.toList #[] x y o (by simpa using ho) (fun e he hb => by simpa using h1 e he hb) (by simpa using hy)
              obtain ⟨e, he, hbi, hor⟩ := hbb
              have hle := hedges e he hbi
              rcases hor with rfl | hor
              · exact hle
              · rw [← before_eq] at hor
                exact hcl _ _ hle hor
            · exact hcl _ _ hx hy

theorem panG_fix {bs : List Nat} {pg : PG} {st : St} {T : TypeId} (h : panG E (fixG bs pg) st = some T) : panG E pg st = some T := by
  obtain ⟨g, po⟩ := pg
  unfold fixG at h
  split at h
  all_goals first
    | exact h
    | (simp only [panG] at h; cases g <;> cases h)

theorem fixG_dst (bs : List Nat) (pg : PG) : (fixG bs pg).po.dst = pg.po.dst := by
  obtain ⟨g, po⟩ := pg
  unfold fixG
  split <;> first
    | rfl
    | (rename_i h; simp only at h; subst h; rfl)
/-- A region that panics. -/
theorem pan_region {ops : Array Oper} {pgs : List PG} {id : Nat} {draw : Bool} {Q : Exit → Act → World → Prop} {T : TypeId} (hpn : PinOk nz df) (hE : ExtOk P w0 LX E) (hm : P.follows .mixedOrders = true) (hc : compileL P nz n ops ops.toList = some pgs)
    (hord : draw = true → orderOk ops pgs = true) (hev : PanL E T pgs [] false st) (hs : SimE P n w0 LX df S0 st a w) (hQ : ∀ st' a w, Grows nz st st' → SimE P n w0 LX df S0 st' a w → Q (.panic (panC T)) a w) : (Code.region id ops draw).wp P Q a w := by
  have hlen : ops.size = pgs.length := by simpa using (compileL_get hc).1
  have hev' : PanI E pgs T (List.range ops.size) [] false st := by
    rw [List.range_eq_range', hlen]
    exact panL_range pgs 0 [] false st (fun j => by simp) hev
  cases draw with
  | false => exact wp_region (pan_list hpn hE hc hQ _ st a w (fun i hi => List.mem_range.1 hi) hev' (Grows.refl nz st) hs)
  | true =>
    refine wp_region_any hm ?_
    refine any_pan hpn hE hc (fun i pg h => ⟨pg, h, fun _ _ h => h, fun _ _ h => h, fun _ h => h⟩) (hord rfl) hQ ops.size (Array.replicate ops.size false) (List.range ops.size) st a _ (by simp) (by simp) (fun i => ?_) List.pairwise_lt_range (fun i j h _ => ?_) hev' (Grows.refl nz st) ?_
    · simp only [List.mem_range, Array.getD_eq_getD_getElem?, Array.getElem?_replicate]
      by_cases hi : i < ops.size <;> simp [hi]
    · simp only [Array.getD_eq_getD_getElem?, Array.getElem?_replicate] at h
      by_cases hi : i < ops.size <;> simp [hi] at h
    · obtain ⟨S, bm, ow, hs⟩ := hs
      exact ⟨S, bm, ow, hs.world rfl rfl rfl rfl⟩
theorem pan_regionF {ops : Array Oper} {pgs : List PG} {id : Nat} {Q : Exit → Act → World → Prop} {T : TypeId} (hpn : PinOk nz df) (hE : ExtOk P w0 LX E) (hm : P.follows .mixedOrders = true) (hc : compileL P nz n ops ops.toList = some pgs)
    (hord : orderOk ops (fixL pgs) = true) (hev : PanL E T (fixL pgs) [] false st) (hs : SimE P n w0 LX df S0 st a w) (hQ : ∀ st' a w, Grows nz st st' → SimE P n w0 LX df S0 st' a w → Q (.panic (panC T)) a w) : (Code.region id ops true).wp P Q a w := by
  have hlen0 : ops.size = pgs.length := by simpa using (compileL_get hc).1
  have hlen : ops.size = (fixL pgs).length := by rw [hlen0]; simp [fixL]
  have hev' : PanI E (fixL pgs) T (List.range ops.size) [] false st := by
    rw [List.range_eq_range', hlen]
    exact panL_range (fixL pgs) 0 [] false st (fun j => by simp) hev
  refine wp_region_any hm ?_
  refine any_pan hpn hE hc (fun i pg h => ⟨fixG (stBoxes pgs) pg, by unfold fixL; rw [List.getElem?_map, h]; rfl, fun _ _ h => step_fix h, fun _ _ h => panG_fix h, fun d h => (fixG_dst _ _).symm.trans h⟩) hord hQ ops.size (Array.replicate ops.size false) (List.range ops.size) st a _ (by simp) (by simp) (fun i => ?_) List.pairwise_lt_range (fun i j h _ => ?_) hev' (Grows.refl nz st) ?_
  · simp only [List.mem_range, Array.getD_eq_getD_getElem?, Array.getElem?_replicate]
    by_cases hi : i < ops.size <;> simp [hi]
  · simp only [Array.getD_eq_getD_getElem?, Array.getElem?_replicate] at h
    by_cases hi : i < ops.size <;> simp [hi] at h
  · obtain ⟨S, bm, ow, hs⟩ := hs
    exact ⟨S, bm, ow, hs.world rfl rfl rfl rfl⟩
end
end Go.Nu
