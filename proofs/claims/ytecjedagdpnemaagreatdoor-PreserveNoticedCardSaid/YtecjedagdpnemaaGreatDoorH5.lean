/-
  Objects, editions, files, entries in memory: what their representations say, and how they are made. No condition beyond what each line says.
-/
import Derived.Test.YtecjedagdpnemaaGreatDoorH4
import Derived.Test.YtecjedagdpnemaaGreatDoorN
namespace Go.Proofs.YtecjedagdpnemaaGreatDoor
open Go Go.Nu Go.RowKit Go.Sort
set_option linter.unusedVariables false
theorem cons_inv {S : Nat → Nat → Prop} {w : World} {ow : Ow} {x : V} {xs : List V} {cs : List Value} (h : RepCs Tryz.prog S w ow (x :: xs) cs) : ∃ c1 c2, cs = c1 ++ c2 ∧ RepC Tryz.prog S w ow x c1 ∧ RepCs Tryz.prog S w ow xs c2 := by
  generalize hx : x :: xs = l at h
  cases h with
  | nil => cases hx
  | cons _ h1 h2 => cases hx; exact ⟨_, _, rfl, h1, h2⟩
theorem nil_inv {S : Nat → Nat → Prop} {w : World} {ow : Ow} {cs : List Value} (h : RepCs Tryz.prog S w ow [] cs) : cs = [] := by
  generalize hx : ([] : List V) = l at h
  cases h with
  | nil => rfl
  | cons _ h1 h2 => cases hx
theorem str_inv {S : Nat → Nat → Prop} {w : World} {ow : Ow} {s : List UInt8} {cs : List Value} (h : RepC Tryz.prog S w ow (.str s) cs) : cs = [.string ⟨s.toArray⟩] := by
  cases h; rfl
theorem int_inv {S : Nat → Nat → Prop} {w : World} {ow : Ow} {k : IntKind} {n : Int} {cs : List Value} (h : RepC Tryz.prog S w ow (.int k n) cs) : cs = [.int k n] := by
  cases h; rfl
theorem bool_inv {S : Nat → Nat → Prop} {w : World} {ow : Ow} {b : Bool} {cs : List Value} (h : RepC Tryz.prog S w ow (.bool b) cs) : cs = [.bool b] := by
  cases h; rfl
theorem agg_inv {S : Nat → Nat → Prop} {w : World} {ow : Ow} {t : TypeId} {fs : List V} {cs : List Value} (ht : t < 1000000) (h : RepC Tryz.prog S w ow (.agg t fs) cs) : RepCs Tryz.prog S w ow fs cs := by
  generalize hv : V.agg t fs = v at h
  cases h with
  | agg _ k1 k2 k3 k4 => cases hv; exact k3
  | row _ k1 k2 k3 =>
    rename_i e es
    injection hv with h1 _
    exfalso
    have h2 : @Eq Nat t (1000000 + e) := h1
    have h3 : @LT.lt Nat _ t 1000000 := ht
    omega
  | _ => cases hv
theorem sl_one {S : Nat → Nat → Prop} {w : World} {ow : Ow} {e : TypeId} {es : List V} {cs : List Value} (h : RepC Tryz.prog S w ow (.sl none e es) cs) : ∃ sv, cs = [sv] := by
  generalize hv : V.sl none e es = v at h
  cases h with
  | nilsl => exact ⟨_, rfl⟩
  | sl => exact ⟨_, rfl⟩
  | emp => exact ⟨_, rfl⟩
  | _ => cases hv
theorem sl_form {S : Nat → Nat → Prop} {w : World} {ow : Ow} {e : TypeId} {es : List V} {sv : Value} (h : RepC Tryz.prog S w ow (.sl none e es) [sv]) : ∃ a cap, sv = .slice a es.length cap := by
  generalize hv : V.sl none e es = v at h
  generalize hc : [sv] = cc at h
  cases h with
  | nilsl => cases hc; cases hv; exact ⟨_, _, rfl⟩
  | sl => cases hc; cases hv; exact ⟨_, _, rfl⟩
  | emp => cases hc; cases hv; exact ⟨_, _, rfl⟩
  | _ => cases hv
theorem le_below {S : Nat → Nat → Prop} {w W : World} (hS : ∀ b o, S b o → b < w.heap.size) (hb : Below w.heap.size w W) : Le S S noOw noOw w W :=
  ⟨fun _ _ h => h, fun b o h => hb.cell (p := ⟨b, o, none⟩) (hS b o h), fun _ _ _ _ h => by cases h⟩
theorem reps_app {S : Nat → Nat → Prop} {w : World} {ow : Ow} : ∀ {a b : List V} {ca cb : List Value}, RepCs Tryz.prog S w ow a ca → RepCs Tryz.prog S w ow b cb → RepCs Tryz.prog S w ow (a ++ b) (ca ++ cb)
  | [], b, ca, cb, h1, h2 => by rw [nil_inv h1]; exact h2
  | x :: a, b, ca, cb, h1, h2 => by
    obtain ⟨c1, c2, rfl, p1, p2⟩ := cons_inv h1
    rw [List.append_assoc]
    exact .cons _ p1 (reps_app p2 h2)
theorem sl_at {S : Nat → Nat → Prop} {w : World} {e : TypeId} {es : List V} {sv : Value} (k : Nat) (hk0 : 0 < k) (hk : ∀ cs, RepCs Tryz.prog S w noOw es cs → cs.length = es.length * k ∧ ∀ u ∈ cs, u.oneCell' = true) (h : RepC Tryz.prog S w noOw (.sl none e es) [sv]) :
    ∃ cs, SlAt w k sv es.length cs ∧ RepCs Tryz.prog S w noOw es cs ∧ (∀ g, sv.ownBlock = some g → es ≠ [] → ∃ o, S g o) := by
  generalize hv : V.sl none e es = v at h
  generalize hc : [sv] = cc at h
  cases h with
  | nilsl => cases hc; cases hv; exact ⟨[], SlAt.nil w k, .nil _, fun g h => by cases h⟩
  | emp =>
    cases hc; cases hv
    exact ⟨[], ⟨by simp, (fun u hu => by cases hu), _, _, rfl, (fun h => by cases h), fun ad _ j u hu => by cases hu⟩, .nil _, fun g _ h => absurd rfl h⟩
  | sl _ h1 h2 h3 h4 h5 h6 =>
    cases hc; cases hv
    obtain ⟨q1, q2⟩ := hk _ h1
    refine ⟨_, ⟨q1, q2, _, _, rfl, (fun h => by cases h), fun ad e j u hu => ?_⟩, h1, fun g hg hne => ?_⟩
    · cases e
      rw [Nu.addr_add]
      exact (h3 j u hu).2
    · cases hg
      rename_i cs b o cap
      cases cs with
      | nil =>
        exfalso
        have h0 : 0 < es.length := List.length_pos_iff.2 hne
        have := Nat.mul_pos h0 hk0
        rw [← q1] at this
        exact absurd this (by simp)
      | cons u cs => exact ⟨_, (h3 0 u rfl).1⟩
  | _ => cases hv
theorem lenX (l : List Fix) : (l.map (toV shFix)).length = l.length := List.length_map _
theorem lenF (l : List File) : (l.map (toV shFile)).length = l.length := List.length_map _
theorem lenE (l : List Edn) : (l.map (toV shEdn)).length = l.length := List.length_map _
theorem reps_fix {S : Nat → Nat → Prop} {w : World} {ow : Ow} : ∀ l : List Fix, RepCs Tryz.prog S w ow (l.map (toV shFix)) (l.flatMap encX)
  | [] => .nil _
  | x :: l => .cons _ (rep_fix x) (reps_fix l)
theorem fix_inv {S : Nat → Nat → Prop} {w : World} {ow : Ow} {x : Fix} {cs : List Value} (h : RepC Tryz.prog S w ow (toV shFix x) cs) : cs = encX x := by
  change RepC Tryz.prog S w ow (.agg 65 [.int .i64 x.1, .int .i64 x.2.1, .int .i64 x.2.2.1, .str x.2.2.2.1, .str x.2.2.2.2.1, .bool x.2.2.2.2.2]) cs at h
  obtain ⟨c1, r1, rfl, p1, q1⟩ := cons_inv (agg_inv (by decide) h)
  obtain ⟨c2, r2, rfl, p2, q2⟩ := cons_inv q1
  obtain ⟨c3, r3, rfl, p3, q3⟩ := cons_inv q2
  obtain ⟨c4, r4, rfl, p4, q4⟩ := cons_inv q3
  obtain ⟨c5, r5, rfl, p5, q5⟩ := cons_inv q4
  obtain ⟨c6, r6, rfl, p6, q6⟩ := cons_inv q5
  rw [int_inv p1, int_inv p2, int_inv p3, str_inv p4, str_inv p5, bool_inv p6, nil_inv q6]
  rfl
theorem fixs_inv {S : Nat → Nat → Prop} {w : World} {ow : Ow} : ∀ {l : List Fix} {cs : List Value}, RepCs Tryz.prog S w ow (l.map (toV shFix)) cs → cs = l.flatMap encX
  | [], cs, h => nil_inv h
  | x :: l, cs, h => by
    obtain ⟨c1, c2, rfl, p1, p2⟩ := cons_inv h
    rw [fix_inv p1, fixs_inv p2]; rfl
theorem his_at {S : Nat → Nat → Prop} {w : World} {l : List Fix} {hv : Value} (h : RepC Tryz.prog S w noOw (.sl none 65 (l.map (toV shFix))) [hv]) : SlAt w 6 hv l.length (l.flatMap encX) ∧ (l ≠ [] → ∀ g, hv.ownBlock = some g → ∃ o, S g o) := by
  obtain ⟨cs, h1, h2, h3⟩ := sl_at 6 (by omega) (fun cs hc => by rw [fixs_inv hc, lenX]; exact ⟨encXs_len l, encXs_one l⟩) h
  rw [lenX] at h1
  rw [fixs_inv h2] at h1
  exact ⟨h1, fun hn g hg => h3 g hg (fun e => hn (List.map_eq_nil_iff.1 e))⟩
theorem width_fix (l : List Fix) : ∀ x ∈ l.map (toV shFix), width Tryz.prog x = Tryz.prog.cellsOf 65 := by
  intro x hx
  obtain ⟨y, _, rfl⟩ := List.mem_map.1 hx
  rw [cells65]
  show width Tryz.prog (.agg 65 _) = 6
  rw [width_agg (by decide), cells65]
theorem own_rep {S' : Nat → Nat → Prop} {w' : World} {B e k n : Nat} {v : Value} {cs : List Value} {vs : List V} (ho : w'.ownsRow B e k v n cs) (hS : ∀ b o, B ≤ b → b < w'.heap.size → S' b o) (hr : RepCs Tryz.prog S' w' noOw vs cs) (hl : vs.length = n) (hw : ∀ x ∈ vs, width Tryz.prog x = Tryz.prog.cellsOf e) :
    RepC Tryz.prog S' w' noOw (.sl none e vs) [v] := by
  rcases ho.2 with ⟨rfl, rfl⟩ | ⟨g, cap, cur, rfl, h1, h2, h3, h4, h5, h6⟩
  · rw [List.eq_nil_of_length_eq_zero hl]
    exact .nilsl _ (TagOk.none_ _ _ _ _)
  · have hlt := (Array.getElem?_eq_some_iff.1 h2).1
    have := RepC.sl (P := Tryz.prog) (S := S') (w := w') noOw (tag := none) (e := e) (b := g) (o := 0) (cap := cap) hr hw (fun j u hu => ⟨hS _ _ h1 hlt, by
      have := ho.cells (g := g) rfl j u hu
      rw [Nu.addr_add] at this
      exact this⟩) (by rw [hl]; exact h3) h4 (TagOk.none_ _ _ _ _)
    rwa [hl] at this
def encF (f : File) : List Value := [.string ⟨f.1.toArray⟩, .string ⟨f.2.toArray⟩]
theorem encF_one (f : File) : ∀ v ∈ encF f, v.oneCell' = true := by
  intro v hv
  simp only [encF, List.mem_cons, List.not_mem_nil, or_false] at hv
  rcases hv with rfl | rfl <;> rfl
theorem encFs_len (l : List File) : (l.flatMap encF).length = l.length * 2 := by
  induction l with
  | nil => rfl
  | cons x l ih => rw [List.flatMap_cons, List.length_append, ih, List.length_cons]; show 2 + _ = _; omega
theorem encFs_one (l : List File) : ∀ u ∈ l.flatMap encF, u.oneCell' = true := by
  intro u hu
  obtain ⟨s, _, hs⟩ := List.mem_flatMap.1 hu
  exact encF_one s u hs
theorem sz70 : sizes Tryz.prog 70 = some [1, 1] := by kernel_rfl
theorem cells70 : Tryz.prog.cellsOf 70 = 2 := by kernel_rfl
theorem rep_file {S : Nat → Nat → Prop} {w : World} {ow : Ow} (f : File) : RepC Tryz.prog S w ow (toV shFile f) (encF f) := by
  show RepC Tryz.prog S w ow (.agg 70 [.str f.1, .str f.2]) ([.string ⟨f.1.toArray⟩] ++ ([.string ⟨f.2.toArray⟩] ++ []))
  exact .agg ow sz70 (by rw [cells70]; rfl) (.cons ow (.str ow _) (.cons ow (.str ow _) (.nil ow))) (by decide)
theorem reps_file {S : Nat → Nat → Prop} {w : World} {ow : Ow} : ∀ l : List File, RepCs Tryz.prog S w ow (l.map (toV shFile)) (l.flatMap encF)
  | [] => .nil _
  | x :: l => .cons _ (rep_file x) (reps_file l)
theorem files_inv {S : Nat → Nat → Prop} {w : World} {ow : Ow} : ∀ {l : List File} {cs : List Value}, RepCs Tryz.prog S w ow (l.map (toV shFile)) cs → cs = l.flatMap encF
  | [], cs, h => nil_inv h
  | x :: l, cs, h => by
    obtain ⟨c1, c2, rfl, p1, p2⟩ := cons_inv h
    change RepC Tryz.prog S w ow (.agg 70 [.str x.1, .str x.2]) c1 at p1
    obtain ⟨d1, r1, rfl, t1, q1⟩ := cons_inv (agg_inv (by decide) p1)
    obtain ⟨d2, r2, rfl, p3, q3⟩ := cons_inv q1
    rw [str_inv t1, str_inv p3, nil_inv q3, files_inv p2]; rfl
theorem files_at {S : Nat → Nat → Prop} {w : World} {l : List File} {fv : Value} (h : RepC Tryz.prog S w noOw (.sl none 70 (l.map (toV shFile))) [fv]) : SlAt w 2 fv l.length (l.flatMap encF) := by
  obtain ⟨cs, h1, h2, h3⟩ := sl_at 2 (by omega) (fun cs hc => by rw [files_inv hc, lenF]; exact ⟨encFs_len l, encFs_one l⟩) h
  rw [lenF] at h1
  rw [files_inv h2] at h1
  exact h1
theorem width_file (l : List File) : ∀ x ∈ l.map (toV shFile), width Tryz.prog x = Tryz.prog.cellsOf 70 := by
  intro x hx
  obtain ⟨y, _, rfl⟩ := List.mem_map.1 hx
  rw [cells70]
  show width Tryz.prog (.agg 70 _) = 2
  rw [width_agg (by decide), cells70]
theorem sz63 : sizes Tryz.prog 63 = some [1, 1, 1, 1, 1] := by kernel_rfl
theorem cells63 : Tryz.prog.cellsOf 63 = 5 := by kernel_rfl
def encE (x : Edn) (fv : Value) : List Value := [.int .i64 x.1, .int .i64 x.2.1, .int .i64 x.2.2.1, .string ⟨x.2.2.2.1.toArray⟩, fv]
theorem edn_rep {S : Nat → Nat → Prop} {w : World} {ow : Ow} {x : Edn} {fv : Value} (h : RepC Tryz.prog S w ow (.sl none 70 (x.2.2.2.2.map (toV shFile))) [fv]) : RepC Tryz.prog S w ow (toV shEdn x) (encE x fv) := by
  show RepC Tryz.prog S w ow (.agg 63 [.int .i64 x.1, .int .i64 x.2.1, .int .i64 x.2.2.1, .str x.2.2.2.1, .sl none 70 (x.2.2.2.2.map (toV shFile))])
    ([.int .i64 x.1] ++ ([.int .i64 x.2.1] ++ ([.int .i64 x.2.2.1] ++ ([.string ⟨x.2.2.2.1.toArray⟩] ++ ([fv] ++ [])))))
  exact .agg ow sz63 (by rw [cells63]; rfl) (.cons ow (.int ow .i64 _) (.cons ow (.int ow .i64 _) (.cons ow (.int ow .i64 _) (.cons ow (.str ow _) (.cons ow h (.nil ow)))))) (by decide)
theorem edn_inv {S : Nat → Nat → Prop} {w : World} {ow : Ow} {x : Edn} {cs : List Value} (h : RepC Tryz.prog S w ow (toV shEdn x) cs) : ∃ fv, cs = encE x fv ∧ RepC Tryz.prog S w ow (.sl none 70 (x.2.2.2.2.map (toV shFile))) [fv] := by
  change RepC Tryz.prog S w ow (.agg 63 [.int .i64 x.1, .int .i64 x.2.1, .int .i64 x.2.2.1, .str x.2.2.2.1, .sl none 70 (x.2.2.2.2.map (toV shFile))]) cs at h
  obtain ⟨c1, r1, rfl, p1, q1⟩ := cons_inv (agg_inv (by decide) h)
  obtain ⟨c2, r2, rfl, p2, q2⟩ := cons_inv q1
  obtain ⟨c3, r3, rfl, p3, q3⟩ := cons_inv q2
  obtain ⟨c4, r4, rfl, p4, q4⟩ := cons_inv q3
  obtain ⟨c5, r5, rfl, p5, q5⟩ := cons_inv q4
  obtain ⟨fv, rfl⟩ := sl_one p5
  refine ⟨fv, ?_, p5⟩
  rw [int_inv p1, int_inv p2, int_inv p3, str_inv p4, nil_inv q5]
  rfl
theorem edns_len {S : Nat → Nat → Prop} {w : World} {ow : Ow} : ∀ {l : List Edn} {cs : List Value}, RepCs Tryz.prog S w ow (l.map (toV shEdn)) cs → cs.length = l.length * 5 ∧ ∀ u ∈ cs, u.oneCell' = true
  | [], cs, h => by rw [nil_inv h]; exact ⟨rfl, fun u hu => by cases hu⟩
  | x :: l, cs, h => by
    obtain ⟨c1, c2, rfl, p1, p2⟩ := cons_inv h
    obtain ⟨fv, rfl, p3⟩ := edn_inv p1
    obtain ⟨h1, h2⟩ := edns_len p2
    refine ⟨by rw [List.length_append, h1, List.length_cons]; show 5 + _ = _; omega, fun u hu => ?_⟩
    rcases List.mem_append.1 hu with hu | hu
    · simp only [encE, List.mem_cons, List.not_mem_nil, or_false] at hu
      obtain ⟨a, cap, rfl⟩ := sl_form p3
      rcases hu with rfl | rfl | rfl | rfl | rfl <;> rfl
    · exact h2 u hu
theorem width_edn (l : List Edn) : ∀ x ∈ l.map (toV shEdn), width Tryz.prog x = Tryz.prog.cellsOf 63 := by
  intro x hx
  obtain ⟨y, _, rfl⟩ := List.mem_map.1 hx
  rw [cells63]
  show width Tryz.prog (.agg 63 _) = 5
  rw [width_agg (by decide), cells63]
theorem edns_at {S : Nat → Nat → Prop} {w : World} {l : List Edn} {ev : Value} (h : RepC Tryz.prog S w noOw (.sl none 63 (l.map (toV shEdn))) [ev]) : ∃ cs, SlAt w 5 ev l.length cs ∧ RepCs Tryz.prog S w noOw (l.map (toV shEdn)) cs := by
  obtain ⟨cs, h1, h2, h3⟩ := sl_at 5 (by omega) (fun cs hc => by have := edns_len hc; rw [lenE]; exact this) h
  rw [lenE] at h1
  exact ⟨cs, h1, h2⟩
theorem edns_get {S : Nat → Nat → Prop} {w : World} {ow : Ow} : ∀ {l : List Edn} {cs : List Value} {i : Nat}, RepCs Tryz.prog S w ow (l.map (toV shEdn)) cs → i < l.length → ∃ c1 fv c2, cs = c1 ++ (encE (l.getD i E0) fv ++ c2) ∧ c1.length = i * 5 ∧
    RepCs Tryz.prog S w ow ((l.take i).map (toV shEdn)) c1 ∧ RepC Tryz.prog S w ow (.sl none 70 ((l.getD i E0).2.2.2.2.map (toV shFile))) [fv] ∧ RepCs Tryz.prog S w ow ((l.drop (i + 1)).map (toV shEdn)) c2
  | [], cs, i, h, hi => by simp at hi
  | x :: l, cs, 0, h, hi => by
    obtain ⟨c1, c2, rfl, p1, p2⟩ := cons_inv h
    obtain ⟨fv, rfl, p3⟩ := edn_inv p1
    exact ⟨[], fv, c2, rfl, rfl, .nil _, p3, p2⟩
  | x :: l, cs, i + 1, h, hi => by
    obtain ⟨c1, c2, rfl, p1, p2⟩ := cons_inv h
    obtain ⟨d1, fv, d2, rfl, q1, q2, q3, q4⟩ := edns_get p2 (show i < l.length by simpa using hi)
    obtain ⟨fv', rfl, p3⟩ := edn_inv p1
    refine ⟨encE x fv' ++ d1, fv, d2, by rw [List.append_assoc]; rfl, by rw [List.length_append, q1]; show 5 + _ = _; omega, .cons _ p1 q2, q3, q4⟩
structure EdnC (W : World) (b o : Nat) (x : Edn) (fv : Value) : Prop where
  c0 : W.cell? ⟨b, o, none⟩ = some (.int .i64 x.1)
  c1 : W.cell? ⟨b, o + 1, none⟩ = some (.int .i64 x.2.1)
  c2 : W.cell? ⟨b, o + 2, none⟩ = some (.int .i64 x.2.2.1)
  c3 : W.cell? ⟨b, o + 3, none⟩ = some (.string ⟨x.2.2.2.1.toArray⟩)
  c4 : W.cell? ⟨b, o + 4, none⟩ = some fv
theorem edn_at {S : Nat → Nat → Prop} {w : World} {l : List Edn} {ev : Value} (h : RepC Tryz.prog S w noOw (.sl none 63 (l.map (toV shEdn))) [ev]) {i : Nat} (hi : i < l.length) :
    ∃ b o cap fv, ev = .slice (some ⟨b, o, none⟩) l.length cap ∧ EdnC w b (o + i * 5) (l.getD i E0) fv ∧ RepC Tryz.prog S w noOw (.sl none 70 ((l.getD i E0).2.2.2.2.map (toV shFile))) [fv] := by
  generalize hv : V.sl none 63 (l.map (toV shEdn)) = v at h
  generalize hc : [ev] = cc at h
  cases h with
  | nilsl => cases hc; simp only [V.sl.injEq] at hv; have := List.map_eq_nil_iff.1 hv.2.2; subst this; exact absurd hi (Nat.not_lt_zero _)
  | emp => cases hc; simp only [V.sl.injEq] at hv; have := List.map_eq_nil_iff.1 hv.2.2; subst this; exact absurd hi (Nat.not_lt_zero _)
  | sl _ h1 h2 h3 h4 h5 h6 =>
    cases hc
    simp only [V.sl.injEq] at hv
    obtain ⟨-, -, rfl⟩ := hv
    obtain ⟨d1, fv, d2, rfl, q1, q2, q3, q4⟩ := edns_get h1 hi
    rename_i b o cap
    refine ⟨b, o, cap, fv, by rw [lenE], ?_, q3⟩
    have hg : ∀ j u, (encE (l.getD i E0) fv)[j]? = some u → w.cell? ⟨b, o + i * 5 + j, none⟩ = some u := fun j u hu => by
      have hlt : j < (encE (l.getD i E0) fv).length := (List.getElem?_eq_some_iff.1 hu).1
      have := (h3 (i * 5 + j) u (by rw [List.getElem?_append_right (by omega), q1, Nat.add_sub_cancel_left, List.getElem?_append_left hlt]; exact hu)).2
      rwa [← Nat.add_assoc] at this
    exact ⟨hg 0 _ rfl, hg 1 _ rfl, hg 2 _ rfl, hg 3 _ rfl, hg 4 _ rfl⟩
  | _ => cases hv
end Go.Proofs.YtecjedagdpnemaaGreatDoor
