/-
  The methods of strings.Builder as steps of plain states. No condition.
-/
import Derived.Test.YtnhjoplleldbfaaDoorK4
import Derived.Shelf.Strings.BuilderK
/-
  D, text 16: contracts of strings.Builder's methods with their exact frames: nothing is turned but the builder's block and, where it stays, its bytes' block.
-/
namespace Go.Nu
open Go Go.RowKit Go.Proofs Go.Shelf

/-- Behind an append to a row of bytes: the row is where it was, or in a new block; what is not turned. -/
structure AppTo (e : TypeId) (v v' : Value) (n n' : Nat) (xs' : List Value) (w w' : World) : Prop where
  os : w'.os = w.os
  tape : w'.tape = w.tape
  output : w'.output = w.output
  size : w.heap.size ≤ w'.heap.size
  block : ∀ k, k < w.heap.size → ¬ (slB v = some k ∧ slB v' = some k) → w'.heap[k]? = w.heap[k]?
  own : slB v' = slB v ∨ ∀ k, slB v' = some k → w.heap.size ≤ k
  same : n' = n → v' = v
  row : w'.ownsRowF 0 e 1 v' n' xs'

theorem slB_own (v : Value) : slB v = v.ownBlock := by
  cases v <;> rfl

theorem ownsRowF_zero {w : World} {base : Nat} {e : TypeId} {v : Value} {n : Nat} {xs : List Value} (h : w.ownsRowF base e 1 v n xs) : w.ownsRowF 0 e 1 v n xs := by
  refine ⟨h.1, ?_⟩
  rcases h.2 with hn | ⟨g, cap, cur, fz, hv, _, r⟩
  · exact .inl hn
  · exact .inr ⟨g, cap, cur, fz, hv, Nat.zero_le _, r⟩

section
variable {P : Program} (w : World)

/-- Appending a string's bytes. -/
theorem app_str (t u ty e : TypeId) (i : TypeInfo) (ht : P.underlying t = some (.slice e)) (hu : P.underlying u = some .string) (hi : P.info? e = some i) (hz : i.zero = some (.int .u8 0)) (hsize : i.size = 1) (hby : i.bytes = 1)
    (v : Value) (n : Nat) (xs : List Value) (hown : w.ownsRowF 0 e 1 v n xs) (s : ByteArray) (hlen : n + s.size ≤ 140737488355328) :
    ∃ v' w', (Builtin.append_ #[t, u] ty #[v, .string s]).run P w = .ok v' w' ∧ AppTo e v v' n (n + s.size) (xs ++ Lib.strCells s) w w' := by
  have h63 : n + s.size ≤ maxLen := by unfold maxLen; omega
  rcases hown.2 with ⟨rfl, rfl⟩ | ⟨g, cap, cur, fz, rfl, hbg, hg, hfz, hnc, hcm, hcs, htake⟩
  · have hx0 : xs = [] := List.eq_nil_of_length_eq_zero (by simpa using hown.1)
    subst hx0
    obtain ⟨v', w', h1, h2, h3, h4⟩ := Lib.run_append_own_stringF (P := P) w w.heap.size t u ty e i ht hu hi hz hsize hby (.slice none 0 0) 0 [] (World.ownsRowF_nil _ _ _ _) s h63 hlen (Nat.le_refl _)
    refine ⟨v', w', h1, h3.os, h3.tape, h3.output, h3.size, fun k hk _ => h3.block k hk (by simp [Value.ownBlock]), .inr fun k hk => (h2.lt k (by rw [← slB_own]; exact hk)).1, fun hn => h4.2 ⟨rfl, by omega⟩, ownsRowF_zero h2⟩
  · have hcs' : cur.size = cap := by simpa using hcs
    have hxl : xs.length = n := by simpa using hown.1
    obtain ⟨v', w', h1, h2, h3, h4⟩ := Lib.run_append_own_stringF (P := P) w 0 t u ty e i ht hu hi hz hsize hby _ n xs hown s h63 hlen (Nat.zero_le _)
    by_cases hroom : n + s.size ≤ cap
    · have hr := Lib.run_append_room_stringF (P := P) w t u ty e i ht hu hi hsize g n cap cur fz hg (by simpa using hfz) s hroom (by omega)
      obtain ⟨rfl, rfl⟩ : Value.slice (some ⟨g, 0, none⟩) (n + s.size) cap = v' ∧ _ = w' := by
        have := hr.symm.trans h1
        simpa using this
      exact ⟨_, _, h1, h3.os, h3.tape, h3.output, h3.size, fun k hk hne => h3.block k hk (fun e1 => hne ⟨by rw [slB_own]; exact e1.symm, by rw [slB_own]; exact e1.symm⟩), .inl rfl, fun hn => by rw [hn], h2⟩
    · have holds : ∀ j u, xs[j]? = some u → w.cell? ((⟨g, 0, none⟩ : Addr).add j) = some u := hown.cells (g := g) rfl
      have hr := Lib.run_append_grow_string (P := P) w t u ty e i (.int .u8 0) ht hu hi hz ⟨g, 0, none⟩ n cap xs (by rw [hsize]; simpa using hxl) holds s (by omega) (by unfold maxLen at h63; omega) (by rw [hby]; exact growslice_fits (by omega) (by omega))
      have hvw := hr.symm.trans h1
      simp only [Result.ok.injEq] at hvw
      obtain ⟨rfl, rfl⟩ := hvw
      refine ⟨_, _, h1, h3.os, h3.tape, h3.output, h3.size, fun k hk _ => Below.heap_alloc w.drew _ k hk, .inr fun k hk => ?_, fun hn => by omega, h2⟩
      obtain rfl : w.heap.size = k := Option.some.inj hk
      exact Nat.le_refl _

/-- Appending the cells of a slice. -/
theorem app_row (t ty e : TypeId) (i : TypeInfo) (ht : P.underlying t = some (.slice e)) (hi : P.info? e = some i) (hz : i.zero = some (.int .u8 0)) (hsize : i.size = 1) (hby : i.bytes = 1)
    (v : Value) (n : Nat) (xs : List Value) (hown : w.ownsRowF 0 e 1 v n xs) (a : Addr) (m c : Nat) (news : List Value) (hl : news.length = m) (hnews : ∀ j u, news[j]? = some u → w.cell? (a.add j) = some u) (h1 : ∀ u ∈ news, u.oneCell' = true)
    (hlen : n + m ≤ 140737488355328) :
    ∃ v' w', (Builtin.append_ #[t, t] ty #[v, .slice (some a) m c]).run P w = .ok v' w' ∧ AppTo e v v' n (n + m) (xs ++ news) w w' := by
  have h63 : n + m ≤ maxLen := by unfold maxLen; omega
  rcases hown.2 with ⟨rfl, rfl⟩ | ⟨g, cap, cur, fz, rfl, hbg, hg, hfz, hnc, hcm, hcs, htake⟩
  · have hx0 : xs = [] := List.eq_nil_of_length_eq_zero (by simpa using hown.1)
    subst hx0
    obtain ⟨v', w', k1, k2, k3, k4⟩ := run_append_ownF (P := P) w w.heap.size t ty e i (.int .u8 0) 1 1 ht hi hz hsize hby rfl (by decide) (.slice none 0 0) 0 [] (World.ownsRowF_nil _ _ _ _) a m c news (by simpa using hl) hnews h1 h63 (by omega) (Nat.le_refl _)
    refine ⟨v', w', k1, k3.os, k3.tape, k3.output, k3.size, fun k hk _ => k3.block k hk (by simp [Value.ownBlock]), .inr fun k hk => (k2.lt k (by rw [← slB_own]; exact hk)).1, fun hn => k4.2 ⟨rfl, by omega⟩, ownsRowF_zero k2⟩
  · have hcs' : cur.size = cap := by simpa using hcs
    obtain ⟨v', w', k1, k2, k3, k4⟩ := run_append_ownF (P := P) w 0 t ty e i (.int .u8 0) 1 1 ht hi hz hsize hby rfl (by decide) _ n xs hown a m c news (by simpa using hl) hnews h1 h63 (by omega) (Nat.zero_le _)
    by_cases hroom : n + m ≤ cap
    · have hr := run_append_roomF (P := P) w t ty e i ht hi g n cap cur fz hg (by rw [hsize]; exact hfz) a m c news (by rw [hsize]; simpa using hl) hnews h1 hroom (by rw [hsize]; omega)
      have hvw := hr.symm.trans k1
      simp only [Result.ok.injEq] at hvw
      obtain ⟨rfl, rfl⟩ := hvw
      exact ⟨_, _, k1, k3.os, k3.tape, k3.output, k3.size, fun k hk hne => k3.block k hk (fun e1 => hne ⟨by rw [slB_own]; exact e1.symm, by rw [slB_own]; exact e1.symm⟩), .inl rfl, fun hn => by rw [hn], k2⟩
    · have holds : ∀ j u, xs[j]? = some u → w.cell? ((⟨g, 0, none⟩ : Addr).add j) = some u := hown.cells (g := g) rfl
      have hr := run_append_grow (P := P) w t ty e i (.int .u8 0) ht hi hz ⟨g, 0, none⟩ n cap xs (by rw [hsize]; exact hown.1) holds a m c news (by rw [hsize]; simpa using hl) hnews (by omega) (by unfold maxLen at h63; omega) (growslice_fits (by omega) (by rw [hby]; omega))
      have hvw := hr.symm.trans k1
      simp only [Result.ok.injEq] at hvw
      obtain ⟨rfl, rfl⟩ := hvw
      refine ⟨_, _, k1, k3.os, k3.tape, k3.output, k3.size, fun k hk _ => Below.heap_alloc w.drew _ k hk, .inr fun k hk => ?_, fun hn => by omega, k2⟩
      obtain rfl : w.heap.size = k := Option.some.inj hk
      exact Nat.le_refl _

variable {w}
theorem wpList_app_str {ops : Array Oper} {rest : List Oper} {o : Oper} {a : Act} {Q : Exit → Act → World → Prop} (hgd : o.guard = none) (sl x : Operand) (t u : TypeId) (ho : o.op = .call { callee := .builtin .append, args := #[sl, x], argTypes := #[t, u] })
    (e : TypeId) (i : TypeInfo) (ht : P.underlying t = some (.slice e)) (hu : P.underlying u = some .string) (hi : P.info? e = some i) (hz : i.zero = some (.int .u8 0)) (hsize : i.size = 1) (hby : i.bytes = 1)
    (v : Value) (n : Nat) (xs : List Value) (hs : a.eval sl = v) (hown : w.ownsRowF 0 e 1 v n xs) (s : ByteArray) (hx : a.eval x = .string s) (hlen : n + s.size ≤ 140737488355328)
    (h : ∀ v' w', AppTo e v v' n (n + s.size) (xs ++ Lib.strCells s) w w' → wpList P ops Q rest (a.put o.dst v') w') : wpList P ops Q (o :: rest) a w := by
  refine wpList_plain hgd fun K hK => ?_
  obtain ⟨v', w', hr, h2⟩ := app_str (P := P) w t u o.type e i ht hu hi hz hsize hby v n xs hown s hlen
  unfold Oper.wp execOp
  simp only [ho, resolve, invoke, builtin, Sem.run_bind, Sem.run_pure, Result.andThen_ok, List.map_toArray, List.map_cons, List.map_nil, hs, hx, hr]
  exact hK _ _ (h v' w' h2)

theorem wpList_app_row {ops : Array Oper} {rest : List Oper} {o : Oper} {a : Act} {Q : Exit → Act → World → Prop} (hgd : o.guard = none) (sl x : Operand) (t : TypeId) (ho : o.op = .call { callee := .builtin .append, args := #[sl, x], argTypes := #[t, t] })
    (e : TypeId) (i : TypeInfo) (ht : P.underlying t = some (.slice e)) (hi : P.info? e = some i) (hz : i.zero = some (.int .u8 0)) (hsize : i.size = 1) (hby : i.bytes = 1)
    (v : Value) (n : Nat) (xs : List Value) (hs : a.eval sl = v) (hown : w.ownsRowF 0 e 1 v n xs) (ad : Addr) (m c : Nat) (news : List Value) (hx : a.eval x = .slice (some ad) m c) (hl : news.length = m) (hnews : ∀ j u, news[j]? = some u → w.cell? (ad.add j) = some u) (h1 : ∀ u ∈ news, u.oneCell' = true)
    (hlen : n + m ≤ 140737488355328)
    (h : ∀ v' w', AppTo e v v' n (n + m) (xs ++ news) w w' → wpList P ops Q rest (a.put o.dst v') w') : wpList P ops Q (o :: rest) a w := by
  refine wpList_plain hgd fun K hK => ?_
  obtain ⟨v', w', hr, h2⟩ := app_row (P := P) w t o.type e i ht hi hz hsize hby v n xs hown ad m c news hl hnews h1 hlen
  unfold Oper.wp execOp
  simp only [ho, resolve, invoke, builtin, Sem.run_bind, Sem.run_pure, Result.andThen_ok, List.map_toArray, List.map_cons, List.map_nil, hs, hx, hr]
  exact hK _ _ (h v' w' h2)
end
end Go.Nu
/-
  D, text 17: the builder's methods walked: WriteString, WriteByte, Len, String.
-/
set_option linter.unusedVariables false
namespace Go.Nu
open Go Go.RowKit Go.Proofs Go.Shelf
variable {P : Program} {ρ : Ren}

theorem byteCs_str (s : List UInt8) : Lib.strCells ⟨s.toArray⟩ = byteCs s := by
  simp [Lib.strCells, byteCs]

theorem BldW.own {T e : TypeId} {g : Nat} {sl : Value} {bs : List UInt8} {w : World} (h : BldW P T e g sl bs w) : w.ownsRowF 0 e 1 sl bs.length (byteCs bs) ∧ slB sl ≠ some g := by
  rcases h.row with ⟨rfl, rfl⟩ | ⟨k, cap, cur, fz, rfl, h2, h3, h4, h5, h6, h7, h8⟩
  · exact ⟨World.ownsRowF_nil _ _ _ _, by simp [slB]⟩
  · refine ⟨⟨by simp [byteCs], .inr ⟨k, cap, cur, fz, rfl, Nat.zero_le _, h3, by simpa using h4, h5, h6, by simpa using h7, ?_⟩⟩, fun e1 => h2 (Option.some.inj e1)⟩
    apply List.ext_getElem?
    intro j
    rw [Nat.mul_one, List.getElem?_take]
    split
    · rename_i hj
      have hj' : j < (byteCs bs).length := by simpa [byteCs] using hj
      rw [List.getElem?_eq_getElem hj', Array.getElem?_toList]
      exact h8 j _ (List.getElem?_eq_getElem hj')
    · rename_i hj
      rw [List.getElem?_eq_none (by simpa [byteCs] using hj)]

theorem bldW_of {T e : TypeId} {g : Nat} {sl p : Value} {bs : List UInt8} {w : World} (hc : w.heap[g]? = some (.cells #[p, sl] T (0, 0))) (hp : p = .pointer none ∨ p = .pointer (some ⟨g, 0, none⟩)) (ho : w.ownsRowF 0 e 1 sl bs.length (byteCs bs)) (hne : slB sl ≠ some g) : BldW P T e g sl bs w := by
  refine ⟨⟨p, hc, hp⟩, ?_⟩
  rcases ho.2 with ⟨h1, h2⟩ | ⟨k, cap, cur, fz, rfl, _, h3, h4, h5, h6, h7, h8⟩
  · exact .inl ⟨h1, List.eq_nil_of_length_eq_zero h2⟩
  · refine .inr ⟨k, cap, cur, fz, rfl, fun e1 => hne (by rw [e1]; rfl), h3, by simpa using h4, h5, h6, by simpa using h7, fun j u hu => ?_⟩
    rw [← h8, List.getElem?_take] at hu
    split at hu
    · rwa [Array.getElem?_toList] at hu
    · cases hu

/-- What the check leaves: 'addr' is set; all else is as it was. -/
structure CcTo (T : TypeId) (g : Nat) (sl : Value) (w w' : World) : Prop where
  os : w'.os = w.os
  tape : w'.tape = w.tape
  output : w'.output = w.output
  size : w'.heap.size = w.heap.size
  block : ∀ k, k ≠ g → w'.heap[k]? = w.heap[k]?
  cell : w'.heap[g]? = some (.cells #[.pointer (some ⟨g, 0, none⟩), sl] T (0, 0))

theorem bx_cc (L : Lays.n240 P ρ) (X : Builder.X72 P ρ) {g : Nat} {sl : Value} {bs : List UInt8} {w : World} (h : BldW P (ρ.t 72) (ρ.t 5) g sl bs w) :
    Calls P (ρ.f 240) #[.pointer (some ⟨g, 0, none⟩)] w fun e w' => e = .returned (.tuple #[]) ∧ CcTo (ρ.t 72) g sl w w' := by
  obtain ⟨p, hc, hp⟩ := h.cell
  have hlt : g < w.heap.size := heap_lt hc
  rcases hp with rfl | rfl
  · refine (Any.Builder_copyCheck_fresh L X g w (by rw [Lib.cell_of_heap hc]; rfl) (by simp [World.shape?, hc]) (by simp [World.frozen?, hc])).mono ?_
    rintro e w' ⟨rfl, rfl⟩
    exact ⟨rfl, rfl, rfl, rfl, by simp [World.setCell], fun k hk => Below.heap_setCell _ _ _ _ (fun e => hk (by simp [e])), by simp [World.setCell, Array.getElem?_modify, hc]⟩
  · refine (Any.Builder_copyCheck_used L X g w (by rw [Lib.cell_of_heap hc]; rfl)).mono ?_
    rintro e w' ⟨rfl, rfl⟩
    exact ⟨rfl, rfl, rfl, rfl, rfl, fun _ _ => rfl, hc⟩

theorem CcTo.own {T e : TypeId} {g : Nat} {sl : Value} {n : Nat} {xs : List Value} {w w' : World} (h : CcTo T g sl w w') (ho : w.ownsRowF 0 e 1 sl n xs) (hne : slB sl ≠ some g) : w'.ownsRowF 0 e 1 sl n xs := by
  refine ho.kept (row := some g) ⟨h.os, h.tape, h.output, by rw [h.size]; exact Nat.le_refl _, fun k _ hk => h.block k (fun e => hk (by rw [e]))⟩ ?_
  rw [← slB_own]
  exact .inr hne

theorem bldTo_of {T e : TypeId} {g : Nat} {sl sl' : Value} {bs bs' : List UInt8} {w w1 w2 : World} (h1 : CcTo T g sl w w1) (hlt : g < w.heap.size) (hne : slB sl ≠ some g) (h2 : AppTo e sl sl' bs.length bs'.length (byteCs bs') w1 w2) (hpre : ∃ s, bs' = bs ++ s) :
    BldTo P T e g sl sl' bs bs' w (w2.setCell ⟨g, 1, none⟩ sl') := by
  have hne' : slB sl' ≠ some g := by
    intro hk
    rcases h2.own with h3 | h3
    · exact hne (by rw [← h3]; exact hk)
    · have := h3 g hk
      rw [h1.size] at this
      omega
  have hg2 : w2.heap[g]? = some (.cells #[.pointer (some ⟨g, 0, none⟩), sl] T (0, 0)) := by
    rw [h2.block g (by rw [h1.size]; exact hlt) (fun hh => hne hh.1)]
    exact h1.cell
  have hg3 : (w2.setCell ⟨g, 1, none⟩ sl').heap[g]? = some (.cells #[.pointer (some ⟨g, 0, none⟩), sl'] T (0, 0)) := by simp [World.setCell, Array.getElem?_modify, hg2]
  have hoth : ∀ k, k ≠ g → (w2.setCell ⟨g, 1, none⟩ sl').heap[k]? = w2.heap[k]? := fun k hk => Below.heap_setCell _ _ _ _ (fun e => hk (by simp [e]))
  refine ⟨h2.os.trans h1.os, h2.tape.trans h1.tape, h2.output.trans h1.output, ?_, fun k hk hkg hno => ?_, ?_, fun hb => h2.same (by rw [hb]), hpre, bldW_of hg3 (.inr rfl) ?_ hne'⟩
  · have := h2.size
    rw [h1.size] at this
    simpa [World.setCell] using this
  · rw [hoth k hkg, h2.block k (by rw [h1.size]; exact hk) hno, h1.block k hkg]
  · rcases h2.own with h3 | h3
    · exact .inl h3
    · exact .inr fun k hk => by rw [← h1.size]; exact h3 k hk
  · refine h2.row.kept (row := some g) ⟨rfl, rfl, rfl, by simp [World.setCell], fun k _ hk => hoth k (fun e => hk (by rw [e]))⟩ ?_
    rw [← slB_own]
    exact .inr hne'

theorem rep_str1 {S : Nat → Nat → Prop} {w : World} {s : List UInt8} {cs : List Value} (h : All2 (Rep1 P S w noOw) [.str s] cs) : cs = [.string ⟨s.toArray⟩] := by
  cases cs with
  | nil => exact h.elim
  | cons c cs => cases cs with
    | nil =>
      have h1 : RepC P S w noOw (.str s) [c] := h.1
      cases h1
      rfl
    | cons => exact h.2.elim

theorem bldR_wstr {bs bs' : List UInt8} {vs : List V} {r : V} (h : bldR .wstr bs vs = some (bs', r)) : ∃ s, vs = [.str s] ∧ bs.length + s.length ≤ big ∧ bs' = bs ++ s ∧ r = .tup [.int .i64 s.length, .nili] := by
  match vs, h with
  | [.str s], h =>
    replace h : (if bs.length + s.length ≤ big then some (bs ++ s, V.tup [.int .i64 s.length, .nili]) else none) = some (bs', r) := h
    split at h
    · rename_i hb
      cases h
      exact ⟨s, rfl, hb, rfl, rfl⟩
    · cases h
theorem bldR_wbyte {bs bs' : List UInt8} {vs : List V} {r : V} (h : bldR .wbyte bs vs = some (bs', r)) : ∃ c, vs = [byteV c] ∧ bs.length + 1 ≤ big ∧ bs' = bs ++ [c] ∧ r = .nili := by
  match vs, h with
  | [v], h =>
    replace h : (match byteOf v with | some c => if bs.length + 1 ≤ big then some (bs ++ [c], V.nili) else none | none => none) = some (bs', r) := h
    split at h
    · rename_i c hc
      split at h
      · rename_i hb
        cases h
        have := bytesOfV_eq (es := [v]) (l := [c]) (by simp only [bytesOfV, hc])
        exact ⟨c, this, hb, rfl, rfl⟩
      · cases h
    · cases h
theorem bldR_str {bs bs' : List UInt8} {vs : List V} {r : V} (h : bldR .str bs vs = some (bs', r)) : vs = [] ∧ bs' = bs ∧ r = .str bs := by
  match vs, h with
  | [], h => cases h; exact ⟨rfl, rfl, rfl⟩
theorem bldR_len {bs bs' : List UInt8} {vs : List V} {r : V} (h : bldR .len bs vs = some (bs', r)) : vs = [] ∧ bs' = bs ∧ r = .int .i64 bs.length := by
  match vs, h with
  | [], h => cases h; exact ⟨rfl, rfl, rfl⟩

set_option maxHeartbeats 2000000 in
set_option maxRecDepth 100000 in
theorem bx_wstr (L : Lays.n166 P ρ) (X : Builder.Extra P ρ) : SimCallsB P (ρ.f 166) .wstr (ρ.t 72) (ρ.t 5) := by
  intro w S g sl bs bs' vs r cargs hce hB hR ha
  obtain ⟨s, rfl, hbig, rfl, rfl⟩ := bldR_wstr hR
  obtain rfl := rep_str1 ha
  obtain ⟨p, hcell, hp⟩ := hB.cell
  have hlt : g < w.heap.size := heap_lt hcell
  obtain ⟨ho, hne⟩ := hB.own
  obtain ⟨i0, hi, hz0, hz1, hz2⟩ := info_parts X.infoByte
  have mixed := L.mixed
  have t72 := L.t72; have a72 := L.a72; have z72 := L.z72; have v72 := L.v72; have u72 := run_underlying L.t72
  have t70 := L.t70; have a70 := L.a70; have z70 := L.z70; have v70 := L.v70; have u70 := run_underlying L.t70
  have t37 := L.t37; have a37 := L.a37; have z37 := L.z37; have v37 := L.v37; have u37 := run_underlying L.t37
  have t3 := L.t3; have a3 := L.a3; have z3 := L.z3; have v3 := L.v3; have u3 := run_underlying L.t3
  have t9 := L.t9; have a9 := L.a9; have z9 := L.z9; have v9 := L.v9; have u9 := run_underlying L.t9
  have t4 := L.t4; have a4 := L.a4; have z4 := L.z4; have v4 := L.v4; have u4 := run_underlying L.t4
  have t164 := L.t164; have a164 := L.a164; have z164 := L.z164; have v164 := L.v164; have u164 := run_underlying L.t164
  have t5 := X.t5; have a5 := X.a5; have z5 := X.z5; have v5 := X.v5; have u5 := run_underlying X.t5
  have e240 : ∀ args w, (callFunc (ρ.f 240) args).run P w = .ok (.enter (ρ.f 240) args) w := enters_of L.f240 (by kernel_rfl) rfl
  show Calls P (ρ.f 166) #[.pointer (some ⟨g, 0, none⟩), .string ⟨s.toArray⟩] w _
  have hbs : s.length = (⟨s.toArray⟩ : ByteArray).size := by rw [size_of_list]
  have hsc := byteCs_str s
  have hbig' : bs.length + s.length ≤ 68719476736 := hbig
  generalize (⟨s.toArray⟩ : ByteArray) = sb at hbs hsc ⊢
  go_enter L.f166, Body.n166_ntmps ρ
  go_wp2_with (go_at_fn (ρ.f 240); refine (bx_cc { L with } X.toX72 hB).mono ?_)
  rintro e w1 ⟨rfl, h1⟩
  have c0 : w1.cell? ⟨g, 0, none⟩ = some (.pointer (some ⟨g, 0, none⟩)) := by rw [Lib.cell_of_heap h1.cell]; rfl
  have c1 : w1.cell? ⟨g, 1, none⟩ = some sl := by rw [Lib.cell_of_heap h1.cell]; rfl
  go_wp2_with (at_builtin; refine wpList_app_str rfl _ _ (ρ.t 37) (ρ.t 9) rfl (ρ.t 5) i0 L.t37 L.t9 hi hz0 hz1 hz2 _ _ _ rfl (h1.own ho hne) sb rfl ?c4 ?_)
  case c4 => omega
  intro v' w2 hA
  have hb2 : w2.heap[g]? = some (.cells #[.pointer (some ⟨g, 0, none⟩), sl] (ρ.t 72) (0, 0)) := by
    rw [hA.block g (by rw [h1.size]; exact hlt) (fun hh => hne hh.1)]
    exact h1.cell
  have d0 : w2.cell? ⟨g, 0, none⟩ = some (.pointer (some ⟨g, 0, none⟩)) := by rw [Lib.cell_of_heap hb2]; rfl
  have d1 : w2.cell? ⟨g, 1, none⟩ = some sl := by rw [Lib.cell_of_heap hb2]; rfl
  have f1 : w2.frozen? ⟨g, 1, none⟩ = false := Lib.frozen_of_heap hb2 1
  have hA2 : AppTo (ρ.t 5) sl v' bs.length (bs ++ s).length (byteCs (bs ++ s)) w1 w2 := by
    rw [List.length_append, hbs]
    rw [show byteCs (bs ++ s) = byteCs bs ++ byteCs s by simp [byteCs]]
    rw [← hsc] at hA ⊢
    exact hA
  obtain ⟨ao, n', cap, rfl⟩ : ∃ ao n' cap, v' = .slice ao n' cap := by
    rcases hA.row.2 with ⟨hv, _⟩ | ⟨g, cap, cur, fz, hv, _⟩
    · exact ⟨_, _, _, hv⟩
    · exact ⟨_, _, _, hv⟩
  go_wp2
  go_ret2
  refine ⟨_, _, rfl, bldTo_of h1 hlt hne hA2 ⟨s, rfl⟩, fun S' => ⟨_, rfl, ?_, ?_, trivial⟩⟩
  · rw [← hbs]; exact RepC.int _ _ _
  · exact RepC.nili _
theorem AppTo.alloc {e : TypeId} {v v' : Value} {n n' : Nat} {xs : List Value} {w w' : World} {o : Obj} (h : AppTo e v v' n n' xs (w.alloc o) w') : AppTo e v v' n n' xs w w' := by
  have hsz : (w.alloc o).heap.size = w.heap.size + 1 := by simp
  refine ⟨h.os, h.tape, h.output, by have := h.size; omega, fun k hk hno => ?_, ?_, h.same, h.row⟩
  · rw [h.block k (by omega) hno, Below.heap_alloc w o k hk]
  · rcases h.own with h1 | h1
    · exact .inl h1
    · exact .inr fun k hk => by have := h1 k hk; omega

theorem rep_byte1 {S : Nat → Nat → Prop} {w : World} {c : UInt8} {cs : List Value} (h : All2 (Rep1 P S w noOw) [byteV c] cs) : cs = [.int .u8 (c.toNat : Int)] := by
  cases cs with
  | nil => exact h.elim
  | cons x cs => cases cs with
    | nil =>
      have h1 : RepC P S w noOw (.int .u8 (c.toNat : Int)) [x] := h.1
      cases h1
      rfl
    | cons => exact h.2.elim
theorem rep_none {S : Nat → Nat → Prop} {w : World} {cs : List Value} (h : All2 (Rep1 P S w noOw) [] cs) : cs = [] := by
  cases cs with
  | nil => rfl
  | cons => exact h.elim

set_option maxHeartbeats 2000000 in
set_option maxRecDepth 100000 in
theorem bx_wbyte (L : Lays.n167 P ρ) (X : Builder.Extra P ρ) : SimCallsB P (ρ.f 167) .wbyte (ρ.t 72) (ρ.t 5) := by
  intro w S g sl bs bs' vs r cargs hce hB hR ha
  obtain ⟨b, rfl, hbig, rfl, rfl⟩ := bldR_wbyte hR
  obtain rfl := rep_byte1 ha
  obtain ⟨p, hcell, hp⟩ := hB.cell
  have hlt : g < w.heap.size := heap_lt hcell
  obtain ⟨ho, hne⟩ := hB.own
  have hbc : byteCs (bs ++ [b]) = byteCs bs ++ [.int .u8 (b.toNat : Int)] := by simp [byteCs]
  have hbig' : bs.length + 1 ≤ 68719476736 := hbig
  obtain ⟨i0, hi, hz0, hz1, hz2⟩ := info_parts X.infoByte
  have mixed := L.mixed
  have t72 := L.t72; have a72 := L.a72; have z72 := L.z72; have v72 := L.v72; have u72 := run_underlying L.t72
  have t70 := L.t70; have a70 := L.a70; have z70 := L.z70; have v70 := L.v70; have u70 := run_underlying L.t70
  have t5 := L.t5; have a5 := L.a5; have z5 := L.z5; have v5 := L.v5; have u5 := run_underlying L.t5
  have t37 := L.t37; have a37 := L.a37; have z37 := L.z37; have v37 := L.v37; have u37 := run_underlying L.t37
  have t9 := L.t9; have a9 := L.a9; have z9 := L.z9; have v9 := L.v9; have u9 := run_underlying L.t9
  have t4 := L.t4; have a4 := L.a4; have z4 := L.z4; have v4 := L.v4; have u4 := run_underlying L.t4
  have t164 := L.t164; have a164 := L.a164; have z164 := L.z164; have v164 := L.v164; have u164 := run_underlying L.t164
  have e240 : ∀ args w, (callFunc (ρ.f 240) args).run P w = .ok (.enter (ρ.f 240) args) w := enters_of L.f240 (by kernel_rfl) rfl
  show Calls P (ρ.f 167) #[.pointer (some ⟨g, 0, none⟩), .int .u8 (b.toNat : Int)] w _
  generalize (b.toNat : Int) = c at hbc ⊢
  go_enter L.f167, Body.n167_ntmps ρ
  go_wp2_with (go_at_fn (ρ.f 240); refine (bx_cc { L with } X.toX72 hB).mono ?_)
  rintro e w1 ⟨rfl, h1⟩
  have c0 : w1.cell? ⟨g, 0, none⟩ = some (.pointer (some ⟨g, 0, none⟩)) := by rw [Lib.cell_of_heap h1.cell]; rfl
  have c1 : w1.cell? ⟨g, 1, none⟩ = some sl := by rw [Lib.cell_of_heap h1.cell]; rfl
  go_wp2_with (at_builtin; refine wpList_app_row rfl _ _ (ρ.t 37) rfl (ρ.t 5) i0 L.t37 hi hz0 hz1 hz2 _ _ _ rfl ((h1.own ho hne).alloc _) ⟨w1.heap.size, 0, none⟩ 1 1 [.int .u8 c] rfl rfl ?c1 ?c2 ?c4 ?_)
  case c1 =>
    intro j u hj
    match j, hj with
    | 0, hj => simp at hj; subst hj; simp [Addr.add]
  case c2 => intro u hu; simp at hu; subst hu; rfl
  case c4 => omega
  intro v' w2 hA0
  have hA := hA0.alloc
  have hb2 : w2.heap[g]? = some (.cells #[.pointer (some ⟨g, 0, none⟩), sl] (ρ.t 72) (0, 0)) := by
    rw [hA.block g (by rw [h1.size]; exact hlt) (fun hh => hne hh.1)]
    exact h1.cell
  have d0 : w2.cell? ⟨g, 0, none⟩ = some (.pointer (some ⟨g, 0, none⟩)) := by rw [Lib.cell_of_heap hb2]; rfl
  have d1 : w2.cell? ⟨g, 1, none⟩ = some sl := by rw [Lib.cell_of_heap hb2]; rfl
  have f1 : w2.frozen? ⟨g, 1, none⟩ = false := Lib.frozen_of_heap hb2 1
  have hA2 : AppTo (ρ.t 5) sl v' bs.length (bs ++ [b]).length (byteCs (bs ++ [b])) w1 w2 := by
    rw [hbc, List.length_append]
    exact hA
  obtain ⟨ao, n', cap, rfl⟩ : ∃ ao n' cap, v' = .slice ao n' cap := by
    rcases hA.row.2 with ⟨hv, _⟩ | ⟨g, cap, cur, fz, hv, _⟩
    · exact ⟨_, _, _, hv⟩
    · exact ⟨_, _, _, hv⟩
  go_wp2
  go_ret
  exact ⟨_, _, rfl, bldTo_of h1 hlt hne hA2 ⟨[b], rfl⟩, fun S' => RepC.nili _⟩

theorem BldW.isF {T e : TypeId} {g : Nat} {sl : Value} {bs : List UInt8} {w : World} (h : BldW P T e g sl bs w) : Lib.IsBuilderF T e 0 g (byteCs bs) w := by
  obtain ⟨ho, hne⟩ := h.own
  obtain ⟨p, hc, hp⟩ := h.cell
  have hl : (byteCs bs).length = bs.length := by simp [byteCs]
  rw [slB_own] at hne
  rcases hp with rfl | rfl
  · exact .inl ⟨Nat.zero_le _, sl, hc, by rw [hl]; exact ho, hne⟩
  · exact .inr ⟨Nat.zero_le _, sl, hc, by rw [hl]; exact ho, hne⟩

theorem bldTo_same {T e : TypeId} {g : Nat} {sl : Value} {bs : List UInt8} {w w' : World} (h1 : w'.os = w.os) (h2 : w'.tape = w.tape) (h3 : w'.output = w.output) (h4 : w.heap.size ≤ w'.heap.size) (h5 : ∀ k, k < w.heap.size → slB sl ≠ some k → w'.heap[k]? = w.heap[k]?)
    (hb : BldW P T e g sl bs w') : BldTo P T e g sl sl bs bs w w' :=
  ⟨h1, h2, h3, h4, fun k hk _ hno => h5 k hk (fun e => hno ⟨e, e⟩), .inl rfl, fun _ => rfl, ⟨[], by simp⟩, hb⟩

theorem bx_len (L : Lays.n170 P ρ) : SimCallsB P (ρ.f 170) .len (ρ.t 72) (ρ.t 5) := by
  intro w S g sl bs bs' vs r cargs hce hB hR ha
  obtain ⟨rfl, rfl, rfl⟩ := bldR_len hR
  obtain rfl := rep_none ha
  refine (Any.Builder_Len_f L 0 g (byteCs bs') w hB.isF).mono ?_
  rintro en w' ⟨rfl, rfl⟩
  refine ⟨_, sl, rfl, bldTo_same rfl rfl rfl (Nat.le_refl _) (fun _ _ _ => rfl) hB, fun S' => ?_⟩
  rw [show (byteCs bs').length = bs'.length by simp [byteCs]]
  exact RepC.int _ _ _
/-- What String leaves of the world: one draw, and what the reading makes. -/
theorem bx_str_end {g : Nat} {sl : Value} {bs : List UInt8} {w W : World} (hB : BldW P (ρ.t 72) (ρ.t 5) g sl bs w) (hW : BldTo P (ρ.t 72) (ρ.t 5) g sl sl bs bs w W)
    (h : Calls P (ρ.f 169) #[.pointer (some ⟨g, 0, none⟩)] w fun e w' => e = .returned (.string ⟨bs.toArray⟩) ∧ w' = W) :
    Calls P (ρ.f 169) #[.pointer (some ⟨g, 0, none⟩)] w fun en w' => ∃ c sl', en = .returned c ∧ BldTo P (ρ.t 72) (ρ.t 5) g sl sl' bs bs w w' ∧ ∀ S', RepS P S' w' noOw (fun _ => none) (fun _ => none) (.str bs) c := by
  refine h.mono ?_
  rintro en w' ⟨rfl, rfl⟩
  exact ⟨_, sl, rfl, hW, fun S' => RepC.str _ _⟩

set_option maxHeartbeats 2000000 in
set_option maxRecDepth 100000 in
theorem bx_str (L : Lays.n169 P ρ) (X : Builder.Extra P ρ) : SimCallsB P (ρ.f 169) .str (ρ.t 72) (ρ.t 5) := by
  intro w S g sl bs bs' vs r cargs hce hB hR ha
  obtain ⟨rfl, hbb, rfl⟩ := bldR_str hR
  obtain rfl : bs = bs' := hbb.symm
  obtain rfl := rep_none ha
  obtain ⟨p, hcell, hp⟩ := hB.cell
  have hlt : g < w.heap.size := heap_lt hcell
  obtain ⟨ho, hne⟩ := hB.own
  have hUS0 := Any.unsafeString_none L X
  show Calls P (ρ.f 169) #[.pointer (some ⟨g, 0, none⟩)] w _
  rcases hB.row with ⟨rfl, hbs⟩ | ⟨k, cap, cur, fz, rfl, hkg, hk, hfz, hnc, hcm, hcs, hcu⟩
  · -- nil
    subst hbs
    refine bx_str_end hB (W := w.drew) (bldTo_same rfl rfl rfl (Nat.le_refl _) (fun _ _ _ => rfl) ⟨hB.cell, hB.row⟩) ?_
    have c1 : w.drew.cell? ⟨g, 1, none⟩ = some (.slice none 0 0) := by
      have : w.drew.heap[g]? = some (.cells #[p, .slice none 0 0] (ρ.t 72) (0, 0)) := hcell
      rw [Lib.cell_of_heap this]; rfl
    have hSD : (Builtin.unsafeSliceData_ #[(ρ.t 37)] (ρ.t 127) #[.slice none 0 0]).run P w.drew = .ok (.pointer none) w.drew := rfl
    have mixed := L.mixed
    have t72 := L.t72; have a72 := L.a72; have z72 := L.z72; have v72 := L.v72; have u72 := run_underlying L.t72
    have t70 := L.t70; have a70 := L.a70; have z70 := L.z70; have v70 := L.v70; have u70 := run_underlying L.t70
    have t37 := L.t37; have a37 := L.a37; have z37 := L.z37; have v37 := L.v37; have u37 := run_underlying L.t37
    have t127 := L.t127; have a127 := L.a127; have z127 := L.z127; have v127 := L.v127; have u127 := run_underlying L.t127
    have t3 := L.t3; have a3 := L.a3; have z3 := L.z3; have v3 := L.v3; have u3 := run_underlying L.t3
    have t9 := L.t9; have a9 := L.a9; have z9 := L.z9; have v9 := L.v9; have u9 := run_underlying L.t9
    have t5 := X.t5; have a5 := X.a5; have z5 := X.z5; have v5 := X.v5; have u5 := run_underlying X.t5
    clear hB hce hR ha ho
    go_enter L.f169, Body.n169_ntmps ρ
    go_wp2
    go_region_o
    all_goals (go_wp2; go_ret; exact ⟨rfl, rfl⟩)
  · by_cases hb0 : bs = []
    · subst hb0
      by_cases hc0 : cap = 0
      · -- no room
        subst hc0
        have hbx : BldW P (ρ.t 72) (ρ.t 5) g (.slice (some ⟨k, 0, none⟩) 0 0) [] (w.drew.alloc (.view ⟨k, 0, none⟩ (ρ.t 5))) := by
          refine bldW_of (p := p) ((Lib.alloc_old w.drew _ g hlt).trans hcell) hp ?_ hne
          exact World.ownsRowF.alloc (w := w.drew) ho _
        refine bx_str_end hB (W := w.drew.alloc (.view ⟨k, 0, none⟩ (ρ.t 5))) (bldTo_same rfl rfl rfl (by simp) (fun j hj _ => Below.heap_alloc w.drew _ j hj) hbx) ?_
        have hSD : (Builtin.unsafeSliceData_ #[(ρ.t 37)] (ρ.t 127) #[.slice (some ⟨k, 0, none⟩) 0 0]).run P w.drew = .ok (.pointer (some ⟨w.drew.heap.size, 0, none⟩)) (w.drew.alloc (.view ⟨k, 0, none⟩ (ρ.t 5))) :=
          Lib.run_unsafeSliceData_zero w.drew _ _ (ρ.t 5) L.t127 ⟨k, 0, none⟩ 0 ((ρ.t 5), cur.size) (by have hg' : w.drew.heap[k]? = some (.cells cur (ρ.t 5) fz) := hk; simp [World.shape?, hg'])
        have c1 : w.drew.cell? ⟨g, 1, none⟩ = some (.slice (some ⟨k, 0, none⟩) 0 0) := by
          have : w.drew.heap[g]? = some (.cells #[p, .slice (some ⟨k, 0, none⟩) 0 0] (ρ.t 72) (0, 0)) := hcell
          rw [Lib.cell_of_heap this]; rfl
        have c2 : (w.drew.alloc (.view ⟨k, 0, none⟩ (ρ.t 5))).cell? ⟨g, 1, none⟩ = some (.slice (some ⟨k, 0, none⟩) 0 0) := by
          have : (w.drew.alloc (.view ⟨k, 0, none⟩ (ρ.t 5))).heap[g]? = _ := (Lib.alloc_old w.drew _ g hlt).trans hcell
          rw [Lib.cell_of_heap this]; rfl
        have c3 : (w.alloc (.view ⟨k, 0, none⟩ (ρ.t 5))).drew.cell? ⟨g, 1, none⟩ = some (.slice (some ⟨k, 0, none⟩) 0 0) := c2
        have c0 : w.cell? ⟨g, 1, none⟩ = some (.slice (some ⟨k, 0, none⟩) 0 0) := c1
        have mixed := L.mixed
        have t72 := L.t72; have a72 := L.a72; have z72 := L.z72; have v72 := L.v72; have u72 := run_underlying L.t72
        have t70 := L.t70; have a70 := L.a70; have z70 := L.z70; have v70 := L.v70; have u70 := run_underlying L.t70
        have t37 := L.t37; have a37 := L.a37; have z37 := L.z37; have v37 := L.v37; have u37 := run_underlying L.t37
        have t127 := L.t127; have a127 := L.a127; have z127 := L.z127; have v127 := L.v127; have u127 := run_underlying L.t127
        have t3 := L.t3; have a3 := L.a3; have z3 := L.z3; have v3 := L.v3; have u3 := run_underlying L.t3
        have t9 := L.t9; have a9 := L.a9; have z9 := L.z9; have v9 := L.v9; have u9 := run_underlying L.t9
        have t5 := X.t5; have a5 := X.a5; have z5 := X.z5; have v5 := X.v5; have u5 := run_underlying X.t5
        clear hB hce hR ha ho hbx
        go_enter L.f169, Body.n169_ntmps ρ
        go_wp2
        go_region_o
        all_goals (go_wp2; go_ret; exact ⟨rfl, rfl⟩)
      · -- room, no byte
        refine bx_str_end hB (W := w.drew) (bldTo_same rfl rfl rfl (Nat.le_refl _) (fun _ _ _ => rfl) ⟨hB.cell, hB.row⟩) ?_
        have c1 : w.drew.cell? ⟨g, 1, none⟩ = some (.slice (some ⟨k, 0, none⟩) 0 cap) := by
          have : w.drew.heap[g]? = some (.cells #[p, .slice (some ⟨k, 0, none⟩) 0 cap] (ρ.t 72) (0, 0)) := hcell
          rw [Lib.cell_of_heap this]; rfl
        have hSD : (Builtin.unsafeSliceData_ #[(ρ.t 37)] (ρ.t 127) #[.slice (some ⟨k, 0, none⟩) 0 cap]).run P w.drew = .ok (.pointer (some ⟨k, 0, none⟩)) w.drew :=
          Lib.run_unsafeSliceData_row _ _ _ _ _ _ hc0
        have mixed := L.mixed
        have t72 := L.t72; have a72 := L.a72; have z72 := L.z72; have v72 := L.v72; have u72 := run_underlying L.t72
        have t70 := L.t70; have a70 := L.a70; have z70 := L.z70; have v70 := L.v70; have u70 := run_underlying L.t70
        have t37 := L.t37; have a37 := L.a37; have z37 := L.z37; have v37 := L.v37; have u37 := run_underlying L.t37
        have t127 := L.t127; have a127 := L.a127; have z127 := L.z127; have v127 := L.v127; have u127 := run_underlying L.t127
        have t3 := L.t3; have a3 := L.a3; have z3 := L.z3; have v3 := L.v3; have u3 := run_underlying L.t3
        have t9 := L.t9; have a9 := L.a9; have z9 := L.z9; have v9 := L.v9; have u9 := run_underlying L.t9
        have t5 := X.t5; have a5 := X.a5; have z5 := X.z5; have v5 := X.v5; have u5 := run_underlying X.t5
        clear hB hce hR ha ho hc0
        go_enter L.f169, Body.n169_ntmps ρ
        go_wp2
        go_region_o
        all_goals (go_wp2; go_ret; exact ⟨rfl, rfl⟩)
    · -- some bytes
      have hl0 : bs.length ≠ 0 := fun e => hb0 (List.eq_nil_of_length_eq_zero e)
      have hbl : byteCs bs = Lib.byteCells bs := rfl
      have c1 : w.drew.cell? ⟨g, 1, none⟩ = some (.slice (some ⟨k, 0, none⟩) bs.length cap) := by
        have : w.drew.heap[g]? = some (.cells #[p, .slice (some ⟨k, 0, none⟩) bs.length cap] (ρ.t 72) (0, 0)) := hcell
        rw [Lib.cell_of_heap this]; rfl
      have hSD : (Builtin.unsafeSliceData_ #[(ρ.t 37)] (ρ.t 127) #[.slice (some ⟨k, 0, none⟩) bs.length cap]).run P w.drew = .ok (.pointer (some ⟨k, 0, none⟩)) w.drew :=
        Lib.run_unsafeSliceData_row _ _ _ _ _ _ (by omega)
      have hUS : (Builtin.unsafeString_ #[(ρ.t 127), (ρ.t 3)] (ρ.t 9) #[.pointer (some ⟨k, 0, none⟩), .int .i64 bs.length]).run P w.drew = .ok (.string ⟨bs.toArray⟩) (w.drew.freeze ⟨k, 0, none⟩ bs.length) := by
        refine Lib.run_unsafeString_row w.drew (ρ.t 127) (ρ.t 3) (ρ.t 9) (ρ.t 5) L.t127 X.cellsByte k cur.size (by have hg' : w.drew.heap[k]? = some (.cells cur (ρ.t 5) fz) := hk; simp [World.shape?, hg']) bs hb0 (by omega) (by unfold maxLen at hcm; omega) ?_
        intro j x hx
        have hj : (byteCs bs)[j]? = some (.int .u8 x.toNat) := by simp [byteCs, hx]
        have hg' : w.drew.heap[k]? = some (.cells cur (ρ.t 5) fz) := hk
        rw [addr_add, Nat.zero_add, cell_of_row _ _ _ _ _ _ hg']
        exact hcu j _ hj
      have hF : ∃ fz', (w.drew.freeze ⟨k, 0, none⟩ bs.length).heap[k]? = some (.cells cur (ρ.t 5) fz') ∧ fz'.2 ≤ bs.length := by
        unfold World.freeze
        rw [if_neg (by omega)]
        obtain ⟨lo, hi⟩ := fz
        refine ⟨(if lo == hi then (0, 0 + bs.length) else (min lo 0, max hi (0 + bs.length))), by
          simp only [Array.getElem?_modify, if_pos]
          rw [show w.drew.heap[k]? = w.heap[k]? from rfl, hk]
          simp, ?_⟩
        simp only at hfz
        split <;> simp <;> omega
      have hoth : ∀ j, j ≠ k → (w.drew.freeze ⟨k, 0, none⟩ bs.length).heap[j]? = w.heap[j]? := by
        intro j hj
        unfold World.freeze
        rw [if_neg (by omega)]
        simp only [Array.getElem?_modify]
        rw [if_neg (fun e => hj e.symm)]
        rfl
      have hsz : (w.drew.freeze ⟨k, 0, none⟩ bs.length).heap.size = w.heap.size := by
        unfold World.freeze
        split <;> simp
      obtain ⟨fz', hF1, hF2⟩ := hF
      have hbx : BldW P (ρ.t 72) (ρ.t 5) g (.slice (some ⟨k, 0, none⟩) bs.length cap) bs (w.drew.freeze ⟨k, 0, none⟩ bs.length) :=
        ⟨⟨p, by rw [hoth g (fun e => hkg e.symm)]; exact hcell, hp⟩, .inr ⟨k, cap, cur, fz', rfl, hkg, hF1, hF2, hnc, hcm, hcs, hcu⟩⟩
      refine bx_str_end hB (W := w.drew.freeze ⟨k, 0, none⟩ bs.length) (bldTo_same (by unfold World.freeze; split <;> rfl) (by unfold World.freeze; split <;> rfl) (by unfold World.freeze; split <;> rfl) (by rw [hsz]; exact Nat.le_refl _)
        (fun j hj hno => hoth j (fun e => hno (by rw [e]; rfl))) hbx) ?_
      have mixed := L.mixed
      have t72 := L.t72; have a72 := L.a72; have z72 := L.z72; have v72 := L.v72; have u72 := run_underlying L.t72
      have t70 := L.t70; have a70 := L.a70; have z70 := L.z70; have v70 := L.v70; have u70 := run_underlying L.t70
      have t37 := L.t37; have a37 := L.a37; have z37 := L.z37; have v37 := L.v37; have u37 := run_underlying L.t37
      have t127 := L.t127; have a127 := L.a127; have z127 := L.z127; have v127 := L.v127; have u127 := run_underlying L.t127
      have t3 := L.t3; have a3 := L.a3; have z3 := L.z3; have v3 := L.v3; have u3 := run_underlying L.t3
      have t9 := L.t9; have a9 := L.a9; have z9 := L.z9; have v9 := L.v9; have u9 := run_underlying L.t9
      have t5 := X.t5; have a5 := X.a5; have z5 := X.z5; have v5 := X.v5; have u5 := run_underlying X.t5
      clear hB hce hR ha ho hF1 hF2 hoth hsz hbx hcu
      go_enter L.f169, Body.n169_ntmps ρ
      go_wp2
      go_region_o
      all_goals (go_wp2; go_ret; exact ⟨rfl, rfl⟩)
end Go.Nu
