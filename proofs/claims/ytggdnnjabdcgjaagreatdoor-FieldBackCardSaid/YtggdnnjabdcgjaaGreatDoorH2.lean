/-
  slices.DeleteFunc at the subfields of a field, walked. No condition beyond what each line says.
-/
import Derived.Test.YtggdnnjabdcgjaaGreatDoorH1
namespace Go.Proofs.YtggdnnjabdcgjaaGreatDoor.S
open Go Go.Nu Go.RowKit Go.Sort Go.Lib
set_option linter.unusedVariables false

theorem flat_get : ∀ (l : List Sub) (t : Nat), (l.flatMap encS)[t]? = (l[t / 2]?).bind fun s => (encS s)[t % 2]?
  | [], t => by simp
  | s :: l, t => by
    rw [List.flatMap_cons]
    by_cases h : t < 2
    · rw [List.getElem?_append_left (by rw [encS_len]; exact h), show t / 2 = 0 by omega, show t % 2 = t by omega]
      rfl
    · obtain ⟨u, rfl⟩ : ∃ u, t = u + 2 := ⟨t - 2, by omega⟩
      rw [List.getElem?_append_right (by rw [encS_len]; omega), encS_len, show u + 2 - 2 = u by omega, flat_get l u, show (u + 2) / 2 = u / 2 + 1 by omega, show (u + 2) % 2 = u % 2 by omega]
      rfl
theorem flat_len (l : List Sub) : (l.flatMap encS).length = l.length * 2 := by
  induction l with
  | nil => rfl
  | cons s l ih => rw [List.flatMap_cons, List.length_append, ih, encS_len, List.length_cons]; omega
theorem holds_cells {w : World} {g : Nat} {d : Array Sub} (h : HoldsK encS 2 w g 0 d) : ∀ j u, (d.toList.flatMap encS)[j]? = some u → w.cell? ⟨g, 0 + j, none⟩ = some u := by
  intro j u hu
  rw [flat_get, Option.bind_eq_some_iff] at hu
  obtain ⟨s, h1, h2⟩ := hu
  have hlt : j / 2 < d.size := by
    have := (List.getElem?_eq_some_iff.1 h1).1
    simpa using this
  have hc : j % 2 < 2 := Nat.mod_lt _ (by omega)
  have := (HoldsK.cell h hlt hc).1
  rw [show 0 + j / 2 * 2 + j % 2 = 0 + j by omega] at this
  rw [this]
  have e : d[j / 2]! = s := by
    rw [getElem!_pos d _ hlt]
    rw [Array.getElem?_toList, Array.getElem?_eq_getElem hlt] at h1
    exact Option.some.inj h1
  rw [e, getElem!_pos (encS s) _ (by rw [encS_len]; exact hc)]
  rw [List.getElem?_eq_getElem (by rw [encS_len]; exact hc)] at h2
  exact h2
theorem repCs_subs {S : Nat → Nat → Prop} {w : World} {ow : Ow} : ∀ l : List Sub, RepCs Tryz.prog S w ow (l.map (toV shSub)) (l.flatMap encS)
  | [] => .nil ow
  | s :: l => .cons ow (rep_sub s) (repCs_subs l)
theorem width_subs (l : List Sub) : ∀ x ∈ l.map (toV shSub), width Tryz.prog x = Tryz.prog.cellsOf 46 := by
  intro x hx
  obtain ⟨s, _, rfl⟩ := List.mem_map.1 hx
  show width Tryz.prog (.agg 46 _) = _
  exact width_agg (by decide)

theorem len_subs (l : List Sub) : (l.map (toV shSub)).length = l.length := List.length_map _

theorem callIdx (c : UInt8) (cb g cap : Nat) (l : List Sub) (w : World) (hg : GT w) (hcb : w.cell? ⟨cb, 0, none⟩ = some (.int .u8 (c.toNat : Int))) (hlt : g < w.heap.size)
    (hc : ∀ j u, (l.flatMap encS)[j]? = some u → w.cell? ⟨g, 0 + j, none⟩ = some u) (hl : l.length ≤ 1000000) (hcap : l.length ≤ cap) (hm : cap ≤ maxLen) :
    Calls Tryz.prog 29 #[.slice (some ⟨g, 0, none⟩) l.length cap, .func (.func 35) #[] #[.pointer (some ⟨cb, 0, none⟩)]] w fun e w' => e = .returned (.int .i64 (idxS c l 0)) ∧ Below w.heap.size w w' := by
  have hcl : cb < w.heap.size := by
    rcases Nat.lt_or_ge cb w.heap.size with h | h
    · exact h
    · unfold World.cell? at hcb
      rw [Array.getElem?_eq_none h] at hcb
      cases hcb
  have h := (ok29 keepsGT (ok35 keepsGT)).sim rfl (l, (c, ())) _ (f29 l c hl)
  refine (h w (fun b o => (b = cb ∧ o = 0) ∨ (b = g ∧ o < l.length * 2)) [.slice (some ⟨g, 0, none⟩) l.length cap, .func (.func 35) #[] #[.pointer (some ⟨cb, 0, none⟩)]] hg
    (fun b o hb => by rcases hb with ⟨rfl, _⟩ | ⟨rfl, _⟩ <;> assumption) ⟨?_, ?_, trivial⟩).mono ?_
  · show RepC Tryz.prog _ w noOw (.sl none 46 (l.map (toV shSub))) [.slice (some ⟨g, 0, none⟩) l.length cap]
    have := RepC.sl (P := Tryz.prog) (S := fun b o => (b = cb ∧ o = 0) ∨ (b = g ∧ o < l.length * 2)) (w := w) noOw (tag := none) (e := 46) (b := g) (o := 0) (cap := cap) (repCs_subs l) (width_subs l)
      (fun j u hu => ⟨.inr ⟨rfl, by
        have := (List.getElem?_eq_some_iff.1 hu).1
        rw [flat_len] at this
        omega⟩, hc j u hu⟩) (by rw [len_subs]; exact hcap) hm (TagOk.none_ _ _ _ _)
    rwa [len_subs] at this
  · show RepC Tryz.prog _ w noOw (.fn 35 [.rp (byteV c)]) [.func (.func 35) #[] #[.pointer (some ⟨cb, 0, none⟩)]]
    refine .fn _ (fun x hx => by rw [List.mem_singleton.1 hx]; rfl) (.cons _ (cs := []) (.rp _ (.int _ .u8 _) ?_) (.nil _))
    intro j u hu
    match j, hu with
    | 0, hu => cases hu; exact ⟨.inl ⟨rfl, rfl⟩, hcb⟩
  · rintro e w' ⟨r, rfl, hb, S', _, _, hr⟩
    refine ⟨?_, hb⟩
    have hr : RepC Tryz.prog S' w' noOw (.int .i64 (idxS c l 0)) [r] := hr
    cases hr
    rfl

theorem idxS_spec (c : UInt8) : ∀ (l : List Sub) (i : Nat), (idxS c l i = -1 ∧ ∀ j, j < l.length → (l[j]!).1 ≠ c) ∨ ∃ k, k < l.length ∧ idxS c l i = ((i + k : Nat) : Int) ∧ (l[k]!).1 = c ∧ ∀ j, j < k → (l[j]!).1 ≠ c
  | [], i => .inl ⟨rfl, fun j hj => absurd hj (Nat.not_lt_zero _)⟩
  | y :: r, i => by
    by_cases h : y.1 = c
    · exact .inr ⟨0, by simp, by simp [idxS, h], by simpa using h, fun j hj => absurd hj (Nat.not_lt_zero _)⟩
    · rcases idxS_spec c r (i + 1) with ⟨e, ha⟩ | ⟨k, hk, e, ht, ha⟩
      · refine .inl ⟨?_, fun j hj => ?_⟩
        · simp only [idxS, if_neg h]; rw [← e]; norm_cast
        · cases j with
          | zero => simpa using h
          | succ j => simpa using ha j (by simpa using hj)
      · refine .inr ⟨k + 1, by simpa using hk, ?_, by simpa using ht, fun j hj => ?_⟩
        · simp only [idxS, if_neg h]
          rw [show ((i : Int) + 1) = ((i + 1 : Nat) : Int) by norm_cast, e]
          congr 1; omega
        · cases j with
          | zero => simpa using h
          | succ j => simpa using ha j (by omega)

/-- What is known behind the closure's call. -/
structure DelAt (g i : Nat) (u : Sub) (dk : Array Sub) (wr w' : World) : Prop where
  n0 : w'.cell? ⟨wr.heap.size, 0, none⟩ = some (.int .u8 (u.1.toNat : Int))
  n1 : w'.cell? ⟨wr.heap.size, 1, none⟩ = some (.string ⟨u.2.toArray⟩)
  o0 : ∃ v, w'.cell? ⟨g, i * 2, none⟩ = some v
  o1 : ∃ v, w'.cell? ⟨g, i * 2 + 1, none⟩ = some v
  p0 : w'.frozen? ⟨g, i * 2, none⟩ = false
  p1 : w'.frozen? ⟨g, i * 2 + 1, none⟩ = false
  h : HoldsK encS 2 w' g 0 dk
theorem holds_alloc {w : World} {g k : Nat} {d : Array Sub} (o : Obj) (h : HoldsK encS k w g 0 d) (hlt : g < w.heap.size) : HoldsK encS k (w.alloc o) g 0 d :=
  holds_of_below h hlt ((Below.refl _ w).alloc (Nat.le_refl _) o)
theorem delAt {g i : Nat} {u : Sub} {dk : Array Sub} {wr w' : World} (hlk : g < wr.heap.size) (hi : i < dk.size) (h : HoldsK encS 2 wr g 0 dk)
    (hb : Below (wr.alloc (.cells #[.int .u8 (u.1.toNat : Int), .string ⟨u.2.toArray⟩] 46)).heap.size (wr.alloc (.cells #[.int .u8 (u.1.toNat : Int), .string ⟨u.2.toArray⟩] 46)) w') : DelAt g i u dk wr w' := by
  have h2 : HoldsK encS 2 w' g 0 dk := holds_of_below (holds_alloc _ h hlk) (by simp; omega) hb
  have c0 := HoldsK.cell h2 hi (c := 0) (by omega)
  have c1 := HoldsK.cell h2 hi (c := 1) (by omega)
  simp only [Nat.zero_add, Nat.add_zero] at c0 c1
  refine ⟨?_, ?_, ⟨_, c0.1⟩, ⟨_, c1.1⟩, c0.2, c1.2, h2⟩
  · rw [hb.cell (p := ⟨wr.heap.size, 0, none⟩) (by simp)]
    exact (cell_of_row _ _ _ _ _ _ (heap_alloc_new wr _)).trans rfl
  · rw [hb.cell (p := ⟨wr.heap.size, 1, none⟩) (by simp)]
    exact (cell_of_row _ _ _ _ _ _ (heap_alloc_new wr _)).trans rfl
theorem alloc_below {g : Nat} {w wr w' : World} {o : Obj} (hb : Below (wr.alloc o).heap.size (wr.alloc o) w') (h : BelowX (· = g) w wr) : BelowX (· = g) w w' := (h.alloc o).then hb

set_option maxHeartbeats 4000000 in
set_option maxRecDepth 1000000 in
theorem walkDel (c : UInt8) (cb g cap : Nat) (d : Array Sub) (w : World) (hG : ∀ w', BelowX (· = g) w w' → GT w') (hcb : w.cell? ⟨cb, 0, none⟩ = some (.int .u8 (c.toNat : Int))) (hne : cb ≠ g) (hlt : g < w.heap.size)
    (hH : HoldsK encS 2 w g 0 d) (hsz : d.size ≤ 1000000) (hcap : d.size ≤ cap) (hm : cap ≤ maxLen) :
    Calls Tryz.prog 37 #[.slice (some ⟨g, 0, none⟩) d.size cap, .func (.func 35) #[] #[.pointer (some ⟨cb, 0, none⟩)]] w fun e w' =>
      e = .returned (.slice (some ⟨g, 0, none⟩) (d.toList.filter fun s => s.1 != c).length cap) ∧ BelowX (· = g) w w' ∧
      ∀ j u, ((d.toList.filter fun s => s.1 != c).flatMap encS)[j]? = some u → w'.cell? ⟨g, 0 + j, none⟩ = some u := by
  have hI := callIdx c cb g cap d.toList w (hG w (BelowX.refl _ _)) hcb hlt (holds_cells hH) (by simpa using hsz) (by simpa using hcap) hm
  rw [Array.length_toList] at hI
  obtain ⟨kp, HK⟩ : ∃ kp : Nat → Bool, Hid (kp = fun j => (d[j]!).1 != c) := ⟨_, rfl⟩
  have hfil : (d.toList.filter fun s => s.1 != c) = keptUpTo kp d d.size := by rw [HK.out]; exact (keptUpTo_filter (fun s : Sub => s.1 != c) d).symm
  rw [hfil]
  have tl : ∀ j, j < d.size → d.toList[j]! = d[j]! := fun j hj => by rw [getElem!_pos d j hj, getElem!_pos d.toList j (by simpa using hj)]; simp
  have HH : Aside (HoldsK encS 2 w g 0 d ∧ cb ≠ g ∧ (∀ w', BelowX (· = g) w w' → GT w') ∧ w.cell? ⟨cb, 0, none⟩ = some (.int .u8 (c.toNat : Int))) := ⟨hH, hne, hG, hcb⟩
  have HF : Aside ((d.toList.filter fun s => s.1 != c) = keptUpTo kp d d.size) := hfil
  rcases idxS_spec c d.toList 0 with ⟨e1, hall⟩ | ⟨k0, hk0, e1, ht, hall⟩
  · rw [show idxS c d.toList 0 = -1 from e1] at hI
    have hkeep : ∀ j, j < d.size → kp j = true := fun j hj => by rw [HK.out]; show ((d[j]!).1 != c) = true; rw [← tl j hj]; simpa using hall j (by simpa using hj)
    have e3 : keptUpTo kp d d.size = d.toList := by rw [keptUpTo_all kp d _ hkeep, range_map_get]
    have E3 : Aside (keptUpTo kp d d.size = d.toList) := e3
    clear hH hne hG hcb hall hkeep e3 hfil tl e1
    go_enter Tryz.func37, Tryz.ntmps37
    go_wp2_with (go_at_call 29; refine hI.mono ?_; rintro e w' ⟨rfl, hb⟩)
    go_ret
    rw [E3.out]
    refine ⟨by simp, BelowX.of hb, fun j u hu => ?_⟩
    have hc := holds_cells HH.out.1 j u hu
    exact (hb.cell (p := ⟨g, 0 + j, none⟩) hlt).trans hc
  · have hk0' : k0 < d.size := by simpa using hk0
    rw [show idxS c d.toList 0 = (k0 : Int) by rw [show (0 : Int) = ((0 : Nat) : Int) from rfl, e1]; simp] at hI
    have hkeep : ∀ j, j < k0 → kp j = true := fun j hj => by rw [HK.out]; show ((d[j]!).1 != c) = true; rw [← tl j (by omega)]; simpa using hall j hj
    have hdrop : kp k0 = false := by rw [HK.out]; show ((d[k0]!).1 != c) = false; rw [← tl k0 hk0']; simpa using ht
    have hne1 : ((k0 : Int) == -1) = false := beq_eq_false_iff_ne.2 (by omega)
    have KS : Aside (KeptInv kp d (k0 + 1) k0 d) := KeptInv.start hkeep hdrop
    clear hH hne hG hcb hall hkeep hdrop hfil tl e1 ht
    go_enter Tryz.func37, Tryz.ntmps37
    go_wp2_with (go_at_call 29; refine hI.mono ?_; rintro e w' ⟨rfl, hb⟩)
    have HB : Aside (Below w.heap.size w w') := hb
    clear hb hI
    go_loopg [5, 6, 7] d.size (fun gg s5 s6 _ wr => ∃ (i j : Nat) (dk : Array Sub), s5 = .int .i64 i ∧ s6 = .int .i64 j ∧ j ≤ d.size ∧ d.size - j ≤ gg ∧ Aside (KeptInv kp d j i dk ∧ HoldsK encS 2 wr g 0 dk ∧ BelowX (· = g) w wr))
    case atStart => exact ⟨k0, k0 + 1, d, rfl, by go_num, by omega, by omega, KS.out, holds_of_below HH.out.1 hlt HB.out, BelowX.of HB.out⟩
    case round =>
      obtain ⟨i, j, dk, rfl, rfl, hjd, hgg, I2⟩ := hrel
      obtain ⟨hI, hHk, hBk⟩ := I2.out
      have hij := hI.lt
      have hds := hI.size
      obtain ⟨_, hne, hG, hcb⟩ := HH.out
      have hlk : g < wr.heap.size := Nat.lt_of_lt_of_le hlt hBk.size
      by_cases hlj : j < d.size
      · have hltz : (j : Int) < (d.size : Int) := by omega
        have cj := HoldsK.cell hHk (i := j) (by omega) (c := 0) (by omega)
        have cj1 := HoldsK.cell hHk (i := j) (by omega) (c := 1) (by omega)
        rw [hI.high j (by omega)] at cj cj1
        have hcallA : Aside (∀ W, BelowX (· = g) w W → Calls Tryz.prog 35 #[.agg (encS d[j]!).toArray, .pointer (some ⟨cb, 0, none⟩)] W fun e w' => e = .returned (.bool ((d[j]!).1 == c)) ∧ Below W.heap.size W w') :=
          fun W hW => callPred c cb W (hG W hW) (cell_below hcb hW hne) d[j]!
        have hkp : kp j = ((d[j]!).1 != c) := by rw [HK.out]
        have KP : Aside (kp j = ((d[j]!).1 != c)) := hkp
        clear hI hHk hBk hne hG hcb hkp
        generalize hu : d[j]! = u at cj cj1 hcallA
        have C : Aside (d[j]! = u) := hu
        clear hu
        obtain ⟨uc, uv⟩ := u
        obtain ⟨z0, zf⟩ := cj
        obtain ⟨z1, zf1⟩ := cj1
        replace z0 : wr.cell? ⟨g, j * 2, none⟩ = some (.int .u8 (uc.toNat : Int)) := by simpa [encS] using z0
        replace z1 : wr.cell? ⟨g, j * 2 + 1, none⟩ = some (.string ⟨uv.toArray⟩) := by simpa [encS] using z1
        clear zf zf1
        have hli : i < dk.size := by omega
        cases hq : (uc == c) with
        | false =>
          have hstep : Aside (∀ w', Below (wr.alloc (.cells #[.int .u8 (uc.toNat : Int), .string ⟨uv.toArray⟩] 46)).heap.size (wr.alloc (.cells #[.int .u8 (uc.toNat : Int), .string ⟨uv.toArray⟩] 46)) w' → DelAt g i (uc, uv) dk wr w') := fun w' hb => delAt hlk hli I2.out.2.1 hb
          go_wp2_with (go_at_call 35; refine (hcallA.out _ (I2.out.2.2.alloc _)).mono ?_; rw [hq]; rintro e w' ⟨rfl, hb⟩; have hs := hstep.out w' hb; have n0 := hs.n0; have n1 := hs.n1; obtain ⟨q0, o0⟩ := hs.o0; obtain ⟨q1, o1⟩ := hs.o1; have p0 := hs.p0; have p1 := hs.p1; have HS : Aside (DelAt g i (uc, uv) dk wr w') := hs; have HB2 : Aside (Below (wr.alloc (.cells #[.int .u8 (uc.toNat : Int), .string ⟨uv.toArray⟩] 46)).heap.size (wr.alloc (.cells #[.int .u8 (uc.toNat : Int), .string ⟨uv.toArray⟩] 46)) w') := hb; clear hs hb)
          go_roundg (d.size - (j + 1))
          case measure => omega
          case rel =>
            have hI := I2.out.1
            have hw : (w'.setCell ⟨g, i * 2, none⟩ (.int .u8 (uc.toNat : Int))).setCell ⟨g, i * 2 + 1, none⟩ (.string ⟨uv.toArray⟩) = w'.setCells g (0 + i * 2) (encS (uc, uv)) := by rw [Nat.zero_add]; rfl
            refine ⟨i + 1, j + 1, dk.setIfInBounds i (uc, uv), by go_num, by go_num, by omega, Nat.le_refl _, (show Aside _ from ⟨?_, ?_, ?_⟩)⟩
            · have := hI.keep hlj (by rw [KP.out, C.out]; show (uc != c) = true; simp only [bne, hq]; rfl)
              rwa [C.out] at this
            · rw [hw]
              have h3 := holds_setCells (s := i * 2) (vs := encS (uc, uv)) HS.out.h (by rw [encS_len, size_flatK]; omega)
              rw [setMany_one _ _ _ hli] at h3
              exact h3
            · rw [hw]
              exact belowX_setCells (alloc_below HB2.out I2.out.2.2)
        | true =>
          go_wp2_with (go_at_call 35; refine (hcallA.out _ (I2.out.2.2.alloc _)).mono ?_; rw [hq]; rintro e w' ⟨rfl, hb⟩; have HB2 : Aside (Below (wr.alloc (.cells #[.int .u8 (uc.toNat : Int), .string ⟨uv.toArray⟩] 46)).heap.size (wr.alloc (.cells #[.int .u8 (uc.toNat : Int), .string ⟨uv.toArray⟩] 46)) w') := hb; clear hb)
          go_roundg (d.size - (j + 1))
          case measure => omega
          case rel =>
            have hI := I2.out.1
            refine ⟨i, j + 1, dk, rfl, by go_num, by omega, Nat.le_refl _, (show Aside _ from ⟨hI.skip ?_, ?_, ?_⟩)⟩
            · rw [KP.out, C.out]
              show (uc != c) = false
              simp only [bne, hq]; rfl
            · exact holds_of_below (holds_alloc _ I2.out.2.1 hlk) (by simp; omega) HB2.out
            · exact alloc_below HB2.out I2.out.2.2
      · obtain rfl : j = d.size := by omega
        have hltz : ¬ (d.size : Int) < (d.size : Int) := by omega
        have hcl : ∀ ty, ∃ vs : List Value, vs.length = (d.size - i) * 2 ∧ (Builtin.clear_ #[22] ty #[.slice (some ⟨g, i * 2, none⟩) (d.size - i) (cap - i)]).run Tryz.prog wr = .ok (.tuple #[]) (wr.setCells g (i * 2) vs) := fun ty =>
          run_clear46 wr ty g (i * 2) (d.size - i) (cap - i)
            (fun t ht => by
              have := hHk (i * 2 + t) (by rw [size_flatK]; omega)
              rw [Nat.zero_add] at this
              rw [this.1]; rfl)
            (fun t ht => by
              have := hHk (i * 2 + t) (by rw [size_flatK]; omega)
              rw [Nat.zero_add] at this
              exact this.2)
        obtain ⟨vs, hvl, hcl⟩ := hcl 0
        have VL : Aside (vs.length = (d.size - i) * 2) := hvl
        clear hI hHk hBk hne hG hcb hvl
        go_wp2
        go_ret
        have hI := I2.out.1
        refine ⟨by rw [hI.len]; rfl, belowX_setCells I2.out.2.2, fun j u hu => ?_⟩
        rw [flat_get, Option.bind_eq_some_iff] at hu
        obtain ⟨s, h1, h2⟩ := hu
        have hj : j / 2 < i := by
          have := (List.getElem?_eq_some_iff.1 h1).1
          rwa [hI.len] at this
        rw [hI.low _ hj] at h1
        have h3 : (dk.toList.flatMap encS)[j]? = some u := by
          rw [flat_get, Array.getElem?_toList, Array.getElem?_eq_getElem (by omega : j / 2 < dk.size), Option.bind_some]
          rw [getElem!_pos dk _ (by omega)] at h1
          cases h1
          exact h2
        have h4 := holds_cells I2.out.2.1 j u h3
        rw [Nat.zero_add] at h4
        rw [World.cell?_setCells_out g vs (i * 2) wr ⟨g, j, none⟩ (fun _ _ => .inl (by show j < i * 2; omega))]
        exact h4
end Go.Proofs.YtggdnnjabdcgjaaGreatDoor.S
