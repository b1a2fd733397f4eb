/-
  Plain functions out of code: loops, whole functions, arguments read as data, the last step of a law. No condition.
-/
import Derived.Test.YtnhjoplleldbfaaDoorK3
import Derived.OpenShut
import Derived.Below
import Derived.Carry
import Derived.ChangeSame
import Derived.RowKit
import Derived.LaidLaws
import Derived.Lib.LaidTab
import Derived.Stop.LaidErr
import Derived.Sort.Grow
import Derived.Deep.Draws
import Derived.Defers
/-
  D, text 9: a run of a function's body with marks gives a contract of the function.
-/
namespace Go.Nu
open Go Go.RowKit

variable {TT : List TEnt} {SH : List (TypeId × Sh)} {β : Type} {r : β}

theorem subW_in {l k : List Wr} (h : subW l k = true) {w : Wr} (hw : inW w k = false) : inW w l = false := by
  induction l with
  | nil => rfl
  | cons x l ih =>
    simp only [subW, Bool.and_eq_true] at h
    simp only [inW, ih h.2, Bool.or_false]
    cases hs : w.same x with
    | false => rfl
    | true =>
      have : w = x := by
        cases w <;> cases x <;> simp only [Wr.same] at hs <;> first | cases hs | rw [beq_t hs]
      rw [this, h.1] at hw
      cases hw
theorem AgrL.sub {l k : List Wr} {st st' : WSt} (h : AgrL l st st') (hs : subW l k = true) : AgrL k st st' :=
  ⟨fun i hi => h.s i (subW_in hs hi), fun i hi => h.b i (subW_in hs hi), fun i hi => h.f i (subW_in hs hi)⟩
theorem AgrL.log {l : List Wr} {st st' : WSt} {k : List Wr} (h : AgrL l st st') : AgrL l st { st' with log := k } := ⟨h.s, h.b, h.f⟩
theorem agr_head {ls : LS} {st : WSt} {x : ls.den} {log : List Wr} : AgrL ls.all st (ls.head st x log) :=
  ⟨fun i hi => head_kept.1 i hi, fun i hi => head_kept.2.1 i hi, fun i hi => head_kept.2.2 i hi⟩

theorem loopK_some {σ : Type} {body : σ → (σ → Option β) → Option β} {x : σ} (h : loopK body x = some r) : ∃ N, ∀ n, N ≤ n → iter body n x = some r := by
  unfold loopK at h
  split at h
  · rename_i hx
    cases h
    exact hx.choose_spec
  · cases h

/-! ### boxes that are written no more -/
theorem lu_still (b : Nat) (ct : W) : ∀ (l : List (Nat × W)) (i : Nat), lu (stillL b ct l) i = (lu l i).map (stillW b ct)
  | [], _ => rfl
  | (j, w) :: l, i => by
    simp only [stillL, lu]
    cases Nat.beq i j with
    | true => rfl
    | false => exact lu_still b ct l i
theorem lu_del {α : Type} (b : Nat) : ∀ (l : List (Nat × α)) (i : Nat), lu (delL b l) i = if i = b then none else lu l i
  | [], i => by split <;> rfl
  | (j, x) :: l, i => by
    unfold delL
    cases h : Nat.beq j b with
    | true =>
      have hj := beq_t h
      simp only []
      rw [lu_del b l i]
      split
      · rfl
      · rename_i hi
        simp only [lu]
        cases h' : Nat.beq i j with
        | true => exact absurd ((beq_t h').trans hj) hi
        | false => rfl
    | false =>
      have hj := beq_f h
      simp only [lu]
      cases h' : Nat.beq i j with
      | true => rw [if_neg (by rw [beq_t h']; exact hj)]
      | false => exact lu_del b l i
theorem refs_in {b : Nat} : ∀ {l : List (Nat × W)} {i : Nat} {w : W}, lu l i = some w → refers b w = true → inW (.s i) (refs b l) = true
  | (j, x) :: l, i, w, h, hw => by
    unfold lu at h
    unfold refs
    split at h
    · rename_i hb
      cases h
      rw [hw, beq_t hb]
      simp [inW, Wr.same]
    · have := refs_in h hw
      split
      · simp [inW, this]
      · exact this
theorem stillW_id {b : Nat} {ct w : W} (h : refers b w = false) : stillW b ct w = w := by
  unfold stillW
  split
  · simp only [refers] at h; rw [h]
  · simp only [refers] at h; rw [h]
  · rfl

theorem still_id {b : Nat} {ct v : V} (h : ∀ d p, v ≠ .rf d p ∧ v ≠ .it d) : still b ct v = v := by
  cases v <;> first | rfl | exact ((h _ []).1 rfl).elim | exact ((h _ []).2 rfl).elim | skip
  · exact ((h _ _).1 rfl).elim

theorem toV_noItc : ∀ (s : Sh) (x : den s), (toV s x).isItc = false
  | .bool, _ => rfl
  | .int _, _ => rfl
  | .byte, _ => rfl
  | .str, _ => rfl
  | .opt t s, x => by cases x <;> rfl
  | .sl _ _, _ => rfl
  | .agg _ _, _ => rfl
  | .arr _ _, _ => rfl
  | .tup _, _ => rfl
  | .rp _, _ => rfl
  | .fn _ _, _ => rfl
  | .unit, _ => rfl
  | .pair a b, x => toV_noItc a x.1
theorem freeze_ok {b : Nat} {st st' : WSt} (h : freezeW b st = some st') : ∃ s1, freeze b (toSt st) = some s1 ∧ Drop s1 (toSt st') ∧ Agr st st' := by
  unfold freezeW at h
  split at h
  · rename_i ct hb
    split at h
    · rename_i hagg
      obtain ⟨hlt, hagg⟩ := hagg
      cases h
      have hno : ct.toV.isItc = false := by
        cases ct with
        | v s x => exact toV_noItc s x
        | con c => cases c <;> first | rfl | (simp [noItc] at hagg)
        | itc l p => simp [noItc] at hagg
        | bld _ _ _ _ => simp [noItc] at hagg
        | _ => rfl
      have e1 : (toSt st).bx b = some ct.toV := bx_at hb
      refine ⟨⟨fun i => still b ct.toV ((toSt st).s i), upd (toSt st).bx b none, (toSt st).fr⟩, by unfold freeze; rw [e1]; exact if_neg (by rw [hno]; rintro (e | e); exact beq_f hlt e; cases e), ⟨fun i => ?_, ?_, rfl⟩, .b b :: refs b st.s, rfl, ⟨fun i hi => ?_, fun i hi => ?_, fun _ _ => rfl⟩⟩
      · show luV (stillL b ct st.s) i = .junk ∨ luV (stillL b ct st.s) i = still b _ (luV st.s i)
        unfold luV
        rw [lu_still]
        cases lu st.s i with
        | none => left; rfl
        | some w =>
          show (stillW b ct w).toV = .junk ∨ (stillW b ct w).toV = still b _ w.toV
          unfold stillW
          split
          · rename_i d p
            cases hd : Nat.beq d b with
            | true =>
              cases p with
              | nil =>
                simp only []
                by_cases hn : noTag ct = true
                · right
                  rw [if_pos hn]
                  simp only [W.toV, still, if_pos (beq_t hd), V.at_]
                  rw [noTag_untag hn]
                · left; rw [if_neg hn]; rfl
              | cons i p => left; rfl
            | false => right; simp only [W.toV, still, if_neg (beq_f hd)]
          · rename_i d
            cases hd : Nat.beq d b with
            | true =>
              simp only []
              split
              · rename_i t' a ha
                by_cases ht : rowT ≤ t'
                · right
                  simp only [if_pos ht, W.toV, still, if_pos (beq_t hd), asArr_toV ha]
                  have : V.untags (a.l.map (toV a.s)) = a.l.map (toV a.s) := by
                    have q := toV_untag (.arr t' a.s) a.l
                    simp only [toVL, V.untags, V.untag, List.cons.injEq, V.agg.injEq, true_and, and_true] at q
                    exact q
                  rw [this]
                  rfl
                · left
                  simp only [if_neg ht]; rfl
              · left; rfl
            | false => right; simp only [W.toV, still, if_neg (beq_f hd)]
          · rename_i h1 h2
            right
            refine (still_id fun d p => ⟨fun he => ?_, fun he => ?_⟩).symm
            · cases w with
              | v s x => exact (toV_ref s x d p).1 he
              | con c => simp only [W.toV] at he; subst he; exact h1 _ _ rfl
              | _ => simp [W.toV] at he
            · cases w with
              | v s x => exact (toV_ref s x d p).2 he
              | con c => simp only [W.toV] at he; subst he; exact h2 _ rfl
              | _ => simp [W.toV] at he
      · funext i
        show (lu (delL b st.bx) i).map W.toV = upd (fun i => (lu st.bx i).map W.toV) b none i
        unfold upd
        rw [lu_del]
        split <;> rfl
      · show lu (stillL b ct st.s) i = _
        rw [lu_still]
        cases hw : lu st.s i with
        | none => rfl
        | some w =>
          show some (stillW b ct w) = some w
          rw [stillW_id]
          cases hr : refers b w with
          | false => rfl
          | true =>
            have := refs_in hw hr
            simp only [inW, this, Bool.or_true] at hi
            cases hi
      · show lu (delL b st.bx) i = _
        rw [lu_del, if_neg]
        rintro rfl
        simp [inW, Wr.same] at hi
    · cases h
  · cases h

/-! ### a row that is written from now on -/
theorem flat_one {s : Sh} {x : den s} (hs : single s = true) (h : V.flats (toVL s x) = true) : V.flat (headV (toVL s x)) = true := by
  rw [single_toVL hs] at h ⊢
  simpa [V.flats, headV] using h
theorem flat_toVL : ∀ (s : Sh) (x : den s), flatS s = true → V.flats (toVL s x) = true
  | .bool, _, _ => rfl
  | .int _, _, _ => rfl
  | .byte, _, _ => rfl
  | .str, _, _ => rfl
  | .unit, _, _ => rfl
  | .opt t s, x, h => by
    simp only [flatS, Bool.and_eq_true] at h
    cases x with
    | none => rfl
    | some y =>
      have := flat_one h.1 (flat_toVL s y h.2)
      show (V.flat (.iface t (headV (toVL s y))) && true) = true
      simp only [V.flat, this, Bool.and_true]
  | .agg t s, x, h => by
    have := flat_toVL s x h
    simp only [toVL, V.flats, V.flat, this, Bool.and_true]
  | .arr t s, x, h => by
    simp only [flatS, Bool.and_eq_true] at h
    have : ∀ l : List (den s), V.flats (l.map fun x => headV (toVL s x)) = true := by
      intro l
      induction l with
      | nil => rfl
      | cons y l ih => simp only [List.map_cons, V.flats, flat_one h.1 (flat_toVL s y h.2), ih, Bool.and_true]
    simp only [toVL, V.flats, V.flat, Bool.and_true]
    exact this x
  | .pair a b, x, h => by
    simp only [flatS, Bool.and_eq_true] at h
    simp only [toVL, V.flats, flat_one h.1.1 (flat_toVL a x.1 h.1.2), flat_toVL b x.2 h.2, Bool.and_true]
  | .sl _ _, _, h => by cases h
  | .tup _, _, h => by cases h
  | .rp _, _, h => by cases h
theorem flat_map {s : Sh} (hs : single s = true) (h : flatS s = true) : ∀ l : List (den s), V.flats (l.map (toV s)) = true
  | [] => rfl
  | x :: l => by
    have := flat_one hs (flat_toVL s x h)
    simp only [List.map_cons, V.flats, flat_map hs h l, Bool.and_true]
    exact this
mutual
theorem flatW_ok : ∀ w : W, flatW w = true → w.toV.flat = true
  | .v s x, h => by
    simp only [flatW, Bool.and_eq_true] at h
    exact flat_one h.1 (flat_toVL s x h.2)
  | .con c, h => h
  | .agg t fs, h => by
    have := flatWs_ok fs h
    simpa [W.toV, V.flat] using this
  | .iface t w, h => by
    have := flatW_ok w h
    simpa [W.toV, V.flat] using this
  | .tup _, h => by cases h
  | .sl _ _ _ _, h => by cases h
  | .rp _, h => by cases h
  | .fn _ _, h => by cases h
  | .itc _ _, h => by cases h
theorem flatWs_ok : ∀ ws : List W, flatWs ws = true → V.flats (W.toVs ws) = true
  | [], _ => rfl
  | w :: ws, h => by
    simp only [flatWs, Bool.and_eq_true] at h
    simp only [W.toVs, V.flats, flatW_ok w h.1, flatWs_ok ws h.2, Bool.and_true]
end

theorem lu_thL {d : Nat} {kb ks : List Nat} : ∀ (l : List (Nat × W)) (i : Nat), lu (thL d kb ks l) i = (lu l i).map (thS d kb ks i)
  | [], _ => rfl
  | (j, w) :: l, i => by
    simp only [thL, lu]
    cases h : Nat.beq i j with
    | true => rw [beq_t h]; rfl
    | false => exact lu_thL l i
theorem lu_thLog {d : Nat} {kb ks : List Nat} {i : Nat} {w : W} (hc : thC d kb ks i w = true) : ∀ {l : List (Nat × W)}, lu l i = some w → inW (.s i) (thLog d kb ks l) = true
  | (j, x) :: l, h => by
    unfold lu at h
    unfold thLog
    split at h
    · rename_i hb
      cases h
      rw [← beq_t hb, hc]
      simp [inW, Wr.same]
    · have := lu_thLog hc h
      split
      · simp [inW, this]
      · exact this
theorem thS_same {d : Nat} {kb ks : List Nat} {i : Nat} {w : W} (hc : thC d kb ks i w = false) : thS d kb ks i w = w := by
  unfold thC at hc
  unfold thS
  cases hf : flatW w with
  | true => rfl
  | false =>
    rw [hf] at hc
    simp only [] at hc ⊢
    split at hc
    · simp only [Bool.not_eq_false'] at hc; simp only [hc]
    · simp only [Bool.not_eq_false'] at hc; simp only [hc]
    · simp only [Bool.not_eq_false', Bool.and_eq_true, Bool.not_eq_true'] at hc; simp only [hc.1, hc.2]
    · cases hc
theorem lu_thB {l0 : List (Nat × W)} {i : Nat} {w : W} : ∀ {l : List (Nat × W)}, lu (thB l0 l) i = some w → lu l0 i = some w ∧ (flatW w || isItc w) = true
  | (j, x) :: l, h => by
    unfold thB at h
    split at h
    · rename_i w' hw
      split at h
      · rename_i hf
        unfold lu at h
        split at h
        · rename_i hb
          cases h
          rw [beq_t hb]
          exact ⟨hw, hf⟩
        · exact lu_thB h
      · exact lu_thB h
    · exact lu_thB h
theorem thB_lu {l0 : List (Nat × W)} {i : Nat} {w : W} (h0 : lu l0 i = some w) (hf : (flatW w || isItc w) = true) : ∀ {l : List (Nat × W)}, (lu l i).isSome = true → lu (thB l0 l) i = some w
  | [], h => by cases h
  | (j, x) :: l, h => by
    unfold lu at h
    unfold thB
    cases hb : Nat.beq i j with
    | true =>
      obtain rfl := beq_t hb
      simp only [h0, hf, lu, hb]
    | false =>
      rw [hb] at h
      have ih := thB_lu h0 hf (l := l) h
      split
      · split
        · simp only [lu, hb]; exact ih
        · exact ih
      · exact ih
theorem thBLog_in {l0 : List (Nat × W)} {i : Nat} {w : W} (h0 : lu l0 i = some w) (hf : (flatW w || isItc w) = false) : ∀ {l : List (Nat × W)}, (lu l i).isSome = true → inW (.b i) (thBLog l0 l) = true
  | [], h => by cases h
  | (j, x) :: l, h => by
    unfold lu at h
    unfold thBLog
    cases hb : Nat.beq i j with
    | true =>
      obtain rfl := beq_t hb
      simp only [h0, hf]
      simp [inW, Wr.same]
    | false =>
      rw [hb] at h
      have ih := thBLog_in h0 hf (l := l) h
      split
      · split
        · exact ih
        · simp [inW, ih]
      · exact ih
theorem thK_ok {d n : Nat} {fr : List (Nat × (TypeId × Nat))} {sl : List (Nat × W)} : ∀ {ks : List Nat} {u : Unit}, (thK d n fr sl ks).gives u → ∀ i ∈ ks, ∀ k e s l, lu sl i = some (.sl k e s l) →
    (k = d → n = l.length) ∧ (k ≠ d → lu fr k = some (e, l.length) ∧ single s = true ∧ flatS s = true)
  | [], _, _, i, hi, _, _, _, _, _ => by cases hi
  | j :: ks, u, h, i, hi, k, e, s, l, hl => by
    unfold thK at h
    rcases List.mem_cons.1 hi with rfl | hi
    · rw [hl] at h
      simp only [] at h
      split at h
      · rename_i hb
        exact ⟨fun _ => h.1, fun hn => absurd (beq_t hb) hn⟩
      · rename_i hb
        refine ⟨fun hk => absurd hk (beq_f hb), fun _ => ?_⟩
        split at h
        · rename_i e' n' hfr
          obtain ⟨⟨e1, q1, q2⟩, h2⟩ := ite_gives h
          subst e1
          exact ⟨by rw [hfr, h2.1], q1, q2⟩
        · exact h.elim
    · have ih : ∀ {u : Unit}, (thK d n fr sl ks).gives u → _ := fun h => thK_ok h i hi k e s l hl
      split at h
      · split at h
        · exact ih h.2
        · split at h
          · exact ih (ite_gives h).2.2
          · exact h.elim
      · exact ih h

theorem any_lu {α : Type} {l : List (Nat × α)} {k : Nat} (h : (l.map (·.1)).any (Nat.beq k) = true) : (lu l k).isSome = true := lu_isSome (any_beq h)

theorem thaw_ok {x : Nat} {ks : List Nat} {st st' : WSt} (h : (thawW x ks st).gives st') : ThawTo x (toSt st) (toSt st') ∧ Agr st st' := by
  unfold thawW at h
  split at h
  · rename_i d e s l hx
    split at h
    · rename_i e' n hfr hbn hdl
      obtain ⟨⟨⟨hokr, rfl⟩, hsg, hfs⟩, hn, hpos, h⟩ := ite_gives h
      obtain ⟨u, hk, h⟩ := bind_gives h
      obtain rfl : _ = st' := h
      have hK := thK_ok hk
      have hlu : ∀ i w, lu st.s i = some w → (toSt st).s i = w.toV := fun i w h => by show luV _ i = _; unfold luV; rw [h]
      have hslot : ∀ i, luV (thL d ((thB st.bx st.bx).map (·.1)) ks st.s) i = match lu st.s i with | some w => (thS d ((thB st.bx st.bx).map (·.1)) ks i w).toV | none => .junk := by
        intro i
        unfold luV
        rw [lu_thL]
        cases lu st.s i <;> rfl
      have hbox : ∀ k, k ≠ d → lu ((d, W.v (.arr (rowT + e') s) l) :: thB st.bx st.bx) k = lu (thB st.bx st.bx) k := by
        intro k hk
        show (match Nat.beq k d with | true => _ | false => lu (thB st.bx st.bx) k) = _
        cases hb : Nat.beq k d with
        | true => exact absurd (beq_t hb) hk
        | false => rfl
      have hkb : ∀ k, ((thB st.bx st.bx).map (·.1)).any (Nat.beq k) = true → (lu ((d, W.v (.arr (rowT + e') s) l) :: thB st.bx st.bx) k).isSome = true := by
        intro k hk
        unfold lu
        cases hb : Nat.beq k d with
        | true => rfl
        | false => exact any_lu hk
      refine ⟨⟨d, e', l.map (toV s), ⟨beq_f hdl, hokr⟩, hlu _ _ hx, ?_, ?_, ?_, flat_map hsg hfs l, fun i => ?_, ?_, fun k hkd v hv => ?_, fun k y hy => ?_⟩, ?_⟩
      · show lu st.fr d = _
        rw [hfr, hn, List.length_map]
      · intro h0
        have := congrArg List.length h0
        simp at this
        subst this
        simp at hpos
      · show (lu st.bx d).map W.toV = none
        rw [hbn]; rfl
      · show luV (thL _ _ _ _) i = .junk ∨ _
        rw [hslot]
        cases hw : lu st.s i with
        | none => exact .inl rfl
        | some w =>
          rw [show (toSt (⟨thL d ((thB st.bx st.bx).map (·.1)) ks st.s, (d, W.v (.arr (rowT + e') s) l) :: thB st.bx st.bx, delL d st.fr, .b d :: .f d :: (thLog d ((thB st.bx st.bx).map (·.1)) ks st.s ++ (thBLog st.bx st.bx ++ st.log))⟩ : WSt)).s i = luV (thL d ((thB st.bx st.bx).map (·.1)) ks st.s) i from rfl, hslot, hw, hlu i w hw]
          simp only []
          unfold thS
          cases hf : flatW w with
          | true => exact .inr (.inr ⟨rfl, .inl (flatW_ok w hf)⟩)
          | false =>
            simp only []
            split
            · rename_i k p
              split
              · rename_i hb
                refine .inr (.inr ⟨rfl, .inr (.inr ⟨k, p, .inl rfl, ?_⟩)⟩)
                have := hkb k hb
                show ((lu _ k).map W.toV).isSome = true
                rw [Option.isSome_map]; exact this
              · exact .inl rfl
            · rename_i k
              split
              · rename_i hb
                refine .inr (.inr ⟨rfl, .inr (.inr ⟨k, [], .inr rfl, ?_⟩)⟩)
                have := hkb k hb
                show ((lu _ k).map W.toV).isSome = true
                rw [Option.isSome_map]; exact this
              · exact .inl rfl
            · rename_i k e2 s2 l2
              split
              · rename_i hi
                obtain ⟨q1, q2⟩ := hK i (any_beq hi) _ _ _ _ hw
                split
                · rename_i hkd
                  have := q1 (beq_t hkd)
                  exact .inr (.inl ⟨rfl, e2, _, by rw [beq_t hkd]; rfl, by rw [List.length_map, List.length_map, ← this, ← hn]⟩)
                · rename_i hkd
                  obtain ⟨r1, r2, r3⟩ := q2 (beq_f hkd)
                  refine .inr (.inr ⟨rfl, .inr (.inl ⟨k, e2, _, rfl, ?_, flat_map r2 r3 l2⟩)⟩)
                  show lu (delL d st.fr) k = _
                  rw [lu_del, if_neg (beq_f hkd), r1, List.length_map]
              · exact .inl rfl
            · exact .inl rfl
      · show (lu _ d).map W.toV = _
        unfold lu
        rw [show Nat.beq d d = true from Nat.beq_refl d]
        rfl
      · replace hv : (lu ((d, W.v (.arr (rowT + e') s) l) :: thB st.bx st.bx) k).map W.toV = some v := hv
        rw [hbox k hkd, Option.map_eq_some_iff] at hv
        obtain ⟨w, hw, rfl⟩ := hv
        obtain ⟨g1, g2⟩ := lu_thB hw
        refine ⟨by show (lu st.bx k).map W.toV = _; rw [g1]; rfl, ?_⟩
        rw [Bool.or_eq_true] at g2
        rcases g2 with g2 | g2
        · exact .inl (flatW_ok w g2)
        · cases w <;> first | exact .inr ⟨_, _, rfl⟩ | cases g2
      · replace hy : lu (delL d st.fr) k = some y := hy
        rw [lu_del] at hy
        split at hy
        · cases hy
        · rename_i hk; exact ⟨hy, hk⟩
      · refine ⟨.b d :: .f d :: (thLog d ((thB st.bx st.bx).map (·.1)) ks st.s ++ thBLog st.bx st.bx), by simp, ⟨fun i hi => ?_, fun i hi => ?_, fun i hi => ?_⟩⟩
        · simp only [inW, inW_append, Bool.or_eq_false_iff] at hi
          show lu (thL _ _ _ _) i = _
          rw [lu_thL]
          cases hw : lu st.s i with
          | none => rfl
          | some w =>
            show some (thS _ _ _ i w) = _
            cases hc : thC d ((thB st.bx st.bx).map (·.1)) ks i w with
            | false => rw [thS_same hc]
            | true =>
              have := lu_thLog hc hw
              rw [hi.2.2.1] at this
              cases this
        · simp only [inW, inW_append, Bool.or_eq_false_iff] at hi
          have hid : i ≠ d := by
            rintro rfl
            have := hi.1
            simp [Wr.same] at this
          show lu _ i = _
          rw [hbox i hid]
          cases hw : lu st.bx i with
          | none =>
            cases hq : lu (thB st.bx st.bx) i with
            | none => rfl
            | some w => rw [(lu_thB hq).1] at hw; cases hw
          | some w =>
            cases hf : flatW w || isItc w with
            | true => exact thB_lu hw hf (by rw [hw]; rfl)
            | false =>
              have := thBLog_in hw hf (l := st.bx) (by rw [hw]; rfl)
              rw [hi.2.2.2] at this
              cases this
        · simp only [inW, inW_append, Bool.or_eq_false_iff] at hi
          show lu (delL d st.fr) i = _
          rw [lu_del, if_neg]
          rintro rfl
          have := hi.2.1
          simp [Wr.same] at this
    · exact h.elim
  · exact h.elim

theorem nilRow_ok {x : Nat} {st st' : WSt} (h : nilRowW SH x st = some st') : nilRow x (toSt st) = some (toSt st') ∧ Agr st st' := by
  unfold nilRowW at h
  split at h
  · rename_i c hb hf
    split at h
    · rename_i t fs ha
      split at h
      · rename_i d e hg
        split at h
        · rename_i hc
          cases h
          have e1 : (toSt st).bx ((x - nlB) / 100) = some (.agg t (W.toVs fs)) := by rw [bx_at hb, asAgg_toV ha]
          have e2 : (toSt st).fr x = none := hf
          have e3 : (W.toVs fs)[(x - nlB) % 100]? = some (.sl (some d) e []) := by rw [toVs_get, hg]; rfl
          refine ⟨?_, [.b ((x - nlB) / 100), .f x], rfl, ⟨fun i hi => rfl, fun i hi => ?_, fun i hi => ?_⟩⟩
          · simp only [nilRow, e1, e2, e3, if_pos hc]
            show some (⟨luV st.s, upd (fun i => (lu st.bx i).map W.toV) _ _, upd (lu st.fr) x _⟩ : St) = some ⟨luV st.s, fun i => (lu (ins st.bx _ _) i).map W.toV, lu (ins st.fr x _)⟩
            rw [bx_ins, fr_ins]
            simp only [W.toV, setNth_eq]
            rw [toVs_map, toVs_map, List.map_set]
            rfl
          · show lu (ins st.bx _ _) i = _
            rw [lu_ins, if_neg]
            rintro rfl
            simp [inW, Wr.same] at hi
          · show lu (ins st.fr x _) i = _
            rw [lu_ins, if_neg]
            rintro rfl
            simp [inW, Wr.same] at hi
        · cases h
      · cases h
    · split at h
      · rename_i d e hnag
        split at h
        · rename_i hc
          cases h
          have e1 : (toSt st).bx ((x - nlB) / 100) = some (.sl (some d) e []) := by rw [bx_at hb]; rfl
          have e2 : (toSt st).fr x = none := hf
          refine ⟨?_, [.b ((x - nlB) / 100), .f x], rfl, ⟨fun i hi => rfl, fun i hi => ?_, fun i hi => ?_⟩⟩
          · simp only [nilRow, e1, e2, if_pos hc]
            show some (⟨luV st.s, upd (fun i => (lu st.bx i).map W.toV) _ _, upd (lu st.fr) x _⟩ : St) = some ⟨luV st.s, fun i => (lu (ins st.bx _ _) i).map W.toV, lu (ins st.fr x _)⟩
            rw [bx_ins, fr_ins]
            simp only [W.toV, List.map_nil]
          · show lu (ins st.bx _ _) i = _
            rw [lu_ins, if_neg]
            rintro rfl
            simp [inW, Wr.same] at hi
          · show lu (ins st.fr x _) i = _
            rw [lu_ins, if_neg]
            rintro rfl
            simp [inW, Wr.same] at hi
        · cases h
      · cases h
  · cases h

theorem evD_ok (hT : AllT (fun t => wfA t.as = true) TT) : ∀ (d : DC) (_ : SplitsOk d) (K : Ex → WSt → Option β) (st : WSt), evD TT SH d K st = some r →
    pwq (extT TT) (erase d) (fun e s => ∃ st', s = toSt st' ∧ K e st' = some r ∧ Agr st st') (toSt st)
  | .skip, _, K, st, h => ⟨st, rfl, h, Agr.refl _⟩
  | .exit id, _, K, st, h => ⟨st, rfl, h, Agr.refl _⟩
  | .ret, _, K, st, h => ⟨st, rfl, h, Agr.refl _⟩
  | .reg l, _, K, st, h => by
    obtain ⟨st', h1, h2, h3⟩ := evL_ok hT h
    exact .inl ⟨_, h1, st', rfl, h2, h3⟩
  | .regP T l, _, K, st, h => by
    rcases evLP_ok hT h with ⟨st', h1, h2, h3⟩ | ⟨_, h2, h3⟩
    · exact .inl ⟨_, h1, st', rfl, h2, h3⟩
    · exact .inr ⟨T, h2, st, rfl, h3, Agr.refl _⟩
  | .seq a b, hs, K, st, h => by
    unfold erase pwq
    refine pwq_mono ?_ (evD_ok hT a (fun p hp => hs p (List.mem_append_left _ hp)) _ st h)
    rintro e s ⟨st', rfl, h1, h2⟩
    cases e with
    | normal =>
      left
      refine pwq_mono ?_ (evD_ok hT b (fun p hp => hs p (List.mem_append_right _ hp)) _ st' h1)
      rintro e s ⟨st'', rfl, h3, h4⟩
      exact ⟨st'', rfl, h3, h2.trans h4⟩
    | exit i => exact ⟨st', rfl, h1, h2⟩
    | ret => exact ⟨st', rfl, h1, h2⟩
    | pan T => exact ⟨st', rfl, h1, h2⟩
  | .cond x a b, hs, K, st, h => by
    unfold evD at h
    split at h
    · rename_i c hc
      have e1 : x.ev (toSt st) = .bool c := by rw [evX_toV]; exact asBool_toV hc
      simp only [erase, pwq, e1]
      cases c with
      | true => exact ⟨fun _ => evD_ok hT a (fun p hp => hs p (List.mem_append_left _ hp)) K st h, fun h => by cases h⟩
      | false => exact ⟨fun h => (by cases h), fun _ => evD_ok hT b (fun p hp => hs p (List.mem_append_right _ hp)) K st h⟩
    · cases h
  | .block id b, hs, K, st, h => by
    unfold erase pwq
    refine pwq_mono ?_ (evD_ok hT b hs _ st h)
    rintro e s ⟨st', rfl, h1, h2⟩
    cases e with
    | normal => exact ⟨st', rfl, h1, h2⟩
    | exit i =>
      simp only [] at h1 ⊢
      split at h1
      · rename_i hb
        rw [if_pos (beq_t hb)]
        exact ⟨st', rfl, h1, h2⟩
      · rename_i hb
        rw [if_neg (beq_f hb)]
        exact ⟨st', rfl, h1, h2⟩
    | ret => exact ⟨st', rfl, h1, h2⟩
    | pan T => exact ⟨st', rfl, h1, h2⟩
  | .gh b ks, _, K, st, h => by
    unfold evD at h
    unfold erase pwq
    split at h
    · rename_i hb
      split at h
      · split at h
        · rename_i st' hf
          obtain ⟨h1, h2⟩ := nilRow_ok hf
          exact .inr (.inr (.inl ⟨_, h1, st', rfl, h, h2⟩))
        · cases h
      obtain ⟨st', h1, h2⟩ := run_gives h
      obtain ⟨h3, h4⟩ := thaw_ok h1
      exact .inr (.inl ⟨Nat.le_of_ble_eq_true hb, _, h3, st', rfl, h2, h4⟩)
    right
    right
    right
    split at h
    · rename_i st' hf
      obtain ⟨s1, h1, h2, h3⟩ := freeze_ok hf
      simp only [h1]
      exact ⟨_, h2, st', rfl, h, h3⟩
    · cases h
  | .loop ls b, hs, K, st, h => by
    unfold evD at h
    obtain ⟨x0, h1, h2⟩ := run_gives h
    split at h2
    · rename_i hok0
      obtain ⟨N, hN⟩ := loopK_some h2
      have hN := hN N (Nat.le_refl _)
      unfold erase pwq
      refine ⟨fun n s => ∃ x, s = toSt (ls.head st x []) ∧ ls.ok st x = true ∧ iter _ n x = some r, ⟨N, toSt (ls.head st x0 []), less_head (st := st) (st' := st) ⟨fun _ _ => rfl, fun _ _ => rfl, fun _ _ => rfl⟩ h1 hok0, x0, rfl, hok0, hN⟩, ?_⟩
      rintro n s ⟨x, rfl, hok, hx⟩
      cases n with
      | zero => cases hx
      | succ n =>
        refine pwq_mono ?_ (evD_ok hT b hs _ (ls.head st x []) hx)
        rintro e s ⟨st', rfl, h3, h4⟩
        obtain ⟨l, e1, e2⟩ := h4
        have e1 : st'.log = l := by rw [e1]; exact List.append_nil l
        subst e1
        cases e with
        | normal =>
          obtain ⟨x', h5, h6⟩ := run_gives h3
          split at h6
          · rename_i hc
            rw [Bool.and_eq_true] at hc
            have hsub := hc.2
            have ha : AgrL ls.all st st' := by
              have := (agr_head (ls := ls) (st := st) (x := x) (log := [])).trans (e2.sub hsub)
              exact ⟨fun i hi => this.s i (by rw [inW_append, hi]; rfl), fun i hi => this.b i (by rw [inW_append, hi]; rfl), fun i hi => this.f i (by rw [inW_append, hi]; rfl)⟩
            exact ⟨n, _, Nat.lt_succ_self n, less_head ha h5 hc.1, x', rfl, hc.1, h6⟩
          · cases h6
        | exit i => exact ⟨{ st' with log := st'.log ++ (ls.all ++ st.log) }, rfl, h3, st'.log ++ ls.all, by simp, (agr_head.trans e2).log⟩
        | ret => exact ⟨{ st' with log := st'.log ++ (ls.all ++ st.log) }, rfl, h3, st'.log ++ ls.all, by simp, (agr_head.trans e2).log⟩
        | pan T => exact ⟨{ st' with log := st'.log ++ (ls.all ++ st.log) }, rfl, h3, st'.log ++ ls.all, by simp, (agr_head.trans e2).log⟩
    · cases h2
  | .jn ls a b, hs, K, st, h => by
    unfold evD jn at h
    unfold erase pwq
    refine pwq_mono ?_ (evD_ok hT a (fun p hp => hs p (List.mem_append_left _ hp)) _ { st with log := [] } h)
    rintro e s ⟨st', rfl, h1, h2⟩
    obtain ⟨l, e1, e2⟩ := h2
    have e1 : st'.log = l := by rw [e1]; exact List.append_nil l
    subst e1
    have e2 : AgrL st'.log st st' := ⟨e2.s, e2.b, e2.f⟩
    cases e with
    | normal =>
      simp only [] at h1
      obtain ⟨x, h3, h4⟩ := run_gives h1
      split at h4
      · rename_i hc
        rw [Bool.and_eq_true] at hc
        right
        refine ⟨_, less_head (e2.sub hc.2) h3 hc.1, pwq_mono ?_ (evD_ok hT b (fun p hp => hs p (List.mem_append_right _ hp)) K (ls.head st x (ls.all ++ st.log)) h4)⟩
        rintro e s ⟨st'', rfl, h5, h6⟩
        refine ⟨st'', rfl, h5, Agr.trans ⟨ls.all, rfl, agr_head⟩ h6⟩
      · cases h4
    | exit i => exact ⟨{ st' with log := st'.log ++ st.log }, rfl, h1, st'.log, rfl, e2.log⟩
    | ret => exact ⟨{ st' with log := st'.log ++ st.log }, rfl, h1, st'.log, rfl, e2.log⟩
    | pan T => exact ⟨{ st' with log := st'.log ++ st.log }, rfl, h1, st'.log, rfl, e2.log⟩
  | .ng b, _, K, st, h => .inl ⟨st, rfl, h, Agr.refl _⟩
  | .split x a b, hs, K, st, h => by
    unfold evD at h
    unfold erase
    split at h
    · split at h
      · rename_i l _
        cases he : l.l.isEmpty with
        | true =>
          rw [he] at h
          exact evD_ok hT a (fun p hp => hs p (List.mem_cons_of_mem _ (List.mem_append_left _ hp))) K st h
        | false =>
          rw [he] at h
          have e : erase a = erase b := hs (a, b) (List.mem_cons_self ..)
          rw [e]
          exact evD_ok hT b (fun p hp => hs p (List.mem_cons_of_mem _ (List.mem_append_right _ hp))) K st h
      · cases h
    · cases h
end Go.Nu
/-
  D, text 10: the whole of a function; contracts.
-/
namespace Go.Nu
open Go Go.RowKit

section
variable {P : Program} {n : Nat} {w0 w w' : World} {LX : Nat → Prop} {df : Df} {S0 S S' : Nat → Nat → Prop} {bm : Bm} {ow ow' : Ow} {st st' : St} {a : Act} {o : Oper} {E : Ext}

theorem Sim.drop (h : Sim P n w0 LX df S0 S bm ow st a w) (hd : Drop st st') : Sim P n w0 LX df S0 S bm ow st' a w := by
  refine ⟨h.size, h.defers, h.pins, h.below, h.slt, h.sold, fun i => ?_, ⟨h.junk.1, fun i hi => ?_⟩, fun d v hv => h.box d v (by rw [← hd.bx]; exact hv), fun d hv => h.boxNone d (by rw [← hd.bx]; exact hv), fun d e k hv => h.row d e k (by rw [← hd.fr]; exact hv),
    fun d hv => h.rowNone d (by rw [← hd.fr]; exact hv), h.bInj, h.rInj, h.brDis⟩
  · rcases hd.s i with e | e
    · rw [e]; trivial
    · rw [e, hd.bx]; exact h.slot i
  · rcases hd.s i with e | e
    · exact e
    · rw [e]; exact h.junk.2 i hi

/-- What changes nothing in the world. -/
theorem sim_ghs : ∀ (bs : List Nat) (p : PC) (Q : Ex → St → Prop) (st : St) (a : Act) (w : World), pwq E (ghs bs p) Q st → SimE P n w0 LX df S0 st a w → ∃ st', pwq E p Q st' ∧ SimE P n w0 LX df S0 st' a w
  | [], p, Q, st, a, w, h, hs => ⟨st, h, hs⟩
  | b :: bs, p, Q, st, a, w, h, hs => by
    have next : ∀ st0, SimE P n w0 LX df S0 st0 a w → (pwq E (ghs bs p) Q st0 ∨ ∃ st1, Less st0 st1 ∧ pwq E (ghs bs p) Q st1) → ∃ st', pwq E p Q st' ∧ SimE P n w0 LX df S0 st' a w := by
      rintro st0 hs0 (h | ⟨st1, h1, h2⟩)
      · exact sim_ghs bs p Q st0 a w h hs0
      · obtain ⟨S, bm, ow, hs0⟩ := hs0
        exact sim_ghs bs p Q st1 a w h2 (hs0.less h1)
    have h' : (pwq E (ghs bs p) Q st ∨ ∃ st1, Less st st1 ∧ pwq E (ghs bs p) Q st1) ∨ (thT ≤ b ∧ ∃ st0, ThawTo (b - thT) st st0 ∧ (pwq E (ghs bs p) Q st0 ∨ ∃ st1, Less st0 st1 ∧ pwq E (ghs bs p) Q st1)) ∨ (∃ st0, nilRow b st = some st0 ∧ (pwq E (ghs bs p) Q st0 ∨ ∃ st1, Less st0 st1 ∧ pwq E (ghs bs p) Q st1)) ∨ (match freeze b st with
      | some st' => ∃ st0, Drop st' st0 ∧ (pwq E (ghs bs p) Q st0 ∨ ∃ st1, Less st0 st1 ∧ pwq E (ghs bs p) Q st1)
      | none => False) := h
    rcases h' with h2 | h'
    · exact next st hs h2
    obtain ⟨S, bm, ow, hs⟩ := hs
    rcases h' with ⟨_, st0, h1, h2⟩ | ⟨st0, h1, h2⟩ | h'
    · exact next st0 (hs.thaw h1) h2
    · exact next st0 (hs.nilRow h1) h2
    · split at h'
      · rename_i st1 hf
        obtain ⟨st0, h1, h2⟩ := h'
        obtain ⟨S', bm', ow', hs'⟩ := hs.freeze hf
        exact next st0 ⟨_, _, _, hs'.drop h1⟩ h2
      · exact h'.elim

theorem simQ {hint : List (Nat × Nat)} (hpn : PinOk (nzOf hint) df) (hE : ExtOk P w0 LX E) (hm : P.follows .mixedOrders = true) : ∀ (c : Code) (pc : PC) (Q : Ex → St → Prop) (st : St) (a : Act) (w : World), compileC P n hint c = some pc → pwq E pc Q st → SimE P n w0 LX df S0 st a w → c.wp P (PostC P (nzOf hint) n w0 LX df S0 Q) a w
  | .skip, pc, Q, st, a, w, hc, h, hs => by
    cases hc
    exact wp_skip ⟨st, h, hs⟩
  | .exit id, pc, Q, st, a, w, hc, h, hs => by
    cases hc
    exact wp_exit ⟨st, h, hs⟩
  | .ret, pc, Q, st, a, w, hc, h, hs => by
    cases hc
    exact wp_ret ⟨st, h, hs⟩
  | .region id ops draw, pc, Q, st, a, w, hc, h, hs => by
    unfold compileC at hc
    split at hc
    · rename_i pgs hp
      split at hc
      · rename_i hd
        cases hc
        obtain ⟨st, h, hs⟩ := sim_ghs _ _ _ _ _ _ h hs
        have hdr : draw = true → orderOk ops pgs = true := fun e => by simpa [e] using hd
        generalize hbs : (hint.filter (fun x => x.1 == id + thT)).map (·.2) = bs at h
        cases bs with
        | nil =>
          unfold ghA pwq at h
          rcases h with ⟨st1, h1, h⟩ | ⟨T, h1, h⟩
          · exact sim_region hpn hE hm hp hdr h1 hs fun a' w' hs' => ⟨st1, h, hs'⟩
          · exact pan_region hpn hE hm hp hdr h1 hs fun st' a' w' hg hs' => ⟨T, st, st', rfl, h, hg, hs'⟩
        | cons b bs =>
          have h' : (∃ st', stepL E pgs st = some st' ∧ (pwq E (ghs (b :: bs) .skip) Q st' ∨ ∃ st0, Less st' st0 ∧ pwq E (ghs (b :: bs) .skip) Q st0)) ∨ ∃ T, PanL E T pgs [] false st ∧ Q (.pan T) st := h
          rcases h' with ⟨st1, h1, h'⟩ | ⟨T, h1, h'⟩
          · refine sim_region hpn hE hm hp hdr h1 hs fun a' w' hs' => ?_
            rcases h' with h' | ⟨st0, h2, h3⟩
            · obtain ⟨st2, h4, h5⟩ := sim_ghs _ _ _ _ _ _ h' hs'
              exact ⟨st2, h4, h5⟩
            · obtain ⟨S, bm, ow, hs'⟩ := hs'
              obtain ⟨st2, h4, h5⟩ := sim_ghs _ _ _ _ _ _ h3 (hs'.less h2)
              exact ⟨st2, h4, h5⟩
          · exact pan_region hpn hE hm hp hdr h1 hs fun st' a' w' hg hs' => ⟨T, st, st', rfl, h', hg, hs'⟩
      · split at hc
        · rename_i hd0 hd
          cases hc
          obtain ⟨st, h, hs⟩ := sim_ghs _ _ _ _ _ _ h hs
          have hdt : draw = true := by
            cases draw with
            | true => rfl
            | false => simp at hd0
          subst hdt
          generalize hbs : (hint.filter (fun x => x.1 == id + thT)).map (·.2) = bs at h
          cases bs with
          | nil =>
            unfold ghA pwq at h
            rcases h with ⟨st1, h1, h⟩ | ⟨T, h1, h⟩
            · exact sim_regionF hpn hE hm hp hd h1 hs fun a' w' hs' => ⟨st1, h, hs'⟩
            · exact pan_regionF hpn hE hm hp hd h1 hs fun st' a' w' hg hs' => ⟨T, st, st', rfl, h, hg, hs'⟩
          | cons b bs =>
            have h' : (∃ st', stepL E (fixL pgs) st = some st' ∧ (pwq E (ghs (b :: bs) .skip) Q st' ∨ ∃ st0, Less st' st0 ∧ pwq E (ghs (b :: bs) .skip) Q st0)) ∨ ∃ T, PanL E T (fixL pgs) [] false st ∧ Q (.pan T) st := h
            rcases h' with ⟨st1, h1, h'⟩ | ⟨T, h1, h'⟩
            · refine sim_regionF hpn hE hm hp hd h1 hs fun a' w' hs' => ?_
              rcases h' with h' | ⟨st0, h2, h3⟩
              · obtain ⟨st2, h4, h5⟩ := sim_ghs _ _ _ _ _ _ h' hs'
                exact ⟨st2, h4, h5⟩
              · obtain ⟨S, bm, ow, hs'⟩ := hs'
                obtain ⟨st2, h4, h5⟩ := sim_ghs _ _ _ _ _ _ h3 (hs'.less h2)
                exact ⟨st2, h4, h5⟩
            · exact pan_regionF hpn hE hm hp hd h1 hs fun st' a' w' hg hs' => ⟨T, st, st', rfl, h', hg, hs'⟩
        · cases hc
    · cases hc
  | .seq x y, pc, Q, st, a, w, hc, h, hs => by
    unfold compileC at hc
    split at hc
    · rename_i px py h1 h2
      cases hc
      unfold pwq at h
      refine wp_seq (wp_mono (simQ hpn hE hm x px _ st a w h1 h hs) fun e a' w' hq => ?_)
      cases e with
      | normal =>
        obtain ⟨st1, q1, q2⟩ := hq
        rcases q1 with q1 | ⟨st0, q3, q4⟩
        · exact simQ hpn hE hm y py Q st1 a' w' h2 q1 q2
        · obtain ⟨S, bm, ow, q2⟩ := q2
          exact simQ hpn hE hm y py Q st0 a' w' h2 q4 (q2.less q3)
      | exit i => exact hq
      | ret => exact hq
      | goto l => exact hq.elim
      | panic c => exact hq
      | outgrown => exact hq.elim
    · cases hc
  | .cond x y z, pc, Q, st, a, w, hc, h, hs => by
    unfold compileC at hc
    split at hc
    · rename_i px py pz h1 h2 h3
      cases hc
      unfold pwq at h
      split at h
      · rename_i b hb
        obtain ⟨S, bm, ow, hs'⟩ := id hs
        have := hs'.ev h1
        rw [hb] at this
        refine wp_cond (rep_bool this) ?_
        cases b with
        | true => exact simQ hpn hE hm y py Q st a w h2 (h.1 rfl) hs
        | false => exact simQ hpn hE hm z pz Q st a w h3 (h.2 rfl) hs
      · exact h.elim
    · cases hc
  | .block id x, pc, Q, st, a, w, hc, h, hs => by
    unfold compileC at hc
    split at hc
    · rename_i px h1
      cases hc
      obtain ⟨st, h, hs⟩ := sim_ghs _ _ _ _ _ _ h hs
      unfold pwq at h
      refine wp_block (wp_mono (simQ hpn hE hm x px _ st a w h1 h hs) fun e a' w' hq => ?_)
      cases e with
      | normal => exact hq
      | exit i =>
        obtain ⟨st1, q1, q2⟩ := hq
        simp only [] at q1
        show if i = id then _ else _
        split
        · rename_i hi; rw [if_pos hi] at q1; exact ⟨st1, q1, q2⟩
        · rename_i hi; rw [if_neg hi] at q1; exact ⟨st1, q1, q2⟩
      | ret => exact hq
      | goto l => exact hq.elim
      | panic c => exact hq
      | outgrown => exact hq.elim
    · cases hc
  | .loop x, pc, Q, st, a, w, hc, h, hs => by
    unfold compileC at hc
    split at hc
    · rename_i px h1
      cases hc
      unfold pwq at h
      obtain ⟨I, ⟨n0, st0, hl, hI⟩, hround⟩ := h
      obtain ⟨S, bm, ow, hs⟩ := hs
      refine wp_loop_ghost (fun k a w => ∃ st, I k st ∧ SimE P n w0 LX df S0 st a w) n0 ⟨st0, hI, hs.less hl⟩ ?_
      rintro k a' w' ⟨st1, hI1, hs1⟩
      refine wp_mono (simQ hpn hE hm x px _ st1 a' w' h1 (hround k st1 hI1) hs1) fun e a' w' hq => ?_
      cases e with
      | normal =>
        obtain ⟨st2, ⟨n', st3, q1, q2, q3⟩, S2, bm2, ow2, q4⟩ := hq
        exact ⟨n', q1, st3, q3, q4.less q2⟩
      | exit i => exact hq
      | ret => exact hq
      | goto l => exact hq.elim
      | panic c => exact hq
      | outgrown => exact hq.elim
    · cases hc
  | .rangeFunc _ _ _ _, pc, Q, st, a, w, hc, h, hs => by cases hc
  | .scope _, pc, Q, st, a, w, hc, h, hs => by cases hc
  | .label _, pc, Q, st, a, w, hc, h, hs => by cases hc
  | .goto _, pc, Q, st, a, w, hc, h, hs => by cases hc
  | .refuse _, pc, Q, st, a, w, hc, h, hs => by cases hc


theorem rep1_nil {v v' : V} {c : Value} (hq : nilEq v v') (h : Rep1 P S w ow v c) : Rep1 P S w ow v' c := by
  rcases hq with rfl | ⟨e, e', rfl, rfl⟩
  · exact h
  · have h : RepC P S w ow (.sl none e []) [c] := h
    show RepC P S w ow (.sl none e' []) [c]
    generalize hc : [c] = cs at h
    cases h with
    | nilsl _ h1 =>
      exact .nilsl _ (TagOk.none_ _ _ _ _)
    | emp => exact .emp _ (TagOk.none_ _ _ _ _)
    | sl _ h1 h2 h3 h4 h5 h6 =>
      exact .sl _ (by cases h1; exact .nil _) (by simp) h3 h4 h5 (TagOk.none_ _ _ _ _)

theorem all2_nil {vs vs' : List V} {cs : List Value} : ∀ {vs vs' : List V} {cs : List Value}, All2 nilEq vs vs' → All2 (Rep1 P S w ow) vs cs → All2 (Rep1 P S w ow) vs' cs
  | [], [], _, _, h => h
  | _ :: _, _ :: _, _ :: _, hq, h => ⟨rep1_nil hq.1 h.1, all2_nil (vs := vs) (vs' := vs') (cs := cs) hq.2 h.2⟩
  | _ :: _, _ :: _, [], _, h => h.elim
  | [], _ :: _, _, hq, _ => hq.elim
  | _ :: _, [], _, hq, _ => hq.elim

/-- One result for another. -/
def resEq (v v' : V) : Prop := (v.mem = true ∧ nilEq v v') ∨ ∃ vs vs', v = .tup vs ∧ v' = .tup vs' ∧ All2 nilEq vs vs'
theorem resEq_rep {v v' : V} {c : Value} {bx : Nat → Option V} (hq : resEq v v') (h : RepS P S w ow bm bx v c) : RepS P S w ow bm bx v' c := by
  rcases hq with ⟨hm, hq⟩ | ⟨vs, vs', rfl, rfl, hq⟩
  · exact (rep1_nil hq (h.one hm)).toS
  · obtain ⟨cs, h1, h2⟩ := h
    exact ⟨cs, h1, all2_nil (vs := []) (vs' := []) (cs := []) hq h2⟩

/-- A function is entered. -/
theorem start_sim {S : Nat → Nat → Prop} {bx : Nat → Option V} {args : List V} {cargs : List Value} {k : Nat} (hk : k ≤ lentT) (hn : args.length ≤ k) (hS : ∀ b o, S b o → b < w.heap.size) (ha : All2 (RepS P S w noOw bm bx) args cargs)
    (hb : ∀ d v, bx d = some v → ∃ g, bm d = some g ∧ ownB w LX d g ∧ BoxAt P S w noOw g v ∧ ∀ o, ¬ S g o) (hb0 : ∀ d, bx d = none → bm d = none) (hi : ∀ d d' g, bm d = some g → bm d' = some g → d = d') :
    Sim P k w LX Df.nil S S bm noOw ⟨fun i => args.getD i .junk, bx, fun _ => none⟩ { tmps := cargs.toArray ++ Array.replicate (k - cargs.toArray.size) undef, defers := [] } w := by
  have hlen : args.length = cargs.length := by
    clear hn
    revert cargs
    induction args with
    | nil => intro cargs ha; cases cargs with
      | nil => rfl
      | cons => exact ha.elim
    | cons x xs ih => intro cargs ha; cases cargs with
      | nil => exact ha.elim
      | cons y ys => simp [ih ha.2]
  refine ⟨by simp; omega, rfl, fun _ _ h => (by cases h), BelowX.refl _ _, hS, fun _ _ _ => Iff.rfl, fun i => ?_, ⟨hk, fun i hi => ?_⟩, hb, hb0, fun d e k hd => (by cases hd), fun _ _ => rfl,
      hi, fun d d' k k' x x' c c' h1 _ => (by cases h1), fun d d' g k x c _ h1 => (by cases h1)⟩
  · show RepS _ _ _ _ _ _ (args.getD i .junk) _
    by_cases hi : i < args.length
    · have h1 : args[i]? = some args[i] := by simp [hi]
      obtain ⟨b, h2, h3⟩ := ha.get i _ h1
      have e1 : args.getD i .junk = args[i] := by simp [hi]
      have e2 : (cargs.toArray ++ Array.replicate (k - cargs.toArray.size) undef).getD i undef = b := by
        rw [Array.getD_eq_getD_getElem?, Array.getElem?_append_left (by simpa using by omega)]
        simp [h2]
      rw [e1]
      show RepS _ _ _ _ _ _ _ ((cargs.toArray ++ Array.replicate (k - cargs.toArray.size) undef).getD i undef)
      rw [e2]
      exact h3
    · rw [List.getD_eq_getElem?_getD, List.getElem?_eq_none (by omega)]
      trivial
  · show args.getD i .junk = .junk
    rw [List.getD_eq_getElem?_getD, List.getElem?_eq_none (by omega)]
    rfl

theorem all2_toS {bx : Nat → Option V} : ∀ {vs : List V} {cs : List Value}, All2 (Rep1 P S w ow) vs cs → All2 (RepS P S w ow bm bx) vs cs
  | [], [], _ => trivial
  | _ :: _, _ :: _, h => ⟨h.1.toS, all2_toS h.2⟩
  | [], _ :: _, h => h.elim
  | _ :: _, [], h => h.elim

/-! ### a part that is surely nil -/
theorem untags_get : ∀ (vs : List V) (i : Nat), (V.untags vs)[i]? = (vs[i]?).map V.untag
  | [], i => by simp [V.untags]
  | v :: vs, 0 => by simp [V.untags]
  | v :: vs, i + 1 => by simp [V.untags, untags_get vs i]
theorem at_untag : ∀ {p : List Nat} {u x : V}, u.at_ p = some x → u.untag.at_ p = some x.untag
  | [], u, x, h => by
    have h1 : ∀ v : V, v.at_ [] = some v := fun v => by cases v <;> rfl
    rw [h1] at h ⊢
    cases h
    rfl
  | i :: p, u, x, h => by
    cases u <;> simp only [V.at_] at h <;> try cases h
    rename_i t fs
    split at h
    · rename_i f hf
      simp only [V.untag, V.at_, untags_get, hf, Option.map_some]
      exact at_untag h
    · cases h
theorem pathOff_untag : ∀ {p : List Nat} {u : V}, pathOff P u.untag p = pathOff P u p
  | [], u => by
    have : ∀ x : V, pathOff P x [] = some 0 := fun x => by cases x <;> rfl
    rw [this, this]
  | i :: p, u => by
    cases u <;> try rfl
    rename_i t fs
    simp only [V.untag, pathOff, untags_get]
    cases fs[i]? with
    | none => rfl
    | some f =>
      simp only [Option.map_some, pathOff_untag (u := f)]
      rw [List.map_take, untags_width, ← List.map_take]
theorem rep_setNil {u : V} {cs : List Value} {p : List Nat} {e : TypeId} (h : RepC P S w ow u cs) (hp : u.at_ p = some (.sl (some nilT) e [])) : RepC P S w noOw (u.untag.setAt p (.sl (some nilT) e [])) cs := by
  obtain ⟨off, pre, c, post, q1, q2, q3, q4⟩ := RepC.at_ h hp
  have hc : c = [.slice none 0 0] := by
    generalize hv : V.sl (some nilT) e [] = v at q4
    cases q4 with
    | nilsl => rfl
    | sl _ k1 k2 k3 k4 k5 k6 =>
      cases hv
      rcases k6 _ rfl with ⟨_, h10, _⟩ | ⟨h10, _⟩ | ⟨h10, _⟩
      · cases h10
      · exact absurd h10 (by decide)
      · exact absurd rfl h10.1
    | emp _ k6 =>
      cases hv
      rcases k6 _ rfl with ⟨_, h10, _⟩ | ⟨h10, _⟩ | ⟨h10, _⟩
      · cases h10
      · exact absurd h10 (by decide)
      · exact absurd rfl h10.1
    | _ => cases hv
  subst hc
  have hn : RepC P S w noOw (.sl (some nilT) e []) [.slice none 0 0] := .nilsl _ (TagOk.nil_ _)
  obtain ⟨off', pre', c', post', r1, r2, r3, r4, r5⟩ := RepC.setAt h.untag (at_untag hp) (show V.alike (V.untag (.sl (some nilT) e [])) (.sl (some nilT) e []) = true from rfl) hn
  have e1 : pre' = pre ∧ c' ++ post' = [Value.slice none 0 0] ++ post := by
    rw [pathOff_untag] at r1
    obtain rfl : off' = off := Option.some.inj (r1.symm.trans q1)
    exact List.append_inj (r2.symm.trans q2) (by rw [r3, q3])
  have e2 : c' = [Value.slice none 0 0] ∧ post' = post := List.append_inj e1.2 (by simpa using r4)
  rw [q2, ← e1.1, ← e2.2]
  exact r5
theorem setAt_agg {v x : V} {p : List Nat} (hp : p ≠ []) : (v.setAt p x).isAgg = v.isAgg := by
  cases p with
  | nil => exact absurd rfl hp
  | cons i p => cases v <;> rfl
theorem rep1_setNil {u : V} {c : Value} {p : List Nat} {e : TypeId} (h : Rep1 P S w ow u c) (hp : u.at_ p = some (.sl (some nilT) e [])) : Rep1 P S w noOw (u.untag.setAt p (.sl (some nilT) e [])) c := by
  cases p with
  | nil =>
    have h1 : u.at_ [] = some u := by cases u <;> rfl
    rw [h1] at hp
    cases hp
    have h2 : RepC P S w ow (.sl (some nilT) e []) [c] := h
    exact rep_setNil h2 (show (V.sl (some nilT) e []).at_ [] = some _ from rfl)
  | cons i p =>
    cases u <;> simp only [V.at_] at hp <;> try cases hp
    rename_i t fs
    obtain ⟨cs, rfl, h2⟩ := h
    exact ⟨cs, rfl, rep_setNil (p := i :: p) h2 hp⟩

/-- What a result variable holds. -/
def crRaw (st : St) : CR → Option V
  | .tmp t => some (st.s t)
  | .cell a t => ldV t (st.s a) st.bx
/-- What a function returns. -/
def ResOk (st : St) (crs : List CR) (res : V) : Prop :=
  (∃ v, resV st crs = some v ∧ resEq v res) ∨
  ∃ i p cr u e res0, crs[i]? = some cr ∧ crRaw st cr = some u ∧ u.at_ p = some (.sl (some nilT) e []) ∧ (∃ v, resV st crs = some v ∧ resEq v res0) ∧ nilVal i p res0 = some res

theorem crsV_rep2 (hs : Sim P n w0 LX df S0 S bm ow st a w) : ∀ {rs : List ResultVar} {crs : List CR} {vs : List V}, compileR P rs = some crs → crsV st crs = some vs →
      ∃ cs : List Value, (rs.mapM (resF a.tmps)).run P w = .ok cs w ∧ All2 (Rep1 P S w noOw) vs cs ∧ ∀ (i : Nat) (cr : CR), crs[i]? = some cr → ∃ u c, crRaw st cr = some u ∧ cs[i]? = some c ∧ vs[i]? = some u.untag ∧ u.mem = true ∧ Rep1 P S w ow u c
  | [], crs, vs, hc, hv => by
    cases hc; cases hv
    exact ⟨[], rfl, trivial, fun i t h => by simp at h⟩
  | .tmp t :: rs, crs, vs, hc, hv => by
    unfold compileR at hc
    split at hc
    · rename_i crs' h1
      cases hc
      unfold crsV at hv
      split at hv
      · rename_i v vs' h2 h3
        cases hv
        obtain ⟨cs, q1, q2, q3⟩ := crsV_rep2 hs h1 h3
        replace h2 : (if (st.s t).mem then some (st.s t).untag else none) = some v := h2
        split at h2
        · rename_i hm
          cases h2
          refine ⟨a.tmps.getD t undef :: cs, ?_, ⟨((hs.slot t).one hm).untag, q2⟩, fun i t' hi => ?_⟩
          · rw [List.mapM_cons, Sem.run_bind]
            simp only [resF, Sem.run_pure, Result.andThen_ok, Sem.run_bind, q1]
          · cases i with
            | zero =>
              simp only [List.getElem?_cons_zero, Option.some.injEq] at hi
              subst hi
              exact ⟨_, _, rfl, rfl, rfl, hm, (hs.slot t).one hm⟩
            | succ i => simpa using q3 i t' (by simpa using hi)
        · cases h2
      · cases hv
    · cases hc
  | .cell x t :: rs, crs, vs, hc, hv => by
    unfold compileR at hc
    split at hc
    · rename_i tt crs' h0 h1
      cases hc
      unfold crsV at hv
      split at hv
      · rename_i v vs' h2 h3
        cases hv
        obtain ⟨cs, q1, q2, q3⟩ := crsV_rep2 hs h1 h3
        replace h2 : (match ldV tt (st.s x) st.bx with
          | some v => if v.mem then some v.untag else none
          | none => none) = some v := h2
        split at h2
        · rename_i u hu
          split at h2
          · rename_i hm
            cases h2
            obtain ⟨b, k, c, e1, e2, e3⟩ := ld_key hs h0 (hs.slot x) hu
            refine ⟨c :: cs, ?_, ⟨e3.untag, q2⟩, fun i t' hi => ?_⟩
            · rw [List.mapM_cons, Sem.run_bind]
              simp only [resF, e1, asAddr, Sem.run_pure, Result.andThen_ok, Sem.run_bind, e2, q1]
            · cases i with
              | zero =>
                simp only [List.getElem?_cons_zero, Option.some.injEq] at hi
                subst hi
                exact ⟨u, c, hu, rfl, rfl, hm, e3⟩
              | succ i => simpa using q3 i t' (by simpa using hi)
          · cases h2
        · cases h2
      · cases hv
    · cases hc

/-- A function is left. -/
theorem res_fin {fn : Func} {crs : List CR} {res : V} (hr : compileR P fn.results.toList = some crs) (hs' : Sim P n w0 LX df S0 S bm ow st a w) (hq : ∃ v, resV st crs = some v ∧ resEq v res) :
    ∃ c, (results fn a.tmps).run P w = .ok c w ∧ RepS P S w noOw (fun _ => none) (fun _ => none) res c := by
  obtain ⟨res', hres, hq⟩ := hq
  suffices hsuf : ∃ c, (results fn a.tmps).run P w = .ok c w ∧ RepS P S w noOw (fun _ => none) (fun _ => none) res' c by
    obtain ⟨c, g1, g2⟩ := hsuf
    exact ⟨c, g1, resEq_rep hq g2⟩
  unfold resV at hres
  split at hres
  · rename_i v hv
    cases hres
    obtain ⟨cs, q1, q2⟩ := crsV_rep hs' hr hv
    cases cs with
    | nil => exact q2.elim
    | cons x xs => cases xs with
      | cons y ys => exact q2.2.elim
      | nil =>
        refine ⟨x, ?_, q2.1.toS⟩
        rw [run_results q1]
        rfl
  · rename_i vs hne hv
    cases hres
    obtain ⟨cs, q1, q2⟩ := crsV_rep hs' hr hv
    refine ⟨.tuple cs.toArray, ?_, cs, rfl, q2⟩
    rw [run_results q1, dif_neg]
    · intro hsz
      cases vs with
      | nil => cases cs with
        | nil => simp at hsz
        | cons => exact q2.elim
      | cons v vs => cases cs with
        | nil => exact q2.elim
        | cons c cs => cases vs with
          | nil => exact hne v rfl
          | cons v' vs => cases cs with
            | nil => exact q2.2.elim
            | cons => simp at hsz
  · cases hres

theorem all2_set1 {α β : Type} {R : α → β → Prop} : ∀ {l : List α} {l' : List β} {i : Nat} {x : α} {y : β}, All2 R l l' → l'[i]? = some y → R x y → All2 R (l.set i x) l'
  | [], [], _, _, _, h, _, _ => h
  | _ :: _, _ :: _, 0, _, _, h, hy, hr => ⟨by simp at hy; subst hy; exact hr, h.2⟩
  | _ :: _, _ :: _, i + 1, _, _, h, hy, hr => ⟨h.1, all2_set1 h.2 (by simpa using hy) hr⟩
  | [], _ :: _, _, _, _, h, _, _ => h.elim
  | _ :: _, [], _, _, _, h, _, _ => h.elim
theorem res_ok {fn : Func} {crs : List CR} {res : V} (hr : compileR P fn.results.toList = some crs) (hs' : Sim P n w0 LX df S0 S bm ow st a w) (hq : ResOk st crs res) :
    ∃ c, (results fn a.tmps).run P w = .ok c w ∧ RepS P S w noOw (fun _ => none) (fun _ => none) res c := by
  rcases hq with hq | ⟨i, p, t, ur, e, res0, h1, hraw, h2, hq, h4⟩
  · exact res_fin hr hs' hq
  obtain ⟨c, k1, k2⟩ := res_fin hr hs' hq
  refine ⟨c, k1, ?_⟩
  obtain ⟨v, hv, hq⟩ := hq
  unfold nilVal at h4
  split at h4
  · rename_i vs
    split at h4
    · rename_i u hu
      split at h4
      · rename_i e' hat
        cases h4
        obtain ⟨cs, rfl, k3⟩ := k2
        refine ⟨cs, rfl, ?_⟩
        -- the values that are read
        rcases hq with ⟨hm, hq⟩ | ⟨vs0, vs1, rfl, h5, hq⟩
        · rcases hq with rfl | ⟨_, _, _, h5⟩
          · cases hm
          · cases h5
        cases h5
        unfold resV at hv
        split at hv
        · rename_i v' hv'
          cases hv
          obtain ⟨cs', q1, q2, q3⟩ := crsV_rep2 hs' hr hv'
          exact (by
            cases cs' with
            | nil => exact q2.elim
            | cons y ys => exact absurd q2.1 (fun h => by cases h))
        · rename_i vs' hne hv'
          cases hv
          obtain ⟨cs', q1, q2, q3⟩ := crsV_rep2 hs' hr hv'
          obtain ⟨ur', c0, g0, g1, g2, g3, g33⟩ := q3 i t h1
          obtain rfl : ur' = ur := Option.some.inj (g0.symm.trans hraw)
          have hrun := run_results (fn := fn) q1
          have hlen : ¬ cs'.toArray.size = 1 := by
            intro hsz
            cases vs0 with
            | nil => cases cs' with
              | nil => simp at hsz
              | cons => exact q2.elim
            | cons v vs => cases cs' with
              | nil => exact q2.elim
              | cons c cs => cases vs with
                | nil => exact hne v rfl
                | cons v' vs => cases cs with
                  | nil => exact q2.2.elim
                  | cons => simp at hsz
          rw [dif_neg hlen] at hrun
          have hcc : cs' = cs := by
            have := hrun.symm.trans k1
            simpa using this
          subst hcc
          have hrep := rep1_setNil g33 h2
          -- the value of the contract is the one that is read
          obtain ⟨u', g4, g5⟩ := hq.get i _ g2
          obtain rfl : u' = u := Option.some.inj (g4.symm.trans hu)
          refine all2_set1 k3 g1 ?_
          rcases g5 with g5 | ⟨e1, e2, g5, g6⟩
          · have hat' := at_untag h2
            rw [g5, hat] at hat'
            have : e' = e := by
              have := Option.some.inj hat'
              simp only [V.untag, V.sl.injEq] at this
              exact this.2.1
            rw [← g5, this]
            exact hrep
          · subst g6
            have hp0 : p = [] := by
              cases p with
              | nil => rfl
              | cons => simp [V.at_] at hat
            subst hp0
            have h8 : ∀ x : V, x.at_ [] = some x := fun x => by cases x <;> rfl
            rw [h8] at hat h2
            cases hat
            have h9 : ∀ x y : V, x.setAt [] y = y := fun x y => by cases x <;> rfl
            rw [h9] at hrep ⊢
            have h10 : RepC P S w noOw (.sl (some nilT) e []) [c0] := hrep
            show RepC P S w noOw (.sl (some nilT) e' []) [c0]
            generalize [c0] = q at h10
            generalize hv : V.sl (some nilT) e [] = v at h10
            cases h10 with
            | nilsl => exact .nilsl _ (TagOk.nil_ _)
            | sl _ k1 k2 k3 k4 k5 k6 =>
              cases hv
              rcases k6 _ rfl with ⟨_, h10, _⟩ | ⟨h10, _⟩ | ⟨h10, _⟩
              · cases h10
              · exact absurd h10 (by decide)
              · exact absurd rfl h10.1
            | emp _ k6 =>
              cases hv
              rcases k6 _ rfl with ⟨_, h10, _⟩ | ⟨h10, _⟩ | ⟨h10, _⟩
              · cases h10
              · exact absurd h10 (by decide)
              · exact absurd rfl h10.1
            | _ => cases hv
        · cases hv
      · cases h4
    · cases h4
  · cases h4

/-- A CONTRACT OUT OF A BODY. -/
theorem callsQ {G : World → Prop} {f : FuncId} {fn : Func} {c : Code} {pc : PC} {crs : List CR} {args : List V} {res : V} (hG : Keeps G) (hE : ExtGood P G E) (hm : P.follows .mixedOrders = true) (hf : P.funcs[f]? = some fn) (hb : fn.body = some c)
    {hint : List (Nat × Nat)} (hc : compileC P fn.ntmps hint c = some pc) (hr : compileR P fn.results.toList = some crs) (hk : fn.ntmps ≤ lentT) (hn : args.length ≤ fn.ntmps)
    (h : pwq E pc (fun e st => match e with
      | .exit _ => False
      | .pan _ => False
      | _ => ResOk st crs res) (start args)) : SimCalls P G f args res := by
  intro w S cargs hg hS ha
  have hs : Sim P fn.ntmps w (fun _ => False) Df.nil S S (fun _ => none) noOw (start args) _ w := start_sim hk hn hS (all2_toS ha) (fun d v hv => by cases hv) (fun _ _ => rfl) (fun d d' g h1 _ => by cases h1)
  refine calls_of_wp hf hb (wp_mono (simQ (PinOk.nil _) ⟨G, fun w' hw' => hG w w' hg (hw'.bare fun _ h => h), hE⟩ hm c pc _ _ _ _ hc h ⟨S, _, _, hs⟩) fun e a' w' hq => ?_)
  have fin : ∀ st', ResOk st' crs res → SimE P fn.ntmps w (fun _ => False) Df.nil S st' a' w' → a'.defers = [] ∧ ∃ v, (results fn a'.tmps).run P w' = .ok v w' ∧ (∃ c, Ending.returned v = .returned c ∧ Below w.heap.size w w' ∧ ∃ S' : Nat → Nat → Prop, (∀ b o, S' b o → b < w'.heap.size) ∧ (∀ b o, b < w.heap.size → (S' b o ↔ S b o)) ∧
      RepS P S' w' noOw (fun _ => none) (fun _ => none) res c) := by
    rintro st' hq ⟨S', bm, ow, hs'⟩
    obtain ⟨x, q1, q2⟩ := res_ok hr hs' hq
    exact ⟨hs'.defers, x, q1, x, rfl, hs'.below.bare fun _ h => h, S', hs'.slt, hs'.sold, q2⟩
  cases e with
  | normal => obtain ⟨st', q1, q2⟩ := hq; exact fin st' q1 q2
  | ret => obtain ⟨st', q1, q2⟩ := hq; exact fin st' q1 q2
  | exit i => obtain ⟨st', q1, q2⟩ := hq; exact q1.elim
  | goto l => exact hq.elim
  | panic c => obtain ⟨T, st1, st2, _, q, _⟩ := hq; exact q.elim
  | outgrown => exact hq.elim

/-- .. of one that turns a variable. -/
theorem callsQL {G : World → Prop} {f : FuncId} {fn : Func} {c : Code} {pc : PC} {crs : List CR} {args : List V} {ct ct' res : V} (hE : ExtGood P G E) (hm : P.follows .mixedOrders = true) (hf : P.funcs[f]? = some fn) (hb : fn.body = some c)
    {hint : List (Nat × Nat)} (hc : compileC P fn.ntmps hint c = some pc) (hr : compileR P fn.results.toList = some crs) (hk : fn.ntmps ≤ lentT) (hn : args.length ≤ fn.ntmps)
    (h : pwq E pc (fun e st => match e with
      | .exit _ => False
      | .pan _ => False
      | _ => (∃ v, resV st crs = some v ∧ resEq v res) ∧ ∃ v, st.bx lentT = some v ∧ v.mem = true ∧ v.untag = ct') ⟨fun i => args.getD i .junk, lbx ct, fun _ => none⟩) : SimCallsL P G f args ct ct' res := by
  intro w S cargs g hg hS hbox hng ha
  have hs : Sim P fn.ntmps w (· = g) Df.nil S S (lbm g) noOw ⟨fun i => args.getD i .junk, lbx ct, fun _ => none⟩ { tmps := cargs.toArray ++ Array.replicate (fn.ntmps - cargs.toArray.size) undef, defers := [] } w := by
    refine start_sim hk hn hS ha (fun d v hv => ?_) (fun d hd => ?_) (fun d d' g h1 h2 => ?_)
    · unfold lbx at hv
      split at hv
      · rename_i hd
        subst hd
        cases hv
        exact ⟨g, by simp [lbm], by unfold ownB; rw [if_pos rfl], hbox, hng⟩
      · cases hv
    · by_cases hdl : d = lentT
      · subst hdl; simp [lbx] at hd
      · exact if_neg hdl
    · unfold lbm at h1 h2
      split at h1
      · split at h2
        · rename_i e1 e2; rw [e1, e2]
        · cases h2
      · cases h1
  refine calls_of_wp hf hb (wp_mono (simQ (PinOk.nil _) ⟨G, hg, hE⟩ hm c pc _ _ _ _ hc h ⟨S, _, _, hs⟩) fun e a' w' hq => ?_)
  have fin : ∀ st', ((∃ v, resV st' crs = some v ∧ resEq v res) ∧ ∃ v, st'.bx lentT = some v ∧ v.mem = true ∧ v.untag = ct') → SimE P fn.ntmps w (· = g) Df.nil S st' a' w' → a'.defers = [] ∧ ∃ v, (results fn a'.tmps).run P w' = .ok v w' ∧ (∃ c, Ending.returned v = .returned c ∧ BelowX (· = g) w w' ∧ ∃ S' : Nat → Nat → Prop, (∀ b o, S' b o → b < w'.heap.size) ∧ (∀ b o, b < w.heap.size → (S' b o ↔ S b o)) ∧
      BoxAt P S' w' noOw g ct' ∧ (∀ o, ¬ S' g o) ∧ RepS P S' w' noOw (fun _ => none) (fun _ => none) res c) := by
    rintro st' ⟨hq, v, hv, hvm, hvu⟩ ⟨S', bm, ow, hs'⟩
    obtain ⟨x, q1, q2⟩ := res_fin hr hs' hq
    obtain ⟨g', _, e1, e2, e3⟩ := hs'.box _ _ hv
    have e1 := ownB_lent e1
    subst e1
    exact ⟨hs'.defers, x, q1, x, rfl, hs'.below, S', hs'.slt, hs'.sold, hvu ▸ e2.untag hvm, e3, q2⟩
  cases e with
  | normal => obtain ⟨st', q1, q2⟩ := hq; exact fin st' q1 q2
  | ret => obtain ⟨st', q1, q2⟩ := hq; exact fin st' q1 q2
  | exit i => obtain ⟨st', q1, q2⟩ := hq; exact q1.elim
  | goto l => exact hq.elim
  | panic c => obtain ⟨T, st1, st2, _, q, _⟩ := hq; exact q.elim
  | outgrown => exact hq.elim

/-- .. of one that returns a new variable. -/
theorem callsQN {G : World → Prop} {f : FuncId} {fn : Func} {c : Code} {pc : PC} {t : Nat} {args : List V} {ct : V} (hG : Keeps G) (hE : ExtGood P G E) (hm : P.follows .mixedOrders = true) (hf : P.funcs[f]? = some fn) (hb : fn.body = some c)
    {hint : List (Nat × Nat)} (hc : compileC P fn.ntmps hint c = some pc) (hr : compileR P fn.results.toList = some [.tmp t]) (hk : fn.ntmps ≤ lentT) (hn : args.length ≤ fn.ntmps)
    (h : pwq E pc (fun e st => match e with
      | .exit _ => False
      | .pan _ => False
      | _ => ∃ b v, st.s t = refTo b v ∧ b ≠ lentT ∧ st.bx b = some v ∧ v.mem = true ∧ v.untag = ct ∧ v.isAgg = true) (start args)) : SimCallsN P G f args ct := by
  intro w S cargs hg hS ha
  have hs : Sim P fn.ntmps w (fun _ => False) Df.nil S S (fun _ => none) noOw (start args) _ w := start_sim hk hn hS (all2_toS ha) (fun d v hv => by cases hv) (fun _ _ => rfl) (fun d d' g h1 _ => by cases h1)
  refine calls_of_wp hf hb (wp_mono (simQ (PinOk.nil _) ⟨G, fun w' hw' => hG w w' hg (hw'.bare fun _ h => h), hE⟩ hm c pc _ _ _ _ hc h ⟨S, _, _, hs⟩) fun e a' w' hq => ?_)
  have fin : ∀ st', (∃ b v, st'.s t = refTo b v ∧ b ≠ lentT ∧ st'.bx b = some v ∧ v.mem = true ∧ v.untag = ct ∧ v.isAgg = true) → SimE P fn.ntmps w (fun _ => False) Df.nil S st' a' w' → a'.defers = [] ∧ ∃ v, (results fn a'.tmps).run P w' = .ok v w' ∧ (∃ c g, Ending.returned v = .returned c ∧ NewVal g ct c ∧ Below w.heap.size w w' ∧ w.heap.size ≤ g ∧ ∃ S' : Nat → Nat → Prop, (∀ b o, S' b o → b < w'.heap.size) ∧ (∀ b o, b < w.heap.size → (S' b o ↔ S b o)) ∧
      BoxAt P S' w' noOw g ct ∧ ∀ o, ¬ S' g o) := by
    rintro st' ⟨b, v, hv, hbl, hbx, hvm, hvu, hva⟩ ⟨S', bm, ow, hs'⟩
    obtain ⟨g, e0, e1, e2, e3⟩ := hs'.box _ _ hbx
    have e1 := ownB_ge hbl e1
    have hrun : (results fn a'.tmps).run P w' = .ok (a'.tmps.getD t undef) w' := by
      have hl : fn.results.toList = [.tmp t] := by
        generalize fn.results.toList = l at hr
        unfold compileR at hr
        split at hr
        · cases hr
        · rename_i t' rs
          split at hr
          · rename_i crs h1
            simp only [Option.some.injEq, List.cons.injEq, CR.tmp.injEq] at hr
            obtain ⟨rfl, rfl⟩ := hr
            unfold compileR at h1
            split at h1
            · rfl
            · split at h1 <;> cases h1
            · split at h1 <;> cases h1
          · cases hr
        · split at hr <;> simp at hr
      refine (run_results (cs := [a'.tmps.getD t undef]) ?_).trans rfl
      rw [hl]
      simp only [List.mapM_cons, List.mapM_nil, resF, Sem.run_bind, Sem.run_pure, Result.andThen_ok]
    have hslot := hs'.slot t
    rw [hv] at hslot
    refine ⟨hs'.defers, _, hrun, _, g, rfl, ?_, hs'.below.bare fun _ h => h, e1, S', hs'.slt, hs'.sold, hvu ▸ e2.untag hvm, e3⟩
    cases v <;> simp only [V.isAgg, Bool.false_eq_true] at hva
    rename_i ty es
    have hct : ct = .agg ty (V.untags es) := by rw [← hvu]; rfl
    subst hct
    unfold NewVal
    simp only []
    unfold refTo at hslot
    simp only [] at hslot
    split at hslot
    · rename_i hrow
      rw [if_pos hrow]
      obtain ⟨g', ct', r1, r2, r3⟩ := hslot
      obtain rfl : g' = g := Option.some.inj (r1.symm.trans e0)
      obtain rfl : ct' = _ := Option.some.inj (r2.symm.trans hbx)
      rcases r3 with ⟨_, _, hx, _⟩ | ⟨e, es', cap, hx, q1, q2, q3⟩
      · cases hx
      · cases hx
        exact ⟨cap, by rw [untags_len]; exact q1, q2, by rw [untags_len]; exact q3⟩
    · rename_i hrow
      rw [if_neg hrow]
      obtain ⟨g', ct', off, r1, r2, r3, r4⟩ := hslot
      obtain rfl : g' = g := Option.some.inj (r1.symm.trans e0)
      obtain rfl : 0 = off := Option.some.inj (by rw [← r3]; cases ct' <;> rfl)
      exact r4
  cases e with
  | normal => obtain ⟨st', q1, q2⟩ := hq; exact fin st' q1 q2
  | ret => obtain ⟨st', q1, q2⟩ := hq; exact fin st' q1 q2
  | exit i => obtain ⟨st', q1, q2⟩ := hq; exact q1.elim
  | goto l => exact hq.elim
  | panic c => obtain ⟨T, st1, st2, _, q, _⟩ := hq; exact q.elim
  | outgrown => exact hq.elim

end

def compileF (P : Program) (hint : List (Nat × Nat)) (fn : Func) : Option (PC × List CR) :=
  match fn.body with
  | some c => if fn.ntmps ≤ lentT then match compileC P fn.ntmps hint c, compileR P fn.results.toList with
    | some pc, some crs => some (pc, crs)
    | _, _ => none
    else none
  | none => none

theorem callable_of {P : Program} {f : FuncId} {fn : Func} (hf : P.funcs[f]? = some fn) (h : (!(fn.name == "runtime.NumGoroutine") && !fn.body.isNone) = true) : callable P f = true := by
  unfold callable
  rw [hf]
  exact h

/-! ### results -/
mutual
theorem untag_untag : ∀ v : V, v.untag.untag = v.untag
  | .agg t fs => by simp only [V.untag, untags_untags fs]
  | .tup fs => by simp only [V.untag, untags_untags fs]
  | .iface t v => by simp only [V.untag, untag_untag v]
  | .sl _ _ _ => rfl
  | .bool b => rfl
  | .int k n => rfl
  | .str l => rfl
  | .fn f caps => rfl
  | .junk => rfl
  | .rp _ => rfl
  | .rf _ _ => rfl
  | .it _ => rfl
  | .itc _ _ => rfl
  | .bld _ _ _ _ => rfl
  | .nilp => rfl
  | .nili => rfl
theorem untags_untags : ∀ vs : List V, V.untags (V.untags vs) = V.untags vs
  | [] => rfl
  | v :: vs => by simp only [V.untags, untag_untag v, untags_untags vs]
end

section
variable {st : WSt}
theorem crW_ok {c : CR} {w : W} (h : (crW st c).gives w) : crV (toSt st) c = some w.toV ∧ w.toV.untag = w.toV ∧ w.toV.mem = true := by
  cases c with
  | tmp t =>
    simp only [crW] at h
    split at h
    · rename_i w0 h1
      obtain ⟨h2, h3⟩ := ite_gives h
      have e := untagW_toV (ofO_gives h3)
      have e0 : (toSt st).s t = w0.toV := by show luV _ t = _; unfold luV; rw [h1]
      refine ⟨?_, by rw [e, untag_untag], by rw [e, untag_mem, memW_toV h2]⟩
      show (if ((toSt st).s t).mem then some ((toSt st).s t).untag else none) = _
      rw [e0, memW_toV h2, if_pos rfl, e]
    · exact h.elim
  | cell x t =>
    simp only [crW] at h
    split at h
    · rename_i w0 h1
      obtain ⟨u, h2, h3⟩ := bind_gives h
      obtain ⟨h4, h5⟩ := ite_gives h3
      have e := untagW_toV (ofO_gives h5)
      have e0 : (toSt st).s x = w0.toV := by show luV _ x = _; unfold luV; rw [h1]
      refine ⟨?_, by rw [e, untag_untag], by rw [e, untag_mem, memW_toV h4]⟩
      show (match ldV t ((toSt st).s x) (toSt st).bx with | some v => if v.mem then some v.untag else none | none => none) = _
      rw [e0, ldW_ok h2]
      simp only [memW_toV h4, if_true, e]
    · exact h.elim
theorem crsW_ok : ∀ {crs : List CR} {ws : List W}, (crsW st crs).gives ws → crsV (toSt st) crs = some (ws.map W.toV) ∧ ∀ w ∈ ws, w.toV.untag = w.toV ∧ w.toV.mem = true
  | [], ws, h => by
    obtain rfl : [] = ws := h
    exact ⟨rfl, by simp⟩
  | c :: crs, ws, h => by
    obtain ⟨w, h1, h2⟩ := bind_gives (show ((crW st c).bind fun w => (crsW st crs).bind fun ws => .pure (w :: ws)).gives ws from h)
    obtain ⟨us, h3, h4⟩ := bind_gives h2
    obtain rfl : w :: us = ws := h4
    obtain ⟨e1, e2⟩ := crW_ok h1
    obtain ⟨f1, f2⟩ := crsW_ok h3
    refine ⟨by simp only [crsV, e1, f1, List.map_cons], fun u hu => ?_⟩
    rcases List.mem_cons.1 hu with rfl | hu
    · exact e2
    · exact f2 u hu

theorem packRs_ok : ∀ {s : Sh} {ws : List W} {y : den s}, (packRs s ws).gives y → (∀ w ∈ ws, w.toV.untag = w.toV ∧ w.toV.mem = true) → All2 nilEq (ws.map W.toV) (toVL s y)
  | .unit, ws, y, h, _ => by
    cases ws with
    | nil => trivial
    | cons => exact False.elim h
  | .pair a b, ws, y, h, hw => by
    cases ws with
    | nil => exact False.elim h
    | cons w ws =>
      obtain ⟨x, h1, h2⟩ := bind_gives (show ((packA a w).bind fun x => (packRs b ws).bind fun y => .pure (x, y)).gives y from h)
      obtain ⟨z, h3, h4⟩ := bind_gives h2
      obtain rfl : (x, z) = y := h4
      have e := packA_toV h1
      rw [(hw w (by simp)).1] at e
      exact ⟨e, packRs_ok h3 fun u hu => hw u (by simp [hu])⟩
  | .bool, ws, y, h, hw => by
    rcases ws with _ | ⟨w, _ | ⟨w', ws⟩⟩
    · exact False.elim h
    · have e := packA_toV (show (packA _ w).gives y from h)
      rw [(hw w (by simp)).1] at e
      exact ⟨e, trivial⟩
    · exact False.elim h
  | .int _, ws, y, h, hw => by
    rcases ws with _ | ⟨w, _ | ⟨w', ws⟩⟩
    · exact False.elim h
    · have e := packA_toV (show (packA _ w).gives y from h)
      rw [(hw w (by simp)).1] at e
      exact ⟨e, trivial⟩
    · exact False.elim h
  | .byte, ws, y, h, hw => by
    rcases ws with _ | ⟨w, _ | ⟨w', ws⟩⟩
    · exact False.elim h
    · have e := packA_toV (show (packA _ w).gives y from h)
      rw [(hw w (by simp)).1] at e
      exact ⟨e, trivial⟩
    · exact False.elim h
  | .str, ws, y, h, hw => by
    rcases ws with _ | ⟨w, _ | ⟨w', ws⟩⟩
    · exact False.elim h
    · have e := packA_toV (show (packA _ w).gives y from h)
      rw [(hw w (by simp)).1] at e
      exact ⟨e, trivial⟩
    · exact False.elim h
  | .opt _ _, ws, y, h, hw => by
    rcases ws with _ | ⟨w, _ | ⟨w', ws⟩⟩
    · exact False.elim h
    · have e := packA_toV (show (packA _ w).gives y from h)
      rw [(hw w (by simp)).1] at e
      exact ⟨e, trivial⟩
    · exact False.elim h
  | .sl _ _, ws, y, h, hw => by
    rcases ws with _ | ⟨w, _ | ⟨w', ws⟩⟩
    · exact False.elim h
    · have e := packA_toV (show (packA _ w).gives y from h)
      rw [(hw w (by simp)).1] at e
      exact ⟨e, trivial⟩
    · exact False.elim h
  | .agg _ _, ws, y, h, hw => by
    rcases ws with _ | ⟨w, _ | ⟨w', ws⟩⟩
    · exact False.elim h
    · have e := packA_toV (show (packA _ w).gives y from h)
      rw [(hw w (by simp)).1] at e
      exact ⟨e, trivial⟩
    · exact False.elim h
  | .arr _ _, ws, y, h, hw => by
    rcases ws with _ | ⟨w, _ | ⟨w', ws⟩⟩
    · exact False.elim h
    · have e := packA_toV (show (packA _ w).gives y from h)
      rw [(hw w (by simp)).1] at e
      exact ⟨e, trivial⟩
    · exact False.elim h
  | .tup _, ws, y, h, hw => by
    rcases ws with _ | ⟨w, _ | ⟨w', ws⟩⟩
    · exact False.elim h
    · have e := packA_toV (show (packA _ w).gives y from h)
      rw [(hw w (by simp)).1] at e
      exact ⟨e, trivial⟩
    · exact False.elim h
  | .rp _, ws, y, h, hw => by
    rcases ws with _ | ⟨w, _ | ⟨w', ws⟩⟩
    · exact False.elim h
    · have e := packA_toV (show (packA _ w).gives y from h)
      rw [(hw w (by simp)).1] at e
      exact ⟨e, trivial⟩
    · exact False.elim h
  | .fn _ _, ws, y, h, hw => by
    rcases ws with _ | ⟨w, _ | ⟨w', ws⟩⟩
    · exact False.elim h
    · have e := packA_toV (show (packA _ w).gives y from h)
      rw [(hw w (by simp)).1] at e
      exact ⟨e, trivial⟩
    · exact False.elim h

theorem resW_giv {crs : List CR} {rs : Sh} {y : den rs} (h1 : (resW st crs rs).gives y) : ∃ v, resV (toSt st) crs = some v ∧ resEq v (toV rs y) := by
  obtain ⟨ws, h3, h4⟩ := bind_gives h1
  obtain ⟨e1, e2⟩ := crsW_ok h3
  unfold resV
  rw [e1]
  rcases ws with _ | ⟨w, _ | ⟨w', ws⟩⟩
  · refine ⟨.tup [], rfl, .inr ?_⟩
    cases rs with
    | tup s => exact ⟨[], toVL s y, rfl, rfl, packRs_ok (s := s) (ws := []) (y := y) h4 (by simp)⟩
    | _ => exact False.elim h4
  · refine ⟨w.toV, rfl, .inl ⟨(e2 w (by simp)).2, ?_⟩⟩
    have e := packA_toV (show (packA rs w).gives y from h4)
    rwa [(e2 w (by simp)).1] at e
  · refine ⟨.tup _, rfl, .inr ?_⟩
    cases rs with
    | tup s => exact ⟨_, toVL s y, rfl, rfl, packRs_ok (s := s) (y := y) h4 e2⟩
    | _ => exact False.elim h4
end

theorem luV_args : ∀ (as : List Sh) (x : dens as) (n i : Nat), luV (argWs as x n) i = if n ≤ i then (valsL as x).getD (i - n) .junk else .junk
  | [], _, n, i => by
    show V.junk = _
    split <;> simp [valsL]
  | [a], x, n, i => by
    unfold argWs luV lu
    cases h : Nat.beq i n with
    | true =>
      obtain rfl := beq_t h
      simp [valsL, W.toV]
    | false =>
      have := beq_f h
      simp only [lu]
      split
      · rename_i hh
        rw [List.getD_eq_getElem?_getD, List.getElem?_eq_none (by simp [valsL]; omega)]; rfl
      · rfl
  | a :: b :: l, x, n, i => by
    unfold argWs luV lu
    cases h : Nat.beq i n with
    | true =>
      obtain rfl := beq_t h
      simp [valsL, W.toV]
    | false =>
      have hne := beq_f h
      have ih := luV_args (b :: l) x.2 (n + 1) i
      unfold luV at ih
      simp only []
      rw [ih]
      by_cases hn : n + 1 ≤ i
      · rw [if_pos hn, if_pos (by omega)]
        obtain ⟨k, rfl⟩ : ∃ k, i = n + 1 + k := ⟨i - (n + 1), by omega⟩
        rw [show n + 1 + k - n = k + 1 by omega, show n + 1 + k - (n + 1) = k by omega]
        rfl
      · rw [if_neg hn, if_neg (by omega)]

theorem toSt_args (as : List Sh) (x : dens as) : toSt ⟨argWs as x 0, [], [], []⟩ = start (valsL as x) := by
  unfold toSt start
  congr 1
  funext i
  rw [luV_args, if_pos (Nat.zero_le _)]
  rfl

theorem resW_ok {st : WSt} {crs : List CR} {rs : Sh} {y : den rs} (h : (resW st crs rs).run some = some y) : ∃ v, resV (toSt st) crs = some v ∧ resEq v (toV rs y) := by
  obtain ⟨y', h1, h2⟩ := run_gives h
  cases h2
  exact resW_giv h1

theorem resWP_ok {st : WSt} {crs : List CR} {rs : Sh} {i : Nat} {p : List Nat} {y : den rs} {v : V} (h : (resWP st crs rs i p).run some = some y) (hv : nilVal i p (toV rs y) = some v) : ResOk (toSt st) crs v := by
  obtain ⟨y', h1, h2⟩ := run_gives h
  cases h2
  unfold resWP at h1
  split at h1
  · rename_i t ht
    split at h1
    · rename_i w hw
      obtain ⟨u, h3, h4⟩ := bind_gives h1
      split at h4
      · rename_i d e
        obtain ⟨rfl, h5⟩ := ite_gives h4
        rw [nth_eq] at ht
        refine .inr ⟨i, p, .tmp t, _, e, _, ht, rfl, ?_, resW_giv h5, hv⟩
        have : (toSt st).s t = w.toV := by show luV _ t = _; unfold luV; rw [hw]
        rw [this]
        exact atW_ok h3
      · exact h4.elim
    · exact h1.elim
  · rename_i a t ht
    split at h1
    · rename_i x hx
      obtain ⟨w, h0, h1⟩ := bind_gives h1
      obtain ⟨u, h3, h4⟩ := bind_gives h1
      split at h4
      · rename_i d e
        obtain ⟨rfl, h5⟩ := ite_gives h4
        rw [nth_eq] at ht
        refine .inr ⟨i, p, .cell a t, w.toV, e, _, ht, ?_, atW_ok h3, resW_giv h5, hv⟩
        have : (toSt st).s a = x.toV := by show luV _ a = _; unfold luV; rw [hx]
        show ldV t ((toSt st).s a) (toSt st).bx = _
        rw [this]
        exact ldW_ok h0
      · exact h4.elim
    · exact h1.elim
  · exact h1.elim

theorem packA_agg {s : Sh} {w : W} {x : den s} (h : (packA s w).gives x) (ha : w.toV.isAgg = true) : w.toV.untag = toV s x := by
  rcases packA_toV h with e | ⟨_, _, e, _⟩
  · exact e
  · exfalso
    generalize w.toV = v at e ha
    cases v <;> simp [V.isAgg] at ha
    cases e

theorem resWL_ok {st : WSt} {crs : List CR} {r s : Sh} {y : den r × den s} (h : (resWL st crs r s).run some = some y) : (∃ v, resV (toSt st) crs = some v ∧ resEq v (toV r y.1)) ∧ ∃ v, (toSt st).bx lentT = some v ∧ v.mem = true ∧ v.untag = toV s y.2 := by
  obtain ⟨y', h1, h2⟩ := run_gives h
  cases h2
  obtain ⟨y1, h3, h4⟩ := bind_gives h1
  split at h4
  · rename_i w hw
    obtain ⟨h5, h6⟩ := ite_gives h4
    rw [Bool.and_eq_true] at h5
    obtain ⟨c, h7, h8⟩ := bind_gives h6
    obtain rfl : (y1, c) = y := h8
    exact ⟨resW_giv h3, w.toV, bx_at hw, memW_toV h5.1, packA_agg h7 (isAggW_toV1 h5.2)⟩
  · exact h4.elim

theorem resWN_ok {st : WSt} {crs : List CR} {rs : Sh} {y : den rs} (h : (resWN st crs rs).run some = some y) : ∃ t, crs = [.tmp t] ∧ ∃ b v, (toSt st).s t = refTo b v ∧ b ≠ lentT ∧ (toSt st).bx b = some v ∧ v.mem = true ∧ v.untag = toV rs y ∧ v.isAgg = true := by
  obtain ⟨y', h1, h2⟩ := run_gives h
  cases h2
  unfold resWN at h1
  split at h1
  · rename_i t
    split at h1
    · rename_i b row hl
      split at h1
      · rename_i w hw hb
        obtain ⟨h3, h4⟩ := ite_gives h1
        simp only [Bool.and_eq_true, beq_iff_eq] at h3
        obtain ⟨⟨⟨g1, g2⟩, g3⟩, g4⟩ := h3
        have e := packA_agg h4 (isAggW_toV1 g2)
        have hva := isAggW_toV1 g2
        refine ⟨t, rfl, b, w.toV, ?_, beq_f hb, bx_at hw, memW_toV g1, e, hva⟩
        rw [Option.bind_eq_some_iff] at hl
        obtain ⟨u, hu, hl⟩ := hl
        have hs : (toSt st).s t = u.toV := by show luV _ t = _; unfold luV; rw [hu]
        rw [hs]
        generalize w.toV = v at e hva
        cases v <;> simp [V.isAgg] at hva
        rename_i ty es
        have hrow : isRowS rs = decide (rowT ≤ ty) := by
          have e : V.agg ty (V.untags es) = toV rs y := e
          cases rs <;> first
            | (simp [single] at g4; done)
            | (simp [toV, toVL, headV, byteV] at e; done)
            | skip
          · rename_i t s; cases y <;> simp [toV, toVL, headV, optV] at e
          · simp [toV, toVL, headV] at e; simp [isRowS, e.1]
          · simp [toV, toVL, headV] at e; simp [isRowS, e.1]
        unfold lendW at hl
        unfold refTo
        simp only []
        split at hl
        · simp only [Option.some.injEq, Prod.mk.injEq] at hl
          obtain ⟨rfl, rfl⟩ := hl
          rw [hrow] at g3
          have : ¬ rowT ≤ ty := by simpa using g3
          rw [if_neg this]; rfl
        · simp only [Option.some.injEq, Prod.mk.injEq] at hl
          obtain ⟨rfl, rfl⟩ := hl
          rw [hrow] at g3
          have : rowT ≤ ty := by simpa using g3
          rw [if_pos this]; rfl
        · cases hl
      · exact h1.elim
    · exact h1.elim
  · exact h1.elim

theorem toSt_argsL {as : List Sh} {x : dens as} {k : Nat} {w : W} (h : argK as x k = some w) (hb : refTo lentT w.toV = (refW lentT w).toV) : toSt (startL as x k) = ⟨fun i => ((valsL as x).set k (refTo lentT w.toV)).getD i .junk, lbx w.toV, fun _ => none⟩ := by
  have hk := argK_ok h
  have hlt : k < (valsL as x).length := (List.getElem?_eq_some_iff.1 hk).1
  unfold startL
  rw [h]
  unfold toSt
  simp only []
  congr 1
  · rw [luV_ins]
    funext i
    show (if i = k then _ else luV (argWs as x 0) i) = _
    show _ = ((valsL as x).set k (refTo lentT w.toV)).getD i .junk
    rw [luV_args, if_pos (Nat.zero_le _), Nat.sub_zero, List.getD_eq_getElem?_getD, List.getD_eq_getElem?_getD, List.getElem?_set]
    by_cases hi : k = i
    · subst hi
      simp [hlt, hb]
    · rw [if_neg hi, if_neg (fun e => hi e.symm)]
  · funext d
    unfold lbx lu
    cases hd : Nat.beq d lentT with
    | true => rw [if_pos (beq_t hd)]; rfl
    | false => rw [if_neg (beq_f hd)]; rfl

def refSh : Sh → Bool
  | .agg _ _ | .arr _ _ => true
  | _ => false
theorem argK_ref : ∀ {as : List Sh} {x : dens as} {k : Nat}, as[k]?.map refSh = some true → ∃ w, argK as x k = some w ∧ refTo lentT w.toV = (refW lentT w).toV
  | [], _, _, h => by simp at h
  | [a], x, 0, h => by
    refine ⟨_, rfl, ?_⟩
    cases a <;> simp [refSh] at h
    all_goals
      show (if _ then _ else _) = W.toV (if _ then _ else _)
      split <;> rfl
  | [a], x, k + 1, h => by simp at h
  | a :: b :: l, x, 0, h => by
    refine ⟨_, rfl, ?_⟩
    cases a <;> simp [refSh] at h
    all_goals
      show (if _ then _ else _) = W.toV (if _ then _ else _)
      split <;> rfl
  | a :: b :: l, x, k + 1, h => argK_ref (as := b :: l) (x := x.2) (k := k) (by simpa using h)

/-! ### contracts -/
structure TEnt.Ok (P : Program) (G : World → Prop) (t : TEnt) : Prop where
  wf : wfA t.as = true
  can : callable P t.f = true
  sim : t.kd = .plain → ∀ x y, t.F x = some y → SimCalls P G t.f (valsL t.as x) (toV t.rs y)
  simL : ∀ k, t.kd = .lent k → ∀ x y ct c r, t.F x = some y → (valsL t.as x)[k]? = some ct → toVL t.rs y = [r, c] → SimCallsL P G t.f ((valsL t.as x).set k (refTo lentT ct)) ct c r
  simN : t.kd = .new → ∀ x y, t.F x = some y → SimCallsN P G t.f (valsL t.as x) (toV t.rs y)
  simP : ∀ i p, t.kd = .plainN i p → ∀ x y v, t.F x = some y → nilVal i p (toV t.rs y) = some v → SimCalls P G t.f (valsL t.as x) v
  simB : ∀ ty e k, t.kd = .bld ty e → bkOf P t.f = some k → SimCallsB P t.f k ty e
  simM : ∀ T, t.kd = .may T → ∀ x y, t.F x = some y → (∀ u v, toV t.rs y = .iface u v → SimCalls P G t.f (valsL t.as x) v) ∧ (toV t.rs y = .nili → SimCallsX P G t.f (valsL t.as x) T)

theorem TEnt.Ok.plain {P : Program} {G : World → Prop} {f : FuncId} {as : List Sh} {rs : Sh} {F : dens as → Option (den rs)} (wf : wfA as = true) (can : callable P f = true) (sim : ∀ x y, F x = some y → SimCalls P G f (valsL as x) (toV rs y)) : TEnt.Ok P G ⟨f, as, rs, F, .plain⟩ :=
  ⟨wf, can, fun _ => sim, (fun _ h => by cases h), (fun h => by cases h), (fun _ _ h => by cases h), (fun _ _ _ h => by cases h), (fun _ h => by cases h)⟩
/-- A builder's method. -/
theorem TEnt.Ok.bld {P : Program} {G : World → Prop} {f : FuncId} {ty e : TypeId} (k : BK) (can : callable P f = true) (hk : bkOf P f = some k) (sim : SimCallsB P f k ty e) : TEnt.Ok P G ⟨f, [], .unit, fun _ => none, .bld ty e⟩ :=
  ⟨rfl, can, (fun h => by cases h), (fun _ h => by cases h), (fun h => by cases h), (fun _ _ h => by cases h), (fun ty' e' k' h hk' => by cases h; cases hk.symm.trans hk'; exact sim), (fun _ h => by cases h)⟩

theorem AllT.imp {p q : TEnt → Prop} (h : ∀ t, p t → q t) : ∀ {TT : List TEnt}, AllT p TT → AllT q TT
  | [], _ => trivial
  | t :: l, hp => ⟨h t hp.1, AllT.imp h hp.2⟩

theorem all2S_nil {P : Program} {S : Nat → Nat → Prop} {w : World} {ow : Ow} {bm : Bm} {bx : Nat → Option V} : ∀ {vs vs' : List V} {cs : List Value}, All2 nilEq vs vs' → All2 (RepS P S w ow bm bx) vs cs → All2 (RepS P S w ow bm bx) vs' cs
  | [], [], _, _, h => h
  | v :: vs, v' :: vs', c :: cs, hq, h => ⟨by
      rcases hq.1 with e | ⟨e, e', h1, h2⟩
      · exact e ▸ h.1
      · subst h1
        subst h2
        exact rep1_nil (v := .sl none e []) (.inr ⟨e, e', rfl, rfl⟩) h.1, all2S_nil hq.2 h.2⟩
  | _ :: _, _ :: _, [], _, h => h.elim
  | [], _ :: _, _, hq, _ => hq.elim
  | _ :: _, [], _, hq, _ => hq.elim

theorem extT_good {P : Program} {G : World → Prop} {TT : List TEnt} (hT : AllT (TEnt.Ok P G) TT) : ExtGood P G (extT TT) := by
  refine ⟨fun f args res h => ?_, fun f args ct ct' res h => ?_, fun f args ct h => ?_, fun f ty e k h hk => ?_, fun f args T h => ?_⟩
  · obtain ⟨t, x, y, h1, h2, h3, hk⟩ := extT_some h
    obtain ⟨h4, rfl⟩ := findT_all hT h1
    rcases hk with ⟨hk, rfl⟩ | ⟨i, p, hk, hv⟩ | ⟨T, u, hk, hv⟩
    · exact ⟨h4.can, fun w S cargs hg hS ha => h4.sim hk x y h3 w S cargs hg hS (all2_nil (vs := []) (vs' := []) (cs := []) h2 ha)⟩
    · exact ⟨h4.can, fun w S cargs hg hS ha => h4.simP i p hk x y _ h3 hv w S cargs hg hS (all2_nil (vs := []) (vs' := []) (cs := []) h2 ha)⟩
    · exact ⟨h4.can, fun w S cargs hg hS ha => (h4.simM T hk x y h3).1 u _ hv w S cargs hg hS (all2_nil (vs := []) (vs' := []) (cs := []) h2 ha)⟩
  · obtain ⟨t, k, x, y, h1, hk, h2, h5, h3, h6⟩ := extT_someL h
    obtain ⟨h4, rfl⟩ := findT_all hT h1
    exact ⟨h4.can, fun w S cargs g hg hS hb hn ha => h4.simL k hk x y ct ct' res h3 h5 h6 w S cargs g hg hS hb hn (all2S_nil h2 ha)⟩
  · obtain ⟨t, x, y, h1, hk, h2, h3, rfl⟩ := extT_someN h
    obtain ⟨h4, rfl⟩ := findT_all hT h1
    exact ⟨h4.can, fun w S cargs hg hS ha => h4.simN hk x y h3 w S cargs hg hS (all2_nil (vs := []) (vs' := []) (cs := []) h2 ha)⟩
  · unfold extT at h
    simp only [] at h
    split at h
    · cases h
    · rename_i t hf
      split at h
      · rename_i ty' e' hkd
        cases h
        obtain ⟨h4, rfl⟩ := findT_all hT hf
        exact ⟨h4.can, h4.simB _ _ _ hkd hk⟩
      · cases h
  · obtain ⟨t, x, y, h1, h2, h3, hk, hv⟩ := extT_someX h
    obtain ⟨h4, rfl⟩ := findT_all hT h1
    exact ⟨h4.can, fun w S cargs hg hS ha => (h4.simM T hk x y h3).2 hv w S cargs hg hS (all2_nil (vs := []) (vs' := []) (cs := []) h2 ha)⟩

theorem dens_len : ∀ (as : List Sh) (x : dens as), (valsL as x).length = as.length
  | [], _ => rfl
  | [a], _ => rfl
  | a :: b :: l, x => by simp [valsL, dens_len (b :: l) x.2]

theorem compileF_some {P : Program} {hint : List (Nat × Nat)} {fn : Func} {pc : PC} {crs : List CR} (h : compileF P hint fn = some (pc, crs)) : ∃ c, fn.body = some c ∧ fn.ntmps ≤ lentT ∧ compileC P fn.ntmps hint c = some pc ∧ compileR P fn.results.toList = some crs := by
  unfold compileF at h
  split at h
  · rename_i c hbody
    split at h
    · rename_i hk
      split at h
      · rename_i pc' crs' h1 h2
        cases h
        exact ⟨c, hbody, hk, h1, h2⟩
      · cases h
    · cases h
  · cases h

section
variable {P : Program} {G : World → Prop} {f : FuncId} {fn : Func} {d : DC} {crs : List CR} {as : List Sh} {TT : List TEnt} {SH : List (TypeId × Sh)} {hint : List (Nat × Nat)}
/-- A FUNCTION: what its body's run gives, it returns. -/
theorem ent_ok (hG : Keeps G) (hm : P.follows .mixedOrders = true) {rs : Sh} {F : dens as → Option (den rs)}
    (hf : P.funcs[f]? = some fn) (hb : (!(fn.name == "runtime.NumGoroutine") && !fn.body.isNone) = true) (hc : compileF P hint fn = some (erase d, crs)) (hsp : SplitsOk d) (hn : as.length ≤ fn.ntmps) (hw : wfA as = true) (hT : AllT (TEnt.Ok P G) TT)
    (hF : ∀ x, F x = evF TT SH d crs as rs x) : TEnt.Ok P G ⟨f, as, rs, F, .plain⟩ := by
  refine .plain hw (callable_of hf hb) fun x y hy => ?_
  rw [hF] at hy
  obtain ⟨c, hbody, hk, h1, h2⟩ := compileF_some hc
  refine callsQ hG (extT_good hT) hm hf hbody h1 h2 hk (by rw [dens_len]; exact hn) ?_
  have := evD_ok (hT.imp fun t h => h.wf) d hsp _ _ hy
  rw [toSt_args] at this
  refine pwq_mono ?_ this
  rintro e s ⟨st', rfl, h3, h4⟩
  cases e with
  | exit i => cases h3
  | pan T => cases h3
  | normal => exact .inl (resW_ok h3)
  | ret => exact .inl (resW_ok h3)

/-- A function that may panic. -/
theorem ent_okM (hG : Keeps G) (hm : P.follows .mixedOrders = true) {rs : Sh} {T : TypeId} {F : dens as → Option (Option (den rs))}
    (hf : P.funcs[f]? = some fn) (hb : (!(fn.name == "runtime.NumGoroutine") && !fn.body.isNone) = true) (hc : compileF P hint fn = some (erase d, crs)) (hsp : SplitsOk d) (hn : as.length ≤ fn.ntmps) (hw : wfA as = true) (hT : AllT (TEnt.Ok P G) TT)
    (hF : ∀ x, F x = evFM TT SH T d crs as rs x) : TEnt.Ok P G ⟨f, as, .opt T rs, F, .may T⟩ := by
  refine ⟨hw, callable_of hf hb, (fun h => by cases h), (fun _ h => by cases h), (fun h => by cases h), (fun _ _ h => by cases h), (fun _ _ _ h => by cases h), ?_⟩
  intro T' hk' x y hy
  cases hk'
  replace hy : F x = some y := hy
  rw [hF] at hy
  obtain ⟨c, hbody, hk, h1, h2⟩ := compileF_some hc
  have := evD_ok (hT.imp fun t h => h.wf) d hsp _ _ hy
  rw [toSt_args] at this
  refine ⟨fun u v hv => ?_, fun hv => ?_⟩
  · cases y with
    | none => cases hv
    | some z =>
      obtain rfl : toV rs z = v := by
        have : V.iface T (toV rs z) = .iface u v := hv
        cases this; rfl
      refine callsQ hG (extT_good hT) hm hf hbody h1 h2 hk (by rw [dens_len]; exact hn) (pwq_mono ?_ this)
      rintro e s ⟨st', rfl, h3, h4⟩
      have fin : ((resW st' crs rs).run fun y => some (some y)) = some (some z) → ∃ v, resV (toSt st') crs = some v ∧ resEq v (toV rs z) := by
        intro h
        obtain ⟨y', g1, g2⟩ := run_gives h
        cases g2
        exact resW_giv g1
      cases e with
      | exit i => cases h3
      | pan T' =>
        simp only [] at h3
        split at h3 <;> cases h3
      | normal => exact .inl (fin h3)
      | ret => exact .inl (fin h3)
  · cases y with
    | some z => cases hv
    | none =>
      intro w S cargs hg hS ha
      have hs : Sim P fn.ntmps w (fun _ => False) Df.nil S S (fun _ => none) noOw (start (valsL as x)) _ w := start_sim hk (by rw [dens_len]; exact hn) hS (all2_toS ha) (fun d v hv => by cases hv) (fun _ _ => rfl) (fun d d' g h1 _ => by cases h1)
      refine calls_of_wp hf hbody (wp_mono (simQ (PinOk.nil _) ⟨G, fun w' hw' => hG w w' hg (hw'.bare fun _ h => h), extT_good hT⟩ hm c _ _ _ _ _ h1 this ⟨S, _, _, hs⟩) fun e a' w' hq => ?_)
      have no : ∀ st', ((resW st' crs rs).run fun y => some (some y)) ≠ some none := by
        intro st' h
        obtain ⟨y', g1, g2⟩ := run_gives h
        cases g2
      cases e with
      | normal => obtain ⟨st', ⟨_, rfl, h3, _⟩, _⟩ := hq; exact (no _ h3).elim
      | ret => obtain ⟨st', ⟨_, rfl, h3, _⟩, _⟩ := hq; exact (no _ h3).elim
      | exit i => obtain ⟨st', ⟨_, rfl, h3, _⟩, _⟩ := hq; cases h3
      | goto l => exact hq.elim
      | outgrown => exact hq.elim
      | panic c =>
        obtain ⟨T', st1, st2, rfl, ⟨st', rfl, h3, _⟩, _, S', bm, ow, hs'⟩ := hq
        simp only [] at h3
        split at h3
        · rename_i hb
          obtain rfl := beq_t hb
          exact ⟨hs'.defers, rfl, hs'.below.bare fun _ h => h, S', hs'.slt, hs'.sold⟩
        · cases h3

theorem ent_okP (hG : Keeps G) (hm : P.follows .mixedOrders = true) {rs : Sh} {i : Nat} {p : List Nat} {F : dens as → Option (den rs)}
    (hf : P.funcs[f]? = some fn) (hb : (!(fn.name == "runtime.NumGoroutine") && !fn.body.isNone) = true) (hc : compileF P hint fn = some (erase d, crs)) (hsp : SplitsOk d) (hn : as.length ≤ fn.ntmps) (hw : wfA as = true) (hT : AllT (TEnt.Ok P G) TT)
    (hF : ∀ x, F x = evFP TT SH d crs as rs i p x) : TEnt.Ok P G ⟨f, as, rs, F, .plainN i p⟩ := by
  refine ⟨hw, callable_of hf hb, (fun h => by cases h), (fun _ h => by cases h), (fun h => by cases h), ?_, (fun _ _ _ h => by cases h), (fun _ h => by cases h)⟩
  intro i' p' hk' x y v hy hv
  cases hk'
  replace hy : F x = some y := hy
  rw [hF] at hy
  obtain ⟨c, hbody, hk, h1, h2⟩ := compileF_some hc
  refine callsQ hG (extT_good hT) hm hf hbody h1 h2 hk (by rw [dens_len]; exact hn) ?_
  have := evD_ok (hT.imp fun t h => h.wf) d hsp _ _ hy
  rw [toSt_args] at this
  refine pwq_mono ?_ this
  rintro e s ⟨st', rfl, h3, h4⟩
  cases e with
  | exit i => cases h3
  | pan T => cases h3
  | normal => exact resWP_ok h3 hv
  | ret => exact resWP_ok h3 hv

theorem ent_okL (hm : P.follows .mixedOrders = true) {r s : Sh} {k : Nat} {F : dens as → Option (den r × den s)}
    (hf : P.funcs[f]? = some fn) (hb : (!(fn.name == "runtime.NumGoroutine") && !fn.body.isNone) = true) (hc : compileF P hint fn = some (erase d, crs)) (hsp : SplitsOk d) (hn : as.length ≤ fn.ntmps) (hw : wfA as = true) (hs : single s = true) (hak : as[k]?.map refSh = some true) (hT : AllT (TEnt.Ok P G) TT)
    (hF : ∀ x, F x = evFL TT SH d crs as r s k x) : TEnt.Ok P G ⟨f, as, .pair r s, F, .lent k⟩ := by
  refine ⟨hw, callable_of hf hb, (fun h => by cases h), ?_, (fun h => by cases h), (fun _ _ h => by cases h), (fun _ _ _ h => by cases h), (fun _ h => by cases h)⟩
  intro k' hk' x y ct c' r' hy hct hyl
  cases hk'
  replace hyl : headV (toVL r y.1) :: toVL s y.2 = [r', c'] := hyl
  rw [single_toVL hs] at hyl
  obtain ⟨rfl, hc'⟩ := List.cons.inj hyl
  obtain rfl : toV s y.2 = c' := (List.cons.inj hc').1
  replace hy : F x = some y := hy
  rw [hF] at hy
  obtain ⟨c, hbody, hk, h1, h2⟩ := compileF_some hc
  obtain ⟨w, hw, hwr⟩ := argK_ref (x := x) hak
  have hwv : w.toV = ct := Option.some.inj ((argK_ok hw).symm.trans hct)
  refine callsQL (extT_good hT) hm hf hbody h1 h2 hk (by rw [List.length_set, dens_len]; exact hn) ?_
  have := evD_ok (hT.imp fun t h => h.wf) d hsp _ _ hy
  rw [toSt_argsL hw hwr, hwv] at this
  refine pwq_mono ?_ this
  rintro e s ⟨st', rfl, h3, h4⟩
  cases e with
  | exit i => cases h3
  | pan T => cases h3
  | normal => exact resWL_ok h3
  | ret => exact resWL_ok h3

theorem ent_okN (hG : Keeps G) (hm : P.follows .mixedOrders = true) {rs : Sh} {F : dens as → Option (den rs)}
    (hf : P.funcs[f]? = some fn) (hb : (!(fn.name == "runtime.NumGoroutine") && !fn.body.isNone) = true) (hc : compileF P hint fn = some (erase d, crs)) (hsp : SplitsOk d) (hn : as.length ≤ fn.ntmps) (hw : wfA as = true) (hT : AllT (TEnt.Ok P G) TT)
    (hF : ∀ x, F x = evFN TT SH d crs as rs x) : TEnt.Ok P G ⟨f, as, rs, F, .new⟩ := by
  refine ⟨hw, callable_of hf hb, (fun h => by cases h), (fun _ h => by cases h), ?_, (fun _ _ h => by cases h), (fun _ _ _ h => by cases h), (fun _ h => by cases h)⟩
  intro _ x y hy
  replace hy : F x = some y := hy
  rw [hF] at hy
  obtain ⟨c, hbody, hk, h1, h2⟩ := compileF_some hc
  have := evD_ok (hT.imp fun t h => h.wf) d hsp _ _ hy
  rw [toSt_args] at this
  by_cases hcr : ∃ t, crs = [.tmp t]
  · obtain ⟨t, rfl⟩ := hcr
    refine callsQN hG (extT_good hT) hm hf hbody h1 h2 hk (by rw [dens_len]; exact hn) (pwq_mono ?_ this)
    rintro e s ⟨st', rfl, h3, h4⟩
    cases e with
    | exit i => cases h3
    | pan T => cases h3
    | normal => obtain ⟨t', e, h⟩ := resWN_ok h3; cases e; exact h
    | ret => obtain ⟨t', e, h⟩ := resWN_ok h3; cases e; exact h
  · intro w S cargs hg hS ha
    have hs : Sim P fn.ntmps w (fun _ => False) Df.nil S S (fun _ => none) noOw (start (valsL as x)) _ w := start_sim hk (by rw [dens_len]; exact hn) hS (all2_toS ha) (fun d v hv => by cases hv) (fun _ _ => rfl) (fun d d' g h1 _ => by cases h1)
    refine calls_of_wp hf hbody (wp_mono (simQ (PinOk.nil _) ⟨G, fun w' hw' => hG w w' hg (hw'.bare fun _ h => h), extT_good hT⟩ hm c _ _ _ _ _ h1 this ⟨S, _, _, hs⟩) fun e a' w' hq => ?_)
    exfalso
    cases e with
    | normal => obtain ⟨st', ⟨_, rfl, h3, _⟩, _⟩ := hq; obtain ⟨t', e, h⟩ := resWN_ok h3; exact hcr ⟨t', e⟩
    | ret => obtain ⟨st', ⟨_, rfl, h3, _⟩, _⟩ := hq; obtain ⟨t', e, h⟩ := resWN_ok h3; exact hcr ⟨t', e⟩
    | exit i => obtain ⟨st', ⟨_, rfl, h3, _⟩, _⟩ := hq; cases h3
    | goto l => exact hq.elim
    | panic c => obtain ⟨T, st1, st2, _, ⟨_, _, q, _⟩, _⟩ := hq; cases q
    | outgrown => exact hq.elim
end

end Go.Nu
/-
  D, text 11: contracts of functions that are known otherwise.
-/
namespace Go.Nu
open Go Go.RowKit

section
variable {P : Program} {G : World → Prop} {S : Nat → Nat → Prop} {w : World} {ow : Ow}

/-- The one cell of a flat value. -/
def flatC : V → Option Value
  | .bool b => some (.bool b)
  | .int k n => some (.int k n)
  | .str l => some (.string ⟨l.toArray⟩)
  | .nilp => some (.pointer none)
  | .nili => some .nilIface
  | _ => none
def flatCs : List V → Option (List Value)
  | [] => some []
  | v :: vs => match flatC v, flatCs vs with
    | some c, some cs => some (c :: cs)
    | _, _ => none

theorem flat_rep {v : V} {c c' : Value} (h : flatC v = some c) (hr : Rep1 P S w ow v c') : c' = c := by
  cases v <;> simp only [flatC] at h <;> cases h <;> (
    have hr : RepC P S w ow _ [c'] := hr
    generalize hq : [c'] = q at hr
    cases hr
    injection hq)
theorem flats_rep : ∀ {vs : List V} {cs cs' : List Value}, flatCs vs = some cs → All2 (Rep1 P S w ow) vs cs' → cs' = cs
  | [], cs, cs', h, hr => by
    cases h
    cases cs' with
    | nil => rfl
    | cons => exact hr.elim
  | v :: vs, cs, cs', h, hr => by
    unfold flatCs at h
    split at h
    · rename_i c cs1 h1 h2
      cases h
      cases cs' with
      | nil => exact hr.elim
      | cons c' cs' => rw [flat_rep h1 hr.1, flats_rep h2 hr.2]
    · cases h
theorem rep_flat {v : V} {c : Value} (h : flatC v = some c) : Rep1 P S w ow v c := by
  cases v <;> simp only [flatC] at h <;> cases h
  · exact RepC.bool _ _
  · exact RepC.int _ _ _
  · exact RepC.str _ _
  · exact RepC.nilp _
  · exact RepC.nili _
theorem rep_flats : ∀ {vs : List V} {cs : List Value}, flatCs vs = some cs → All2 (Rep1 P S w ow) vs cs
  | [], cs, h => by cases h; trivial
  | v :: vs, cs, h => by
    unfold flatCs at h
    split at h
    · rename_i c cs1 h1 h2
      cases h
      exact ⟨rep_flat h1, rep_flats h2⟩
    · cases h

/-- A function of flat values with a flat result. -/
theorem sim_flat {f : FuncId} {args : List V} {cargs : List Value} {res : V} {c : Value} (ha : flatCs args = some cargs) (hc : flatC res = some c)
    (h : ∀ w, G w → Calls P f cargs.toArray w fun e w' => e = .returned c ∧ Below w.heap.size w w') : SimCalls P G f args res := by
  intro w S cargs' hg hS har
  rw [flats_rep ha har]
  refine (h w hg).mono ?_
  rintro e w' ⟨rfl, hb⟩
  exact ⟨c, rfl, hb, S, fun b o hs => Nat.lt_of_lt_of_le (hS b o hs) hb.size, fun b o _ => Iff.rfl, (rep_flat hc).toS⟩
/-- With several flat results. -/
theorem sim_flats {f : FuncId} {args : List V} {cargs : List Value} {res : List V} {cs : List Value} (ha : flatCs args = some cargs) (hc : flatCs res = some cs)
    (h : ∀ w, G w → Calls P f cargs.toArray w fun e w' => e = .returned (.tuple cs.toArray) ∧ Below w.heap.size w w') : SimCalls P G f args (.tup res) := by
  intro w S cargs' hg hS har
  rw [flats_rep ha har]
  refine (h w hg).mono ?_
  rintro e w' ⟨rfl, hb⟩
  exact ⟨_, rfl, hb, S, fun b o hs => Nat.lt_of_lt_of_le (hS b o hs) hb.size, fun b o _ => Iff.rfl, cs, rfl, rep_flats hc⟩
end

/-! ### rules for plain functions -/
section
variable {α β σ : Type}

theorem gd_pos {c : Prop} [Decidable c] {x : Option β} (h : c) : gd c x = x := if_pos h
theorem gdN_self {a : Nat} {x : Option β} : gdN a a x = x := if_pos rfl
theorem bindO_some {y : α} {K : α → Option β} : bindO (some y) K = K y := rfl

/-- THE LOOP: what holds at each round's head, a number that every round lowers, what the rest of the run comes to. -/
theorem loopK_rule {body : σ → (σ → Option β) → Option β} {x0 : σ} {r : Option β} (J : σ → Prop) (m : σ → Nat) (h0 : J x0) (hr : r.isSome = true)
    (h : ∀ x again, J x → (∀ y, J y → m y < m x → again y = r) → body x again = r) : loopK body x0 = r := by
  obtain ⟨r, rfl⟩ := Option.isSome_iff_exists.1 hr
  have key : ∀ N x, J x → m x < N → ∀ n, N ≤ n → iter body n x = some r := by
    intro N
    induction N with
    | zero => intro x _ hm; omega
    | succ N ih =>
      intro x hJ hm n hn
      cases n with
      | zero => omega
      | succ n => exact h x _ hJ fun y hy hlt => ih y hy (by omega) n (by omega)
  have hex : ∃ r : β, ∃ N, ∀ n, N ≤ n → iter body n x0 = some r := ⟨r, m x0 + 1, key _ x0 h0 (by omega)⟩
  unfold loopK
  rw [dif_pos hex]
  obtain ⟨N, hN⟩ := hex.choose_spec
  have h1 := hN (max N (m x0 + 1)) (by omega)
  have h2 := key _ x0 h0 (Nat.lt_succ_self _) (max N (m x0 + 1)) (by omega)
  rw [h1] at h2
  exact h2

theorem jn_eq {f : (σ → Option β) → Option β} {k : σ → Option β} : jn f k = f k := rfl
/-- Ways that meet: what is known where they meet. -/
theorem jn_rule {f : (σ → Option β) → Option β} {k : σ → Option β} {r : Option β} (Q : σ → Prop) (h1 : ∀ next : σ → Option β, (∀ y, Q y → next y = r) → f next = r) (h2 : ∀ y, Q y → k y = r) : jn f k = r := h1 k h2
end

theorem i64_wrap {n : Int} (h : -9223372036854775808 ≤ n ∧ n ≤ 9223372036854775807) : IntKind.i64.wrap n = n := by rw [IntKind.wrap_i64]; omega
theorem u64_wrap {n : Int} (h : 0 ≤ n ∧ n ≤ 18446744073709551615) : IntKind.u64.wrap n = n := by rw [IntKind.wrap_u64]; omega
end Go.Nu
/-
  D, text 12: how arguments that are read as data are values of a shape; the last step of a law.
-/
namespace Go.Nu
open Go Go.RowKit Go.ChangeShapes Go.WideShapes

def ShOk : Type := (TypeId → Bool) × (Nat → List (Nat × TypeId) → Bool)
def mk1 (f : TypeId → Bool) : ShOk := (f, fun off l => match l with
  | [(o, t)] => o == off && f t
  | _ => false)
/-- Has the type the shape? Have these fields? -/
def shOk (P : Program) : Sh → ShOk
  | .bool => mk1 fun t => match P.underlying t with | some .bool => true | _ => false
  | .int k => mk1 fun t => match P.underlying t with | some (.int k') => decide (k' = k) | _ => false
  | .byte => mk1 fun t => match P.underlying t with | some (.int .u8) => true | _ => false
  | .str => mk1 fun t => match P.underlying t with | some .string => true | _ => false
  | .sl e s => mk1 fun t => match P.underlying t with | some (.slice e') => e' == e && single s && (shOk P s).1 e && decide (0 < P.cellsOf e) | _ => false
  | .agg u s => mk1 fun t => t == u && decide (¬ rowT ≤ t) && (match P.underlying t with
    | some (.struct fs) => (shOk P s).2 0 (fs.toList.map fun f => (f.offset, f.type)) && (fs.toList.map fun f => P.cellsOf f.type).sum == P.cellsOf t
    | _ => false)
  | .arr u s => mk1 fun t => t == u && decide (¬ rowT ≤ t) && (match P.underlying t with
    | some (.array n e) => single s && (shOk P s).1 e && n * P.cellsOf e == P.cellsOf t
    | _ => false)
  | .pair a b => (fun _ => false, fun off l => match l with
    | (o, t) :: l => o == off && single a && (shOk P a).1 t && (shOk P b).2 (off + P.cellsOf t) l
    | [] => false)
  | .unit => (fun _ => false, fun _ l => l.isEmpty)
  | _ => (fun _ => false, fun _ _ => false)

/-- What a reading tells of the value. -/
def RdL (P : Program) {H : Type} : (s : Sh) → den s → List (DataW H) → Prop
  | .bool, b, ds => ds = [.lit (.bool b)]
  | .int k, n, ds => ds = [.lit (.int k n)] ∧ (Lit.int k n).wf = true
  | .byte, b, ds => ds = [.lit (.int .u8 (UInt8.toNat b : Nat))]
  | .str, l, ds => ds = [.lit (.string l)] ∧ List.length (α := UInt8) l ≤ maxLen
  | .sl _ s, l, ds => (ds = [.nil] ∧ l = ([] : List (den s))) ∨ ∃ els sp, ds = [.slice els sp] ∧ All2 (fun x d => RdL P s x [d]) l els ∧ List.length (α := den s) l ≤ maxLen
  | .agg _ s, x, ds => ∃ ps, ds = [.agg ps] ∧ RdL P s x ps
  | .arr t s, l, ds => ∃ ps, ds = [.agg ps] ∧ All2 (fun x d => RdL P s x [d]) l ps ∧ ∀ n e, P.underlying t = some (.array n e) → List.length l = n
  | .unit, _, ds => ds = []
  | .pair a b, x, ds => ∃ d ds', ds = d :: ds' ∧ RdL P a x.1 [d] ∧ RdL P b x.2 ds'
  | _, _, _ => False

section
variable {P : Program} {w : World} {H : Type} {enc : TypeId × Value → H} {base : Nat} {spare : Nat → Bool} {held : Bool}

def SAll (w : World) : Nat → Nat → Prop := fun b _ => b < w.heap.size

theorem choose_list {α : Type} {Q : Nat → α → Prop} : ∀ n, (∀ i, i < n → ∃ x, Q i x) → ∃ l : List α, l.length = n ∧ ∀ (i : Nat) (x : α), l[i]? = some x → Q i x
  | 0, _ => ⟨[], rfl, fun i x h => by simp at h⟩
  | n + 1, h => by
    obtain ⟨l, h1, h2⟩ := choose_list n (fun i hi => h i (by omega))
    obtain ⟨y, hy⟩ := h n (by omega)
    refine ⟨l ++ [y], by simp [h1], fun i x hx => ?_⟩
    rcases Nat.lt_or_ge i l.length with hi | hi
    · rw [List.getElem?_append_left hi] at hx
      exact h2 i x hx
    · have : i = l.length := by
        have := (List.getElem?_eq_some_iff.1 hx).1
        simp at this
        omega
      subst this
      simp at hx
      rw [← hx, h1]
      exact hy

theorem all2_of {α β : Type} {R : α → β → Prop} : ∀ {l : List α} {l' : List β}, l.length = l'.length → (∀ (i : Nat) (x : α) (y : β), l[i]? = some x → l'[i]? = some y → R x y) → All2 R l l'
  | [], [], _, _ => trivial
  | a :: l, b :: l', hl, h => ⟨h 0 a b rfl rfl, all2_of (by simpa using hl) fun i x y hx hy => h (i + 1) x y (by simpa using hx) (by simpa using hy)⟩
  | [], _ :: _, hl, _ => by simp at hl
  | _ :: _, [], hl, _ => by simp at hl

theorem reps_of : ∀ {vs : List V} {cs : List Value} {c : Nat}, cs.length = vs.length * c → (∀ i v, vs[i]? = some v → RepC P (SAll w) w noOw v ((cs.drop (i * c)).take c)) → RepCs P (SAll w) w noOw vs cs
  | [], cs, c, hl, _ => by
    have : cs = [] := List.eq_nil_of_length_eq_zero (by simpa using hl)
    rw [this]
    exact .nil _
  | v :: vs, cs, c, hl, h => by
    have hl' : cs.length = vs.length * c + c := by rw [hl, List.length_cons, Nat.add_mul, Nat.one_mul]
    have h0 := h 0 v rfl
    rw [Nat.zero_mul, List.drop_zero] at h0
    have hr : RepCs P (SAll w) w noOw vs (cs.drop c) := by
      refine reps_of (c := c) (by rw [List.length_drop]; omega) fun i u hu => ?_
      have := h (i + 1) u (by simpa using hu)
      rwa [Nat.add_mul, Nat.one_mul, Nat.add_comm, ← List.drop_drop] at this
    have := RepCs.cons _ h0 hr
    rwa [List.take_append_drop] at this

theorem cells?_get {a : Addr} {n : Nat} {cs : List Value} (h : w.cells? base a n = some cs) : cs.length = n ∧ ∀ j u, cs[j]? = some u → w.cell? (a.add j) = some u := by
  unfold World.cells? at h
  split at h
  · have key : ∀ (l : List Nat) (cs : List Value), (l.mapM fun i => w.cell? (a.add i)) = some cs → cs.length = l.length ∧ ∀ (j : Nat) (u : Value), cs[j]? = some u → ∃ i, l[j]? = some i ∧ w.cell? (a.add i) = some u := by
      intro l
      induction l with
      | nil => intro cs h; simp at h; subst h; exact ⟨rfl, fun j u h => by simp at h⟩
      | cons i l ih =>
        intro cs h
        rw [List.mapM_cons] at h
        simp only [Option.bind_eq_bind, Option.bind_eq_some_iff, Option.pure_def, Option.some.injEq] at h
        obtain ⟨c, h1, cs', h2, rfl⟩ := h
        obtain ⟨e1, e2⟩ := ih cs' h2
        refine ⟨by simp [e1], fun j u hu => ?_⟩
        cases j with
        | zero => simp at hu; subst hu; exact ⟨i, rfl, h1⟩
        | succ j => exact e2 j u (by simpa using hu)
    obtain ⟨h1, h2⟩ := key _ _ h
    rw [List.length_range] at h1
    refine ⟨h1, fun j u hu => ?_⟩
    obtain ⟨i, e1, e2⟩ := h2 j u hu
    have hj : j < n := by
      have := (List.getElem?_eq_some_iff.1 hu).1
      omega
    rw [List.getElem?_range hj] at e1
    cases e1
    exact e2
  · cases h

def A1 (P : Program) (w : World) {H : Type} (enc : TypeId × Value → H) (base : Nat) (spare : Nat → Bool) (held : Bool) (n : Nat) (s : Sh) : Prop :=
  ∀ (t : TypeId) (cs : List Value) (y : DataW H × List MemPlace), (shOk P s).1 t = true → cs.length = P.cellsOf t → DataW.trod enc P w base spare held n t cs = some y →
    ∃ x : den s, RepC P (SAll w) w noOw (toV s x) cs ∧ RdL P s x [y.1]
def A2 (P : Program) (w : World) {H : Type} (enc : TypeId × Value → H) (base : Nat) (spare : Nat → Bool) (held : Bool) (n : Nat) (s : Sh) : Prop :=
  ∀ (off : Nat) (fl : List (Nat × TypeId)) (cs : List Value) (ys : List (DataW H × List MemPlace)), (shOk P s).2 off fl = true → off + (fl.map fun f => P.cellsOf f.2).sum = cs.length →
    All2 (fun f y => DataW.trod enc P w base spare held n f.2 ((cs.drop f.1).take (P.cellsOf f.2)) = some y) fl ys →
    ∃ x : den s, RepCs P (SAll w) w noOw (toVL s x) (cs.drop off) ∧ (toVL s x).map (width P) = (fl.map fun f => P.cellsOf f.2) ∧ RdL P s x (ys.map (·.1))

theorem a2_one {n : Nat} {s : Sh} (h : A1 P w enc base spare held n s) (h1 : ∀ x : den s, toVL s x = [toV s x]) (h2 : (shOk P s).2 = (mk1 (shOk P s).1).2) : A2 P w enc base spare held n s := by
  intro off fl cs ys hs hl ha
  rw [h2] at hs
  simp only [mk1] at hs
  split at hs
  · rename_i o t
    simp only [Bool.and_eq_true, beq_iff_eq] at hs
    obtain ⟨rfl, hs⟩ := hs
    rcases ys with _ | ⟨y, _ | ⟨y', ys⟩⟩
    · exact ha.elim
    · have hlen : (cs.drop o).length = P.cellsOf t := by
        rw [List.length_drop]
        simp at hl
        omega
      have hy : DataW.trod enc P w base spare held n t (cs.drop o) = some y := by
        have := ha.1
        simp only [] at this
        rwa [List.take_of_length_le (by omega)] at this
      obtain ⟨x, e1, e2⟩ := h t _ y hs hlen hy
      refine ⟨x, ?_, ?_, e2⟩
      · rw [h1]
        have := RepCs.cons _ e1 (.nil _)
        rwa [List.append_nil] at this
      · rw [h1]
        have := e1.len
        simp [← this, hlen]
    · exact ha.2.elim
  · cases hs

theorem a2_of {n : Nat} (h : ∀ s, A1 P w enc base spare held n s) : ∀ s, A2 P w enc base spare held n s
  | .unit => by
    intro off fl cs ys hs hl ha
    have hs : fl.isEmpty = true := hs
    rw [List.isEmpty_iff] at hs
    subst hs
    cases ys with
    | nil =>
      refine ⟨(), ?_, rfl, rfl⟩
      have : cs.drop off = [] := by
        simp at hl
        rw [List.drop_eq_nil_iff]; omega
      rw [this]
      exact .nil _
    | cons => exact ha.elim
  | .pair a b => by
    intro off fl cs ys hs hl ha
    cases fl with
    | nil => cases hs
    | cons f l =>
      obtain ⟨o, t⟩ := f
      replace hs : (o == off && single a && (shOk P a).1 t && (shOk P b).2 (off + P.cellsOf t) l) = true := hs
      simp only [Bool.and_eq_true, beq_iff_eq] at hs
      obtain ⟨⟨⟨rfl, hsg⟩, hs1⟩, hs2⟩ := hs
      cases ys with
      | nil => exact ha.elim
      | cons y ys =>
        simp only [List.map_cons, List.sum_cons] at hl
        have hlen : ((cs.drop o).take (P.cellsOf t)).length = P.cellsOf t := by
          rw [List.length_take, List.length_drop]
          omega
        obtain ⟨x, e1, e2⟩ := h a t _ y hs1 hlen ha.1
        obtain ⟨z, f1, f2, f3⟩ := a2_of h b (o + P.cellsOf t) l cs ys hs2 (by omega) ha.2
        have hw : width P (toV a x) = P.cellsOf t := by rw [← e1.len, hlen]
        refine ⟨(x, z), ?_, ?_, y.1, ys.map (·.1), rfl, e2, f3⟩
        · have hh : toVL (.pair a b) (x, z) = toV a x :: toVL b z := rfl
          rw [hh]
          have := RepCs.cons _ e1 f1
          rwa [← List.drop_drop, List.take_append_drop] at this
        · have hh : toVL (.pair a b) (x, z) = toV a x :: toVL b z := rfl
          rw [hh, List.map_cons, List.map_cons, f2, hw]
  | .bool => a2_one (h _) (fun _ => rfl) rfl
  | .int _ => a2_one (h _) (fun _ => rfl) rfl
  | .byte => a2_one (h _) (fun _ => rfl) rfl
  | .str => a2_one (h _) (fun _ => rfl) rfl
  | .sl _ _ => a2_one (h _) (fun _ => rfl) rfl
  | .agg _ _ => a2_one (h _) (fun _ => rfl) rfl
  | .arr _ _ => a2_one (h _) (fun _ => rfl) rfl
  | .opt _ _ => fun _ _ _ _ hs => by cases hs
  | .tup _ => fun _ _ _ _ hs => by cases hs
  | .rp _ => fun _ _ _ _ hs => by cases hs
  | .fn _ _ => fun _ _ _ _ hs => by cases hs

theorem wf_byte {n : Int} (h : (Lit.int .u8 n).wf = true) : 0 ≤ n ∧ n < 256 := by
  have : IntKind.u8.min ≤ n ∧ n ≤ IntKind.u8.max := by simpa [Lit.wf] using h
  have e1 : IntKind.u8.min = 0 := by decide
  have e2 : IntKind.u8.max = 255 := by decide
  omega

theorem read_all : ∀ (n : Nat) (s : Sh), A1 P w enc base spare held n s
  | n, .bool => by
    intro t cs y hs hl h
    have hs : (match P.underlying t with | some .bool => true | _ => false) = true := hs
    split at hs
    · rename_i ht
      obtain ⟨b, rfl, rfl⟩ := DataW.trod_bool ht h
      exact ⟨b, .bool _ _, rfl⟩
    · cases hs
  | n, .int k => by
    intro t cs y hs hl h
    have hs : (match P.underlying t with | some (.int k') => decide (k' = k) | _ => false) = true := hs
    split at hs
    · rename_i k' ht
      obtain rfl := of_decide_eq_true hs
      obtain ⟨m, rfl, rfl, hw⟩ := DataW.trod_int ht h
      exact ⟨m, .int _ _ _, rfl, hw⟩
    · cases hs
  | n, .byte => by
    intro t cs y hs hl h
    have hs : (match P.underlying t with | some (.int .u8) => true | _ => false) = true := hs
    split at hs
    · rename_i ht
      obtain ⟨m, rfl, rfl, hw⟩ := DataW.trod_int ht h
      obtain ⟨h0, h1⟩ := wf_byte hw
      refine ⟨UInt8.ofNat m.toNat, ?_, ?_⟩
      · have e : toV .byte (UInt8.ofNat m.toNat) = .int .u8 m := byteV_of h0 h1
        rw [e]
        exact .int _ _ _
      · have e := byteV_of h0 h1
        unfold byteV at e
        injection e with _ e
        show [DataW.lit (Lit.int .u8 m)] = [DataW.lit (Lit.int .u8 ((UInt8.ofNat m.toNat).toNat : Nat))]
        rw [e]
    · cases hs
  | n, .str => by
    intro t cs y hs hl h
    have hs : (match P.underlying t with | some .string => true | _ => false) = true := hs
    split at hs
    · rename_i ht
      obtain ⟨s, rfl, rfl, hsz⟩ := DataW.trod_string ht h
      exact ⟨s.data.toList, RepC.str (P := P) (S := SAll w) (w := w) noOw s.data.toList, rfl, by have hsz := hsz; simpa using hsz⟩
    · cases hs
  | n, .sl e s => by
    intro t cs y hs hl h
    have hs : (match P.underlying t with | some (.slice e') => e' == e && single s && (shOk P s).1 e && decide (0 < P.cellsOf e) | _ => false) = true := hs
    split at hs
    · rename_i e' ht
      simp only [Bool.and_eq_true, beq_iff_eq, decide_eq_true_eq] at hs
      obtain ⟨⟨⟨rfl, hsg⟩, hs1⟩, hpos⟩ := hs
      rcases DataW.trod_slice ht h with ⟨rfl, rfl⟩ | ⟨a, len, cap, elems, rest, m, hnm, rfl, rfl, hb, hlc, hcm, hlen, hel, _, _⟩
      · exact ⟨([] : List (den s)), .nilsl _ (TagOk.none_ _ _ _ _), .inl ⟨rfl, rfl⟩⟩
      · have hex : ∀ i, i < len → ∃ xc : den s × List Value, w.cells? base (a.add (i * P.cellsOf e')) (P.cellsOf e') = some xc.2 ∧ RepC P (SAll w) w noOw (toV s xc.1) xc.2 ∧ ∀ d, elems[i]? = some d → RdL P s xc.1 [d.1] := by
          intro i hi
          have h1 := hel i hi
          have hel' : elems[i]? = some (elems[i]'(by omega)) := List.getElem?_eq_getElem _
          rw [hel', Option.bind_eq_some_iff] at h1
          obtain ⟨cs, h2, h3⟩ := h1
          obtain ⟨x, e1, e2⟩ := read_all m s e' cs _ hs1 (cells?_get h2).1 h3
          refine ⟨(x, cs), h2, e1, fun d hd => ?_⟩
          rw [hel'] at hd
          cases hd
          exact e2
        obtain ⟨l, l1, l2⟩ := choose_list len hex
        refine ⟨l.map (·.1), ?_, .inr ⟨elems.map (·.1), rest.map (·.1), rfl, all2_of (by simp; omega) (fun i x d hx hd => ?_), by rw [List.length_map]; omega⟩⟩
        · have hv : toV (.sl e' s) (l.map (·.1)) = .sl none e' (l.map fun x => toV s x.1) := by
            show V.sl none e' ((l.map (·.1)).map (toV s)) = _
            rw [List.map_map]; rfl
          rw [hv]
          by_cases h0 : len = 0
          · have : l = [] := List.eq_nil_of_length_eq_zero (by omega)
            subst this
            subst h0
            exact .emp _ (TagOk.none_ _ _ _ _)
          · -- the address is a plain one
            have hsp : a.spot = none := by
              obtain ⟨x0, hx0⟩ : ∃ x0, l[0]? = some x0 := ⟨l[0]'(by omega), List.getElem?_eq_getElem _⟩
              obtain ⟨h2, _, _⟩ := l2 0 x0 hx0
              obtain ⟨g1, g2⟩ := cells?_get h2
              obtain ⟨u, hu⟩ : ∃ u, x0.2[0]? = some u := ⟨x0.2[0]'(by omega), List.getElem?_eq_getElem _⟩
              have := g2 0 u hu
              have e0 : (a.add (0 * P.cellsOf e')).add 0 = a := by simp [Addr.add]
              rw [e0] at this
              unfold World.cell? at this
              split at this
              · split at this
                · cases this
                · rename_i hns
                  cases hq : a.spot with
                  | none => rfl
                  | some q => rw [hq] at hns; simp at hns
              · cases this
            obtain ⟨b, o, sp⟩ := a
            simp only at hsp
            subst hsp
            have hall : (l.map fun x => toV s x.1).length = len := by simp [l1]
            have hcell : ∀ i x, l[i]? = some x → ∀ j u, x.2[j]? = some u → w.cell? ⟨b, o + (i * P.cellsOf e' + j), none⟩ = some u := by
              intro i x hx j u hu
              obtain ⟨h2, _, _⟩ := l2 i x hx
              have := (cells?_get h2).2 j u hu
              rwa [addr_add, addr_add, Nat.add_assoc] at this
            have hxl : ∀ x ∈ l, x.2.length = P.cellsOf e' := by
              intro x hx
              obtain ⟨i, hi⟩ := List.getElem?_of_mem hx
              exact (cells?_get (l2 i x hi).1).1
            have hreps : ∀ l' : List (den s × List Value), (∀ x ∈ l', RepC P (SAll w) w noOw (toV s x.1) x.2) → RepCs P (SAll w) w noOw (l'.map fun x => toV s x.1) (l'.flatMap (·.2)) := by
              intro l'
              induction l' with
              | nil => intro _; exact .nil _
              | cons x l' ih => intro hh; exact .cons _ (hh x (by simp)) (ih fun y hy => hh y (by simp [hy]))
            have hrep : ∀ x ∈ l, RepC P (SAll w) w noOw (toV s x.1) x.2 := by
              intro x hx
              obtain ⟨i, hi⟩ := List.getElem?_of_mem hx
              exact (l2 i x hi).2.1
            have hmem : Mem (SAll w) w b o (l.flatMap (·.2)) := by
              have key : ∀ (l' : List (den s × List Value)) (k : Nat), (∀ x ∈ l', x.2.length = P.cellsOf e') → (∀ i x, l'[i]? = some x → ∀ j u, x.2[j]? = some u → w.cell? ⟨b, o + ((k + i) * P.cellsOf e' + j), none⟩ = some u) →
                  ∀ j u, (l'.flatMap (·.2))[j]? = some u → w.cell? ⟨b, o + (k * P.cellsOf e' + j), none⟩ = some u := by
                intro l'
                induction l' with
                | nil => intro k _ _ j u hu; simp at hu
                | cons x l' ih =>
                  intro k h1 h2 j u hu
                  rw [List.flatMap_cons] at hu
                  have hx := h1 x (by simp)
                  rcases Nat.lt_or_ge j x.2.length with hj | hj
                  · rw [List.getElem?_append_left hj] at hu
                    exact h2 0 x rfl j u hu
                  · rw [List.getElem?_append_right hj] at hu
                    have := ih (k + 1) (fun y hy => h1 y (by simp [hy])) (fun i y hy j u hu => by
                      have := h2 (i + 1) y (by simpa using hy) j u hu
                      rwa [show k + (i + 1) = k + 1 + i by omega] at this) (j - x.2.length) u hu
                    rw [hx, Nat.add_mul, Nat.one_mul, show k * P.cellsOf e' + P.cellsOf e' + (j - P.cellsOf e') = k * P.cellsOf e' + j by omega] at this
                    exact this
              intro j u hu
              have hc := key l 0 hxl (fun i x hx j u hu => by rw [Nat.zero_add]; exact hcell i x hx j u hu) j u hu
              rw [Nat.zero_mul, Nat.zero_add] at hc
              refine ⟨?_, hc⟩
              show b < w.heap.size
              rcases Nat.lt_or_ge b w.heap.size with h | h
              · exact h
              · unfold World.cell? at hc
                simp [Array.getElem?_eq_none h] at hc
            have := RepC.sl (P := P) (w := w) (tag := none) (e := e') (cap := cap) noOw (hreps l hrep) (by
              intro v hv
              obtain ⟨x, hx, rfl⟩ := List.mem_map.1 hv
              rw [← (hrep x hx).len, hxl x hx]) hmem (by rw [hall]; exact hlc) hcm (TagOk.none_ _ _ _ _)
            rw [hall] at this
            exact this
        · rw [List.getElem?_map, Option.map_eq_some_iff] at hx hd
          obtain ⟨x', hx', rfl⟩ := hx
          obtain ⟨d', hd', rfl⟩ := hd
          exact (l2 i x' hx').2.2 d' hd'
    · cases hs
  | n, .agg u s => by
    intro t cs y hs hl h
    have hs : (t == u && decide (¬ rowT ≤ t) && (match P.underlying t with
      | some (.struct fs) => (shOk P s).2 0 (fs.toList.map fun f => (f.offset, f.type)) && (fs.toList.map fun f => P.cellsOf f.type).sum == P.cellsOf t
      | _ => false)) = true := hs
    rw [Bool.and_eq_true, Bool.and_eq_true] at hs
    obtain ⟨⟨htu, hrow⟩, hss⟩ := hs
    have hrow := of_decide_eq_true hrow
    have htu := beq_iff_eq.1 htu
    subst htu
    clear hs
    have hs := hss
    clear hss
    split at hs
    · rename_i fs ht
      simp only [Bool.and_eq_true, beq_iff_eq] at hs
      obtain ⟨xs, m, hnm, rfl, hcl, hxl, hf⟩ := DataW.trod_struct ht h
      obtain ⟨x, e1, e2, e3⟩ := a2_of (fun s => read_all m s) s 0 (fs.toList.map fun f => (f.offset, f.type)) cs xs hs.1 (by
        rw [List.map_map]
        show 0 + (fs.toList.map fun f => P.cellsOf f.type).sum = _
        rw [hs.2, hcl, Nat.zero_add]) (all2_of (by simp; omega) fun i f y hfi hy => by
          rw [List.getElem?_map, Option.map_eq_some_iff] at hfi
          obtain ⟨f', hf', rfl⟩ := hfi
          have := hf i f' (by simpa using hf')
          rw [hy] at this
          exact this)
      refine ⟨x, ?_, xs.map (·.1), rfl, e3⟩
      rw [List.drop_zero] at e1
      rw [List.map_map] at e2
      refine RepC.agg noOw ?_ ?_ e1 hrow
      · unfold sizes
        rw [ht]
        show some (fs.toList.map fun f => P.cellsOf f.type) = some _
        rw [e2]
        rfl
      · rw [e2]
        exact hs.2
    · cases hs
  | n, .arr u s => by
    intro t cs y hs hl h
    have hs : (t == u && decide (¬ rowT ≤ t) && (match P.underlying t with
      | some (.array n e) => single s && (shOk P s).1 e && n * P.cellsOf e == P.cellsOf t
      | _ => false)) = true := hs
    rw [Bool.and_eq_true, Bool.and_eq_true] at hs
    obtain ⟨⟨htu, hrow⟩, hss⟩ := hs
    have hrow := of_decide_eq_true hrow
    have htu := beq_iff_eq.1 htu
    subst htu
    clear hs
    have hs := hss
    clear hss
    split at hs
    · rename_i k e ht
      simp only [Bool.and_eq_true, beq_iff_eq] at hs
      obtain ⟨⟨hsg, hs1⟩, hsz⟩ := hs
      obtain ⟨xs, m, hnm, rfl, hcl, hxl, hf⟩ := DataW.trod_array ht h
      have hchunk : ∀ i, i < k → ((cs.drop (i * P.cellsOf e)).take (P.cellsOf e)).length = P.cellsOf e := by
        intro i hi
        rw [List.length_take, List.length_drop, hcl, ← hsz]
        have : (i + 1) * P.cellsOf e ≤ k * P.cellsOf e := Nat.mul_le_mul_right _ hi
        rw [Nat.add_mul, Nat.one_mul] at this
        omega
      have hex : ∀ i, i < k → ∃ x : den s, RepC P (SAll w) w noOw (toV s x) ((cs.drop (i * P.cellsOf e)).take (P.cellsOf e)) ∧ ∀ d, xs[i]? = some d → RdL P s x [d.1] := by
        intro i hi
        have h1 := hf i hi
        have hel' : xs[i]? = some (xs[i]'(by omega)) := List.getElem?_eq_getElem _
        rw [hel'] at h1
        obtain ⟨x, e1, e2⟩ := read_all m s e _ _ hs1 (hchunk i hi) h1
        refine ⟨x, e1, fun d hd => ?_⟩
        rw [hel'] at hd
        cases hd
        exact e2
      obtain ⟨l, l1, l2⟩ := choose_list k hex
      refine ⟨l, ?_, xs.map (·.1), rfl, all2_of (by simp; omega) fun i x d hx hd => ?_, fun n e h => by rw [ht] at h; cases h; exact l1⟩
      · have hwid : (l.map (toV s)).map (width P) = List.replicate k (P.cellsOf e) := by
          rw [List.eq_replicate_iff]
          refine ⟨by simp [l1], fun v hv => ?_⟩
          simp only [List.mem_map] at hv
          obtain ⟨z, ⟨x, hx, rfl⟩, rfl⟩ := hv
          obtain ⟨i, hi⟩ := List.getElem?_of_mem hx
          have hik : i < k := by
            have := (List.getElem?_eq_some_iff.1 hi).1
            omega
          rw [← ((l2 i x hi).1).len, hchunk i hik]
        refine RepC.agg noOw ?_ ?_ (reps_of (c := P.cellsOf e) (by simp [l1, hcl, hsz]) fun i v hv => ?_) hrow
        · unfold sizes
          rw [ht]
          show some (List.replicate k (P.cellsOf e)) = _
          exact congrArg some hwid.symm
        · show ((l.map (toV s)).map (width P)).sum = _
          rw [hwid]
          simp [hsz]
        · have hv : (l.map (toV s))[i]? = some v := hv
          rw [List.getElem?_map, Option.map_eq_some_iff] at hv
          obtain ⟨x, hx, rfl⟩ := hv
          exact (l2 i x hx).1
      · rw [List.getElem?_map, Option.map_eq_some_iff] at hd
        obtain ⟨d', hd', rfl⟩ := hd
        exact (l2 i x hx).2 d' hd'
    · cases hs
  | _, .pair _ _ => fun _ _ _ hs => by cases hs
  | _, .unit => fun _ _ _ hs => by cases hs
  | _, .opt _ _ => fun _ _ _ hs => by cases hs
  | _, .tup _ => fun _ _ _ hs => by cases hs
  | _, .rp _ => fun _ _ _ hs => by cases hs
  | _, .fn _ _ => fun _ _ _ hs => by cases hs
termination_by n => n
decreasing_by all_goals omega
end
end Go.Nu
/-
  D, text 13: all arguments read as data are values of shapes; a law's contract out of its plain function.
-/
namespace Go.Nu
open Go Go.RowKit Go.ChangeShapes Go.WideShapes

/-- The shapes of a law's parameters. -/
def wide : Sh → Bool
  | .agg _ _ | .arr _ _ => true
  | _ => false
def argOk (P : Program) (s : Sh) (t : TypeId) : Bool :=
  single s && (shOk P s).1 t && (wide s || decide (P.cellsOf t = 1)) && P.readableRec t && decide (t < P.types.size)
def argsOk (P : Program) : List Sh → List TypeId → Bool
  | [], [] => true
  | s :: as, t :: ts => argOk P s t && argsOk P as ts
  | _, _ => false
/-- What the readings tell of the values. -/
def RdLs (P : Program) {H : Type} : (as : List Sh) → dens as → List (DataW H) → Prop
  | [], _, ds => ds = []
  | [a], x, ds => RdL P a x ds
  | a :: b :: l, x, ds => ∃ d ds', ds = d :: ds' ∧ RdL P a x.1 [d] ∧ RdLs P (b :: l) x.2 ds'

section
variable {P : Program} {W : World} {H : Type} {enc : TypeId × Value → H} {base : Nat} {spare : Nat → Bool} {held : Bool}

theorem cells_one {v : Value} (h : ∀ cs, v ≠ .agg cs) : v.cells.toList = [v] := by
  cases v <;> first | rfl | exact absurd rfl (h _)

theorem okW_noagg {t : TypeId} {v : Value} {r : Reach} {b0 : Nat} (h : Value.okWide P W r b0 t v) (ht : ∀ u, P.underlying t = some u → (∀ fs, u ≠ .struct fs) ∧ ∀ n e, u ≠ .array n e) : ∀ cs, v ≠ .agg cs := by
  rintro cs rfl
  unfold Value.okWide at h
  split at h
  · rename_i fs hu
    exact (ht _ hu).1 _ rfl
  · rename_i n e hu
    exact (ht _ hu).2 _ _ rfl
  · unfold Cell.okWide at h
    split at h <;> first | (unfold Cell.ok at h; split at h <;> first | contradiction | exact h) | contradiction

theorem rep1_flat {S : Nat → Nat → Prop} {v : V} {c : Value} (hv : ∀ t fs, v ≠ .agg t fs) (h : RepC P S W noOw v [c]) : Rep1 P S W noOw v c := by
  cases v <;> first | exact h | exact absurd rfl (hv _ _)

theorem arg_flat {s : Sh} {t : TypeId} {v : Value} {d : DataW H} {ps : List MemPlace} {r : Reach} {b0 : Nat} (h1 : (shOk P s).1 t = true) (h2 : P.cellsOf t = 1) (hv : Value.okWide P W r b0 t v) (h : DataW.Trod enc P W base spare held t v d ps)
    (hu : ∀ u, P.underlying t = some u → (∀ fs, u ≠ .struct fs) ∧ ∀ n e, u ≠ .array n e) (hn : ∀ (x : den s) t fs, toV s x ≠ .agg t fs) : ∃ x : den s, Rep1 P (SAll W) W noOw (toV s x) v ∧ RdL P s x [d] := by
  obtain ⟨n, h⟩ := h
  rw [cells_one (okW_noagg hv hu)] at h
  obtain ⟨x, e1, e2⟩ := read_all n s t _ _ h1 (by simp [h2]) h
  exact ⟨x, rep1_flat (hn x) e1, e2⟩

theorem arg_agg {s : Sh} {t : TypeId} {v : Value} {d : DataW H} {ps : List MemPlace} {r : Reach} {b0 : Nat} (h1 : (shOk P s).1 t = true) (hv : Value.okWide P W r b0 t v) (h : DataW.Trod enc P W base spare held t v d ps)
    (hu : (∃ fs, P.underlying t = some (.struct fs)) ∨ ∃ n e, P.underlying t = some (.array n e)) (hn : ∀ x : den s, ∃ t fs, toV s x = .agg t fs) : ∃ x : den s, Rep1 P (SAll W) W noOw (toV s x) v ∧ RdL P s x [d] := by
  obtain ⟨n, h⟩ := h
  have hc : ∃ cs, v = .agg cs ∧ cs.size = P.cellsOf t := by
    unfold Value.okWide at hv
    rcases hu with ⟨fs, hu⟩ | ⟨m, e, hu⟩
    · rw [hu] at hv
      obtain ⟨cs, e1, e2, _⟩ := hv
      exact ⟨cs, e1, e2⟩
    · rw [hu] at hv
      obtain ⟨cs, e1, e2, _⟩ := hv
      exact ⟨cs, e1, e2⟩
  obtain ⟨cs, rfl, hc⟩ := hc
  obtain ⟨x, e1, e2⟩ := read_all n s t _ _ h1 (by simpa [Value.cells] using hc) h
  refine ⟨x, ?_, e2⟩
  obtain ⟨u, fs, hx⟩ := hn x
  rw [hx] at e1 ⊢
  exact ⟨cs.toList, by simp, e1⟩

theorem arg_one {s : Sh} {t : TypeId} {v : Value} {d : DataW H} {ps : List MemPlace} {r : Reach} {b0 : Nat} (ho : argOk P s t = true) (hv : Value.okWide P W r b0 t v) (h : DataW.Trod enc P W base spare held t v d ps) :
    ∃ x : den s, Rep1 P (SAll W) W noOw (toV s x) v ∧ RdL P s x [d] := by
  unfold argOk at ho
  simp only [Bool.and_eq_true] at ho
  obtain ⟨⟨⟨⟨-, h1⟩, h2⟩, -⟩, -⟩ := ho
  cases s with
  | bool =>
    have h2 : P.cellsOf t = 1 := by simpa only [wide, Bool.false_or, decide_eq_true_eq] using h2
    refine arg_flat (s := .bool) h1 h2 hv h (fun u hu => ?_) (fun x t fs e => ?_)
    · have hs : (match P.underlying t with | some .bool => true | _ => false) = true := h1
      rw [hu] at hs
      exact ⟨fun fs e => (by subst e; cases hs), fun n e' e => (by subst e; cases hs)⟩
    · cases e
  | int k =>
    have h2 : P.cellsOf t = 1 := by simpa only [wide, Bool.false_or, decide_eq_true_eq] using h2
    refine arg_flat (s := .int k) h1 h2 hv h (fun u hu => ?_) (fun x t fs e => ?_)
    · have hs : (match P.underlying t with | some (.int k') => decide (k' = k) | _ => false) = true := h1
      rw [hu] at hs
      exact ⟨fun fs e => (by subst e; cases hs), fun n e' e => (by subst e; cases hs)⟩
    · cases e
  | byte =>
    have h2 : P.cellsOf t = 1 := by simpa only [wide, Bool.false_or, decide_eq_true_eq] using h2
    refine arg_flat (s := .byte) h1 h2 hv h (fun u hu => ?_) (fun x t fs e => ?_)
    · have hs : (match P.underlying t with | some (.int .u8) => true | _ => false) = true := h1
      rw [hu] at hs
      exact ⟨fun fs e => (by subst e; cases hs), fun n e' e => (by subst e; cases hs)⟩
    · cases e
  | str =>
    have h2 : P.cellsOf t = 1 := by simpa only [wide, Bool.false_or, decide_eq_true_eq] using h2
    refine arg_flat (s := .str) h1 h2 hv h (fun u hu => ?_) (fun x t fs e => ?_)
    · have hs : (match P.underlying t with | some .string => true | _ => false) = true := h1
      rw [hu] at hs
      exact ⟨fun fs e => (by subst e; cases hs), fun n e' e => (by subst e; cases hs)⟩
    · cases e
  | sl e s =>
    have h2 : P.cellsOf t = 1 := by simpa only [wide, Bool.false_or, decide_eq_true_eq] using h2
    refine arg_flat (s := .sl e s) h1 h2 hv h (fun u hu => ?_) (fun x t fs e => ?_)
    · have hs : (match P.underlying t with | some (.slice e') => e' == e && single s && (shOk P s).1 e && decide (0 < P.cellsOf e) | _ => false) = true := h1
      rw [hu] at hs
      exact ⟨fun fs e => (by subst e; cases hs), fun n e' e => (by subst e; cases hs)⟩
    · cases e
  | agg u s =>
    refine arg_agg (s := .agg u s) h1 hv h ?_ (fun x => ⟨_, _, rfl⟩)
    have hs : (t == u && decide (¬ rowT ≤ t) && (match P.underlying t with
      | some (.struct fs) => (shOk P s).2 0 (fs.toList.map fun f => (f.offset, f.type)) && (fs.toList.map fun f => P.cellsOf f.type).sum == P.cellsOf t
      | _ => false)) = true := h1
    rw [Bool.and_eq_true] at hs
    have h3 := hs.2
    split at h3
    · rename_i fs hu
      exact .inl ⟨fs, hu⟩
    · cases h3
  | arr u s =>
    refine arg_agg (s := .arr u s) h1 hv h ?_ (fun x => ⟨_, _, rfl⟩)
    have hs : (t == u && decide (¬ rowT ≤ t) && (match P.underlying t with
      | some (.array n e) => single s && (shOk P s).1 e && n * P.cellsOf e == P.cellsOf t
      | _ => false)) = true := h1
    rw [Bool.and_eq_true] at hs
    have h3 := hs.2
    split at h3
    · rename_i n e hu
      exact .inr ⟨n, e, hu⟩
    · cases h3
  | unit => cases h1
  | pair a b => cases h1
  | opt a b => cases h1
  | tup a => cases h1
  | rp a => cases h1
  | fn a b => cases h1

theorem args_all : ∀ {as : List Sh} {ts : List TypeId} {vs : List Value} {ds : List (DataW H)} {ps : List MemPlace}, argsOk P as ts = true → (∀ (j : Nat) t v, ts[j]? = some t → vs[j]? = some v → Value.okWide P W .any base t v) →
    DataW.TrodAll enc P W 0 spare held ts vs ds ps → ∃ x : dens as, All2 (Rep1 P (SAll W) W noOw) (valsL as x) vs ∧ RdLs P as x ds
  | [], [], vs, ds, ps, _, _, h => by
    obtain ⟨rfl, rfl, rfl⟩ := trodAll_nil h
    exact ⟨(), trivial, rfl⟩
  | [a], [t], vs, ds, ps, ho, hv, h => by
    obtain ⟨v, vs', d, ds', p, q, rfl, rfl, rfl, h1, h2⟩ := trodAll_cons h
    obtain ⟨rfl, rfl, rfl⟩ := trodAll_nil h2
    simp only [argsOk, Bool.and_true] at ho
    obtain ⟨x, e1, e2⟩ := arg_one ho (hv 0 t v rfl rfl) h1
    exact ⟨x, ⟨e1, trivial⟩, e2⟩
  | a :: b :: l, t :: ts, vs, ds, ps, ho, hv, h => by
    obtain ⟨v, vs', d, ds', p, q, rfl, rfl, rfl, h1, h2⟩ := trodAll_cons h
    rw [argsOk, Bool.and_eq_true] at ho
    obtain ⟨x, e1, e2⟩ := arg_one ho.1 (hv 0 t v rfl rfl) h1
    obtain ⟨z, f1, f2⟩ := args_all ho.2 (fun j t v ht hw => hv (j + 1) t v (by simpa using ht) (by simpa using hw)) h2
    exact ⟨(x, z), ⟨e1, f1⟩, d, ds', rfl, e2, f2⟩
  | [], _ :: _, _, _, _, ho, _, _ => by cases ho
  | _ :: _, [], _, _, _, ho, _, _ => by cases ho
  | [_], _ :: _ :: _, _, _, _, ho, _, _ => by simp [argsOk] at ho

theorem trodAll_below {W' : World} (hl : laidOutB P = true) {sp : Nat → Bool} (hb : Below W.heap.size W W') : ∀ {as : List Sh} {ts : List TypeId} {vs : List Value} {ds : List (DataW H)} {ps : List MemPlace}, argsOk P as ts = true → (∀ p ∈ ps, p.block < W.heap.size) → (∀ p ∈ ps, sp p.block = true) →
    DataW.TrodAll enc P W 0 (fun _ => true) true ts vs ds ps → DataW.TrodAll enc P W' 0 sp true ts vs ds ps
  | _, [], vs, ds, ps, _, _, _, h => by
    obtain ⟨rfl, rfl, rfl⟩ := trodAll_nil h
    exact trodAll_mk0
  | a :: as, t :: ts, vs, ds, ps, ho, hlt, hsp, h => by
    obtain ⟨v, vs', d, ds', p, q, rfl, rfl, rfl, h1, h2⟩ := trodAll_cons h
    rw [argsOk, Bool.and_eq_true] at ho
    have ho1 := ho.1
    unfold argOk at ho1
    simp only [Bool.and_eq_true] at ho1
    exact ⟨p, q, WideElems.Trod_stays hl ho1.1.2 (of_decide_eq_true ho1.2) h1 (fun x hx => hb.same (hlt x (by simp [hx]))) (fun x hx => hsp x (by simp [hx])), trodAll_below hl hb ho.2 (fun x hx => hlt x (by simp [hx])) (fun x hx => hsp x (by simp [hx])) h2, rfl⟩
  | [], _ :: _, _, _, _, ho, _, _, _ => by cases ho

/-- A LAW: 'for every input true; the arguments read behind the call as before'. -/
theorem law_contract {G : World → Prop} {f : FuncId} {fn : Func} {as : List Sh} {F : dens as → Option Bool} {tb : TypeId} {s : ChangeSpec} {apart fresh handsOn again : Bool} {args : Array Value} {ds gs : List (DataW H)} {before : List MemPlace}
    (hok : TEnt.Ok P G ⟨f, as, .bool, F, .plain⟩) (hargs : argsOk P as fn.params.toList = true) (hres : fn.resultTypes = #[tb]) (htb : P.underlying tb = some .bool) (hl : laidOutB P = true) (hvars : s.vars = [])
    (hspec : ∀ ds : List (DataW H), ds.length = as.length → s.fn H ds = { results := [.lit (.bool true)], args := ds })
    (hF : ∀ x : dens as, RdLs P as x ds → F x = some true)
    (hval : ∀ (j : Nat) t v, fn.params[j]? = some t → args[j]? = some v → Value.okWide P W .any base t v)
    (hW : DataW.Whole enc P fn.params.toList s.vars apart W args.toList ds gs before) (hG : G W) :
    Calls P f args W fun e W' => ∃ v, e = .returned v ∧ s.post enc P fn apart fresh handsOn again W args v W' := by
  have hW' := hW
  obtain ⟨p, q, hA, hV, rfl, hfz, hnd⟩ := hW
  rw [hvars] at hV
  obtain ⟨rfl, rfl⟩ := trodVars_none hV
  obtain ⟨x, hx, hr⟩ := args_all hargs (fun j t v ht hv => hval j t v (by simpa using ht) (by simpa using hv)) hA
  have hlen : ds.length = as.length := by
    have key : ∀ {as : List Sh} {ts : List TypeId} {vs : List Value} {ds : List (DataW H)} {p : List MemPlace}, argsOk P as ts = true → DataW.TrodAll enc P W 0 (fun _ => true) true ts vs ds p → ds.length = as.length := by
      intro as
      induction as with
      | nil =>
        intro ts vs ds p ha hA
        cases ts with
        | nil => obtain ⟨_, rfl, _⟩ := trodAll_nil hA; rfl
        | cons => cases ha
      | cons a as ih =>
        intro ts vs ds p ha hA
        cases ts with
        | nil => cases ha
        | cons t ts =>
          obtain ⟨v, vs', d, ds', p, q, rfl, rfl, rfl, h1, h2⟩ := trodAll_cons hA
          rw [argsOk, Bool.and_eq_true] at ha
          simp [ih ha.2 h2]
    exact key hargs hA
  have hs := hok.sim rfl x true (hF x hr) W (SAll W) args.toList hG (fun b o h => h) hx
  have hsp := hspec ds hlen
  refine (show Calls P f args W _ from hs).mono fun e W' ⟨c, he, hb, S', _, _, hc⟩ => ?_
  subst he
  have hc' : c = .bool true := by
    have : RepC P S' W' noOw (.bool true) [c] := hc
    cases this
    rfl
  subst hc'
  have hlt : ∀ x ∈ p, x.block < W.heap.size := fun x hx => by simpa using hW'.lt x (by simpa using hx)
  have hA' : ∀ sp : Nat → Bool, (∀ x ∈ p, sp x.block = true) → DataW.TrodAll enc P W' 0 sp true fn.params.toList args.toList ds p := fun sp h => trodAll_below hl hb hargs hlt h hA
  have hR : ∀ (b : Nat) (sp : Nat → Bool) (hd : Bool), DataW.TrodAll enc P W' b sp hd fn.resultTypes.toList ((Value.bool true).resultList fn.resultTypes.size) [.lit (.bool true)] [] := fun b sp hd => by
    rw [hres]
    exact trodAll_cons_mk (shut_bool htb _) trodAll_mk0
  have hsp : s.fn H (ds ++ []) = { results := [.lit (.bool true)], args := ds } := by rw [List.append_nil, hsp]
  have hfr : ∀ b off, MemPlace.cell b off ∈ p → W'.frozen? ⟨b, off, none⟩ = false := fun b off hp => by
    rw [hb.frozen (hlt _ hp)]
    exact hfz b off (by simpa using hp)
  refine ⟨_, rfl, ds, [], p ++ [], [], p, [], hW', ?_, ?_, ?_, hb.frame _, fun _ => ⟨ok_one hres rfl (okWide_bool_mk htb _), ?_⟩⟩
  · rw [hsp]; exact hR _ _ _
  · rw [hsp]; exact hA' _ fun x hx => by simpa using hlt x hx
  · rw [hsp, hvars]; rfl
  · refine ⟨_, [], ([] ++ p) ++ [], ⟨[] ++ p, [], trodAll_append (hA' _ fun _ _ => rfl) (hR _ _ _), (by rw [hvars]; rfl), rfl, ?_, ?_⟩, ?_⟩
    · intro b off hp
      exact hfr b off (by simpa using hp)
    · intro ha
      simpa using hnd ha
    · intro x hx _
      simpa using hx
end
end Go.Nu
/-
  D, text 14: a world for the witness of a law whose row lists variables: each holds what is listed.
-/
namespace Go.Nu
open Go Go.RowKit

/-- The cells of a listed variable that holds plain data. -/
def flatD (n : Nat) (d : DataW Unit) : List Value :=
  match n with
  | 0 => []
  | n + 1 => match d with
    | .lit (.bool b) => [.bool b]
    | .lit (.int k x) => [.int k x]
    | .lit (.string s) => [.string ⟨s.toArray⟩]
    | .nil => [.slice none 0 0]
    | .agg ds => ds.flatMap (flatD n)
    | _ => []
def setVar (w : World) (g : Nat) (cs : Array Value) : World := { w with heap := w.heap.modify g fun
  | .cells _ t fr => .cells cs t fr
  | o => o }
def layVars (P : Program) (w : World) : List (String × DataW Unit) → World
  | [] => w
  | (n, d) :: l => layVars P (match P.globalNamed n with | some g => setVar w g (flatD 8 d).toArray | none => w) l
noncomputable def laidW (P : Program) (os : Os) (l : List (String × DataW Unit)) : World := layVars P (World.holding P os ⟨#[], #[], []⟩) l
theorem setVar_os (w : World) (g : Nat) (cs : Array Value) : (setVar w g cs).os = w.os := rfl
theorem layVars_os (P : Program) : ∀ (l : List (String × DataW Unit)) (w : World), (layVars P w l).os = w.os
  | [], _ => rfl
  | (n, d) :: l, w => by
    unfold layVars
    rw [layVars_os P l]
    cases P.globalNamed n with
    | none => rfl
    | some g => rfl
end Go.Nu
/-
  D, text 15: contracts of library functions: with slices of strings, with errors.
-/
namespace Go.Nu
open Go Go.RowKit

section
variable {P : Program} {S S' : Nat → Nat → Prop} {w w' : World} {ow : Ow} {G : World → Prop}

theorem below_drewN {B : Nat} {a w : World} (h : Below B a w) (n : Nat) : Below B a (w.drewN n) := h.trans ⟨rfl, rfl, rfl, Nat.le_refl _, fun _ _ => rfl⟩
theorem below_grow {B : Nat} {a w : World} (h : Below B a w) (hB : B ≤ w.heap.size) (os : Array Obj) : Below B a (Sort.grow w os) :=
  h.trans ⟨rfl, rfl, rfl, by simp [Sort.grow], fun k hk => by
    show (w.heap ++ os)[k]? = _
    rw [Array.getElem?_append_left (by omega)]⟩

theorem keeps_cell {b o : Nat} {p : Value → Prop} : Keeps fun w => ∃ v, w.cell? ⟨b, o, none⟩ = some v ∧ p v := by
  intro w w' ⟨v, h1, h2⟩ hb
  have hlt : b < w.heap.size := by
    rcases Nat.lt_or_ge b w.heap.size with h | h
    · exact h
    · exfalso
      unfold World.cell? at h1
      simp [Array.getElem?_eq_none h] at h1
  exact ⟨v, (hb.cell (p := ⟨b, o, none⟩) hlt).trans h1, h2⟩
theorem keeps_var {name : String} {cs : Array Value} : Keeps fun w => w.var? P name = some cs := by
  intro w w' h hb
  unfold World.var? at h ⊢
  cases hg : P.globalNamed name with
  | none => rw [hg] at h; cases h
  | some g =>
    rw [hg] at h
    simp only [Option.bind_some] at h ⊢
    have hlt : g < w.heap.size := by
      rcases Nat.lt_or_ge g w.heap.size with h1 | h1
      · exact h1
      · rw [Array.getElem?_eq_none h1] at h; cases h
    rw [hb.block g hlt]
    exact h
theorem keeps_and {G1 G2 : World → Prop} (h1 : Keeps G1) (h2 : Keeps G2) : Keeps fun w => G1 w ∧ G2 w := fun w w' h hb => ⟨h1 w w' h.1 hb, h2 w w' h.2 hb⟩

def strV (l : List UInt8) : Value := .string ⟨l.toArray⟩
theorem repCs_strs : ∀ l : List (List UInt8), RepCs P S w ow (l.map V.str) (l.map strV)
  | [] => .nil _
  | s :: l => by
    have := RepCs.cons ow (RepC.str (P := P) (S := S) (w := w) ow s) (repCs_strs l)
    simpa [strV] using this
theorem strs_cs : ∀ {l : List (List UInt8)} {cs : List Value}, RepCs P S w ow (l.map V.str) cs → cs = l.map strV
  | [], cs, h => by cases h; rfl
  | s :: l, cs, h => by
    generalize hx : (s :: l).map V.str = xs at h
    cases h with
    | nil => cases hx
    | cons _ h1 h2 =>
      simp only [List.map_cons, List.cons.injEq] at hx
      obtain ⟨e1, e2⟩ := hx
      subst e1
      subst e2
      cases h1
      rw [strs_cs h2]
      rfl

/-- A function of flat values that returns a new slice of strings. -/
theorem sim_strs {f : FuncId} {args : List V} {cargs : List Value} {e : TypeId} {l : List (List UInt8)} (he : P.cellsOf e = 1) (hl : l.length ≤ maxLen) (ha : flatCs args = some cargs)
    (h : ∀ w, G w → Calls P f cargs.toArray w fun en w' => en = .returned (.slice (some ⟨w.heap.size, 0, none⟩) l.length l.length) ∧ ∃ T, w' = w.alloc (.cells (l.map strV).toArray T (0, 0))) : SimCalls P G f args (.sl none e (l.map .str)) := by
  intro w S cargs' hg hS har
  rw [flats_rep ha har]
  refine (h w hg).mono ?_
  rintro en w' ⟨rfl, T, rfl⟩
  have hh : (w.alloc (.cells (l.map strV).toArray T (0, 0))).heap[w.heap.size]? = some (.cells (l.map strV).toArray T (0, 0)) := by
    show (w.heap.push _)[w.heap.size]? = _
    rw [Array.getElem?_push_size]
  have hsz : (w.alloc (.cells (l.map strV).toArray T (0, 0))).heap.size = w.heap.size + 1 := by simp
  refine ⟨_, rfl, (Below.refl _ w).alloc (Nat.le_refl _) _, fun b o => S b o ∨ (b = w.heap.size ∧ o < (l.map strV).toArray.size), fun b o hs => ?_, fun b o hb => ?_, ?_⟩
  · rw [hsz]
    rcases hs with hs | ⟨rfl, _⟩
    · have := hS b o hs; omega
    · omega
  · constructor
    · rintro (hs | ⟨rfl, _⟩)
      · exact hs
      · omega
    · exact .inl
  · refine Rep1.toS ?_
    show RepC _ _ _ _ (.sl none e (l.map .str)) [_]
    have hm := mem_row (S := S) (pre := []) (c := l.map strV) (post := []) hh (by simp)
    have := RepC.sl (P := P) (S := fun b o => S b o ∨ (b = w.heap.size ∧ o < (l.map strV).toArray.size)) (w := w.alloc (.cells (l.map strV).toArray T (0, 0))) noOw (tag := none) (e := e) (es := l.map V.str) (cs := l.map strV) (b := w.heap.size) (o := 0) (cap := l.length)
      (repCs_strs l) (fun x hx => by obtain ⟨s, _, rfl⟩ := List.mem_map.1 hx; rw [he]; rfl) hm (by simp) hl (TagOk.none_ _ _ _ _)
    simpa using this

/-- A function of a slice of strings and a string. -/
theorem sim_join {f : FuncId} {e : TypeId} {l : List (List UInt8)} {s : List UInt8} {res : V} {c : Value} (hc : flatC res = some c)
    (h0 : l = [] → ∀ w a cap, G w → Calls P f #[.slice a 0 cap, strV s] w fun en w' => en = .returned c ∧ Below w.heap.size w w')
    (h1 : ∀ w b o cap, G w → (∀ (j : Nat) x, l[j]? = some x → w.cell? ⟨b, o + j, none⟩ = some (strV x)) → (l ≠ [] → b < w.heap.size) → l.length ≤ cap → Calls P f #[.slice (some ⟨b, o, none⟩) l.length cap, strV s] w fun en w' => en = .returned c ∧ Below w.heap.size w w') :
    SimCalls P G f [.sl none e (l.map .str), .str s] res := by
  intro w S cargs hg hS har
  rcases cargs with _ | ⟨c1, _ | ⟨c2, _ | ⟨c3, cargs⟩⟩⟩
  · exact har.elim
  · exact har.2.elim
  · obtain ⟨r1, r2, _⟩ := har
    have e2 : c2 = strV s := flat_rep (v := .str s) rfl r2
    subst e2
    have key : Calls P f #[c1, strV s] w fun en w' => en = .returned c ∧ Below w.heap.size w w' := by
      replace r1 : RepC P S w noOw (.sl none e (l.map .str)) [c1] := r1
      generalize hq : [c1] = q at r1
      generalize hes : l.map V.str = es at r1
      cases r1 with
      | nilsl _ _ => cases hq; exact h0 (by simpa using hes) w none 0 hg
      | emp _ => cases hq; exact h0 (by simpa using hes) w _ _ hg
      | sl _ q1 q2 q3 q4 q5 q6 =>
        cases hq
        subst hes
        rename_i cs b o cap
        obtain rfl := strs_cs q1
        have e1 : (l.map V.str).length = l.length := by simp
        rw [e1]
        refine h1 w b o cap hg (fun j x hx => (q3 j (strV x) (by simp [hx])).2) (fun hne => ?_) (by simpa using q4)
        cases l with
        | nil => exact (hne rfl).elim
        | cons x l => exact hS b _ (q3 0 (strV x) rfl).1
    refine key.mono ?_
    rintro en w' ⟨rfl, hb⟩
    exact ⟨c, rfl, hb, S, fun b o hs => Nat.lt_of_lt_of_le (hS b o hs) hb.size, fun b o _ => Iff.rfl, (rep_flat hc).toS⟩
  · exact har.2.2.elim

/-- A function of flat values that returns a number and an error. -/
theorem sim_err {f : FuncId} {args : List V} {cargs : List Value} {k : IntKind} {n : Int} {t : TypeId} {s : List UInt8} (ha : flatCs args = some cargs)
    (h : ∀ w, G w → Calls P f cargs.toArray w fun en w' => ∃ N cs T, en = .returned (.tuple #[.int k n, .iface t (.pointer (some ⟨N, 0, none⟩))]) ∧ w.heap.size ≤ N ∧ w'.heap[N]? = some (.cells cs T (0, 0)) ∧ cs[0]? = some (strV s) ∧ Below w.heap.size w w') :
    SimCalls P G f args (.tup [.int k n, .iface t (.rp (.str s))]) := by
  intro w S cargs' hg hS har
  rw [flats_rep ha har]
  refine (h w hg).mono ?_
  rintro en w' ⟨N, cs, T, rfl, hN, hh, hc, hb⟩
  have hlt : N < w'.heap.size := heap_lt hh
  refine ⟨_, rfl, hb, fun b o => S b o ∨ (b = N ∧ o = 0), fun b o hs => ?_, fun b o hlt2 => ?_, ?_⟩
  · rcases hs with hs | ⟨rfl, _⟩
    · exact Nat.lt_of_lt_of_le (hS b o hs) hb.size
    · exact hlt
  · constructor
    · rintro (hs | ⟨rfl, _⟩)
      · exact hs
      · omega
    · exact .inl
  · refine ⟨[.int k n, .iface t (.pointer (some ⟨N, 0, none⟩))], rfl, ?_, ?_, trivial⟩
    · exact RepC.int _ _ _
    · refine RepC.iface1 _ rfl (RepC.rp _ (RepC.str _ s) ?_)
      intro j u hu
      cases j with
      | zero =>
        cases hu
        refine ⟨.inr ⟨rfl, rfl⟩, ?_⟩
        rw [cell_of_row w' N _ cs T (0, 0) hh]
        exact hc
      | succ j => simp at hu
end
end Go.Nu
/-
  D, text 18: a function that defers one closure, which leaves things as they are when the function returns, and lays two variables (the function's results) when it panics. It speaks of no statement of its own; nothing here is trusted.
-/
namespace Go.Nu
open Go Go.RowKit

section
variable (TT : List TEnt) (SH : List (TypeId × Sh))
/-- A value of one cell. -/
def oneW : W → Bool
  | .sl _ _ _ _ => true
  | .v (.int _) _ => true
  | .v (.sl _ _) _ => true
  | .con (.sl _ _ _) => true
  | _ => false
/-- Two slots that lead to two variables of one cell. -/
def twoB (st : WSt) (t1 t2 : Nat) : Bool :=
  match lu st.s t1, lu st.s t2 with
  | some (.con (.rf b1 [])), some (.con (.rf b2 [])) => (!Nat.beq b1 b2 && (!Nat.beq b1 lentT && !Nat.beq b2 lentT)) && (match lu st.bx b1, lu st.bx b2 with
    | some w1, some w2 => oneW w1 && oneW w2
    | _, _ => false)
  | _, _ => false
/-- What a function gives whose code is d0, the deferral (slot x: the closure; it leads to the variables of the slots t1 and t2), d; pv: what it gives if d panics. -/
noncomputable def evFd (d0 d : DC) (x t1 t2 : Nat) (crs : List CR) (as : List Sh) (rs : Sh) (T : TypeId) (pv : Option (den rs)) (a : dens as) : Option (den rs) :=
  evD TT SH d0 (fun e st => match e with
    | .exit _ => none
    | .ret => none
    | .pan _ => none
    | .normal => match lu st.s x with
      | some _ => none
      | none => evD TT SH d (fun e st => match e with
        | .exit _ => none
        | .pan T' => match Nat.beq T' T && twoB st t1 t2 with
          | true => pv
          | false => none
        | .normal => (resW st crs rs).run some
        | .ret => (resW st crs rs).run some) st) ⟨argWs as a 0, [], [], []⟩
end

section
variable {P : Program} {G : World → Prop} {f : FuncId} {fn : Func} {d0 d : DC} {crs : List CR} {as : List Sh} {TT : List TEnt} {SH : List (TypeId × Sh)} {hint hint1 : List (Nat × Nat)}
theorem Sim.defer {n : Nat} {w0 w : World} {LX : Nat → Prop} {df df' : Df} {S0 S : Nat → Nat → Prop} {bm : Bm} {ow : Ow} {st : St} {a : Act} (h : Sim P n w0 LX df S0 S bm ow st a w) {x : Nat} (hx : st.s x = .junk) (v : Value)
    (hp : ∀ i u, df'.pin i = some u → i ≠ x ∧ a.tmps.getD i undef = u) : Sim P n w0 LX df' S0 S bm ow st { tmps := a.tmps.setIfInBounds x v, defers := df'.ds } w := by
  have hne : ∀ i, i ≠ x → (a.tmps.setIfInBounds x v).getD i undef = a.tmps.getD i undef := fun i hi => by
    simp only [Array.getD_eq_getD_getElem?, Array.getElem?_setIfInBounds, if_neg (Ne.symm hi)]
  refine ⟨by simp [h.size], rfl, fun i u hu => ?_, h.below, h.slt, h.sold, fun i => ?_, h.junk, h.box, h.boxNone, h.row, h.rowNone, h.bInj, h.rInj, h.brDis⟩
  · obtain ⟨h1, h2⟩ := hp i u hu
    exact (hne i h1).trans h2
  by_cases hi : i = x
  · subst hi; rw [hx]; trivial
  · have := h.slot i
    show RepS P S w ow bm st.bx (st.s i) ((a.tmps.setIfInBounds x v).getD i undef)
    rwa [hne i hi]

theorem oneW_ok {w : W} (h : oneW w = true) : w.toV.isAgg = false ∧ w.toV.isItc = false := by
  unfold oneW at h
  split at h
  · exact ⟨rfl, rfl⟩
  · exact ⟨rfl, rfl⟩
  · exact ⟨rfl, rfl⟩
  · exact ⟨rfl, rfl⟩
  · cases h

/-- The slot t leads to a variable of one cell. -/
theorem box_cell {n : Nat} {w0 w : World} {LX : Nat → Prop} {df : Df} {S0 S : Nat → Nat → Prop} {bm : Bm} {ow : Ow} {st : St} {a : Act} {t b : Nat} {v : V} (hs : Sim P n w0 LX df S0 S bm ow st a w) (h1 : st.s t = .rf b []) (h2 : st.bx b = some v)
    (h3 : v.isAgg = false) (h4 : v.isItc = false) (h5 : b ≠ lentT) : ∃ g cur T, bm b = some g ∧ w0.heap.size ≤ g ∧ a.tmps.getD t undef = .pointer (some ⟨g, 0, none⟩) ∧ w.heap[g]? = some (.cells cur T (0, 0)) ∧ 0 < cur.size := by
  have hslot := hs.slot t
  rw [h1] at hslot
  obtain ⟨g, ct', off, r1, r2, r3, r4⟩ := hslot
  obtain rfl : 0 = off := Option.some.inj (by rw [← r3]; cases ct' <;> rfl)
  obtain ⟨g', e0, e1, e2, e3⟩ := hs.box _ _ h2
  obtain rfl : g' = g := Option.some.inj (e0.symm.trans r1)
  obtain ⟨cur, T, cs, rest, y0, y1, y2⟩ := BoxAt.cells_of e2 h4
  obtain ⟨c, rfl, _⟩ := y2.toRep1 h3
  refine ⟨g', cur, T, r1, ?_, r4, y0, ?_⟩
  · unfold ownB at e1
    rwa [if_neg h5] at e1
  · have := congrArg List.length y1
    simp at this
    omega

theorem ent_okD (hG : Keeps G) (hm : P.follows .mixedOrders = true) {rs : Sh} {F : dens as → Option (den rs)} {c0 c : Code} {id : Nat} {ops : Array Oper} {x g t1 t2 : Nat} {T : TypeId} {pv : Option (den rs)}
    (hf : P.funcs[f]? = some fn) (hb : (!(fn.name == "runtime.NumGoroutine") && !fn.body.isNone) = true) (hbody : fn.body = some (.seq c0 (.seq (.region id ops false) c)))
    (hreg : ∀ (Q : Exit → Act → World → Prop) (a : Act) (w : World), a.tmps.size = fn.ntmps → a.defers = [] →
      Q .normal { tmps := a.tmps.setIfInBounds x (.func (.func g) #[] #[a.tmps.getD t1 undef, a.tmps.getD t2 undef]), defers := [{ target := .fn (.func g) #[a.tmps.getD t1 undef, a.tmps.getD t2 undef], args := #[] }] } w → (Code.region id ops false).wp P Q a w)
    (hcg : callable P g = true) (hidle : ∀ (w : World) (p q : Value), CallsD P g #[p, q] .returning w fun e u w' => e = .returned (.tuple #[]) ∧ u = .returning ∧ w' = w)
    (hcatch : ∀ v, pv = some v → ∀ (w : World) (g1 g2 : Nat) (tmps : Array Value) (cur1 cur2 : Array Value) (T1 T2 : TypeId), tmps.getD t1 undef = .pointer (some ⟨g1, 0, none⟩) → tmps.getD t2 undef = .pointer (some ⟨g2, 0, none⟩) → tmps.size = fn.ntmps →
      w.heap[g1]? = some (.cells cur1 T1 (0, 0)) → w.heap[g2]? = some (.cells cur2 T2 (0, 0)) → 0 < cur1.size → 0 < cur2.size → g1 ≠ g2 →
      CallsD P g #[.pointer (some ⟨g1, 0, none⟩), .pointer (some ⟨g2, 0, none⟩)] (.panicking (panC T)) w fun e u w' => e = .returned (.tuple #[]) ∧ settle u = .returning ∧ BelowX (fun k => k = g1 ∨ k = g2) w w' ∧
        ∃ c, (results fn tmps).run P w' = .ok c w' ∧ ∀ S, RepS P S w' noOw (fun _ => none) (fun _ => none) (toV rs v) c)
    (hk : fn.ntmps ≤ lentT) (hc0 : compileC P fn.ntmps hint c0 = some (erase d0)) (hc : compileC P fn.ntmps hint1 c = some (erase d)) (hp1 : (nzOf hint1).contains (pinT + t1) = true) (hp2 : (nzOf hint1).contains (pinT + t2) = true) (hx1 : t1 ≠ x) (hx2 : t2 ≠ x)
    (hr : compileR P fn.results.toList = some crs)
    (hsp0 : SplitsOk d0) (hsp : SplitsOk d) (hn : as.length ≤ fn.ntmps) (hw : wfA as = true) (hT : AllT (TEnt.Ok P G) TT)
    (hF : ∀ a, F a = evFd TT SH d0 d x t1 t2 crs as rs T pv a) : TEnt.Ok P G ⟨f, as, rs, F, .plain⟩ := by
  refine .plain hw (callable_of hf hb) fun a y hy => ?_
  rw [hF] at hy
  have h0 := evD_ok (hT.imp fun t h => h.wf) d0 hsp0 _ _ hy
  rw [toSt_args] at h0
  intro w S cargs hg hS ha
  have hs : Sim P fn.ntmps w (fun _ => False) Df.nil S S (fun _ => none) noOw (start (valsL as a)) _ w := start_sim hk (by rw [dens_len]; exact hn) hS (all2_toS ha) (fun d v hv => by cases hv) (fun _ _ => rfl) (fun d d' g h1 _ => by cases h1)
  have hE : ExtOk P w (fun _ => False) (extT TT) := ⟨G, fun w' hw' => hG w w' hg (hw'.bare fun _ h => h), extT_good hT⟩
  refine calls_of_wp_defers hf hbody (wp_seq (wp_mono (simQ (PinOk.nil _) hE hm c0 _ _ _ _ _ hc0 h0 ⟨S, _, _, hs⟩) fun e a1 w1 hq => ?_))
  cases e with
  | goto l => exact hq.elim
  | outgrown => exact hq.elim
  | panic c => obtain ⟨T, st1, st2, _, ⟨_, _, q, _⟩, _⟩ := hq; cases q
  | exit i => obtain ⟨st1, ⟨st', _, q2, _⟩, _⟩ := hq; cases q2
  | ret => obtain ⟨st1, ⟨st', _, q2, _⟩, _⟩ := hq; cases q2
  | normal =>
    obtain ⟨st1, ⟨st', rfl, q2, _⟩, S1, bm1, ow1, hs1⟩ := hq
    simp only [] at q2
    split at q2
    · cases q2
    rename_i hlu
    have hjunk : (toSt st').s x = .junk := by
      show (luV st'.s x) = .junk
      unfold luV
      rw [hlu]
    have h2 := evD_ok (hT.imp fun t h => h.wf) d hsp _ _ q2
    refine wp_seq (hreg _ a1 w1 hs1.size hs1.defers ?_)
    show c.wp P _ _ w1
    generalize hv1 : a1.tmps.getD t1 undef = v1
    generalize hv2 : a1.tmps.getD t2 undef = v2
    let df' : Df := ⟨[{ target := .fn (.func g) #[v1, v2], args := #[] }], fun i => if i = t1 then some v1 else if i = t2 then some v2 else none⟩
    have hs2 := hs1.defer (df' := df') hjunk (.func (.func g) #[] #[v1, v2]) (fun i u hu => by
      simp only [df'] at hu
      split at hu
      · rename_i hi; subst hi; cases hu; exact ⟨hx1, hv1⟩
      · split at hu
        · rename_i hi; subst hi; cases hu; exact ⟨hx2, hv2⟩
        · cases hu)
    have hpn : PinOk (nzOf hint1) df' := fun i hi => by
      simp only [df'] at hi
      split at hi
      · rename_i h; subst h; exact hp1
      · split at hi
        · rename_i h; subst h; exact hp2
        · exact (hi rfl).elim
    refine wp_mono (simQ hpn hE hm c _ _ _ _ _ hc h2 ⟨S1, bm1, ow1, hs2⟩) fun e a2 w2 hq2 => ?_
    have fin : ∀ st'', (resW st'' crs rs).run some = some y → SimE P fn.ntmps w (fun _ => False) df' S (toSt st'') a2 w2 → Leaves P fn a2.tmps (fun e w' => ∃ c, e = .returned c ∧ Below w.heap.size w w' ∧ ∃ S' : Nat → Nat → Prop, (∀ b o, S' b o → b < w'.heap.size) ∧ (∀ b o, b < w.heap.size → (S' b o ↔ S b o)) ∧
      RepS P S' w' noOw (fun _ => none) (fun _ => none) (toV rs y) c) a2.defers .returning w2 := by
      rintro st'' hq ⟨S', bm, ow, hs'⟩
      obtain ⟨z, r1, r2⟩ := res_ok hr hs' (.inl (resW_ok hq))
      rw [hs'.defers]
      refine leaves_cons (f := g) (args := #[v1, v2]) (by simp) (by simp [go_sem, run_callFunc hcg]) ((hidle w2 _ _).mono ?_)
      rintro e u w' ⟨rfl, rfl, rfl⟩
      exact ⟨z, r1, z, rfl, hs'.below.bare fun _ h => h, S', hs'.slt, hs'.sold, r2⟩
    cases e with
    | goto l => exact hq2.elim
    | outgrown => exact hq2.elim
    | exit i => obtain ⟨st1, ⟨st'', _, r2, _⟩, _⟩ := hq2; cases r2
    | ret => obtain ⟨st1, ⟨st'', rfl, r2, _⟩, r3⟩ := hq2; exact fin st'' r2 r3
    | normal => obtain ⟨st1, ⟨st'', rfl, r2, _⟩, r3⟩ := hq2; exact fin st'' r2 r3
    | panic c =>
      obtain ⟨T', st1, st2, rfl, ⟨st'', rfl, h3, _⟩, hgr, S', bm, ow, hs'⟩ := hq2
      simp only [] at h3
      split at h3
      rotate_left; · cases h3
      rename_i hbe
      rw [Bool.and_eq_true] at hbe
      obtain ⟨hbT, htwo⟩ := hbe
      obtain rfl := beq_t hbT
      unfold twoB at htwo
      split at htwo
      rotate_left; · cases htwo
      rename_i b1 b2 hl1 hl2
      rw [Bool.and_eq_true, Bool.and_eq_true, Bool.and_eq_true, Bool.not_eq_true', Bool.not_eq_true', Bool.not_eq_true'] at htwo
      obtain ⟨⟨hb12, hbl1, hbl2⟩, hcon⟩ := htwo
      split at hcon
      rotate_left; · cases hcon
      rename_i w1' w2' hw1 hw2
      rw [Bool.and_eq_true] at hcon
      obtain ⟨o1, o1'⟩ := oneW_ok hcon.1
      obtain ⟨o2, o2'⟩ := oneW_ok hcon.2
      have e1 : st2.s t1 = .rf b1 [] := (hgr.2 t1 hp1).trans (by show luV st''.s t1 = _; unfold luV; rw [hl1]; rfl)
      have e2 : st2.s t2 = .rf b2 [] := (hgr.2 t2 hp2).trans (by show luV st''.s t2 = _; unfold luV; rw [hl2]; rfl)
      obtain ⟨g1, cur1, T1, k1, k2, k3, k4, k5⟩ := box_cell hs' e1 (hgr.1 _ _ (bx_at hw1)) o1 o1' (beq_f hbl1)
      obtain ⟨g2, cur2, T2, m1, m2, m3, m4, m5⟩ := box_cell hs' e2 (hgr.1 _ _ (bx_at hw2)) o2 o2' (beq_f hbl2)
      have hg12 : g1 ≠ g2 := by
        rintro rfl
        exact beq_f hb12 (hs'.bInj _ _ _ k1 m1)
      have p1 : v1 = .pointer (some ⟨g1, 0, none⟩) := (hs'.pins t1 v1 (by simp [df'])).symm.trans k3
      have p2 : v2 = .pointer (some ⟨g2, 0, none⟩) := by
        have : df'.pin t2 = some v2 ∨ t2 = t1 := by
          simp only [df']
          by_cases h : t2 = t1
          · exact .inr h
          · left; simp [h]
        rcases this with h | h
        · exact (hs'.pins t2 v2 h).symm.trans m3
        · exfalso
          subst h
          rw [k3] at m3
          simp only [Value.pointer.injEq, Option.some.injEq, Addr.mk.injEq] at m3
          exact hg12 m3.1
      show Leaves P fn a2.tmps _ a2.defers _ w2
      rw [hs'.defers]
      show Leaves P fn a2.tmps _ [{ target := .fn (.func g) #[v1, v2], args := #[] }] _ w2
      rw [p1, p2]
      refine leaves_cons (f := g) (args := #[.pointer (some ⟨g1, 0, none⟩), .pointer (some ⟨g2, 0, none⟩)]) (by simp) (by simp [go_sem, run_callFunc hcg]) ((hcatch y h3 w2 g1 g2 a2.tmps cur1 cur2 T1 T2 k3 m3 hs'.size k4 m4 k5 m5 hg12).mono ?_)
      rintro e u w' ⟨rfl, hu, hbw, c, hres, hrep⟩
      show Leaves P fn a2.tmps _ [] (settle u) w'
      rw [hu]
      have hbl : BelowX (fun _ => False) w w' := hs'.below.trans hbw fun i hi h => by
        rcases h with rfl | rfl <;> omega
      exact ⟨c, hres, c, rfl, hbl.bare fun _ h => h, S', fun b o h => Nat.lt_of_lt_of_le (hs'.slt b o h) hbw.size, hs'.sold, hrep S'⟩
end
end Go.Nu
