/-
  bag.Verify, walked where the text is a manifest. No condition beyond what each line says.
-/
import Derived.Test.YthpgkpcnajookaaGreatDoorH3
namespace Go.Proofs.YthpgkpcnajookaaGreatDoor
open Go Go.Nu Go.RowKit Go.Sort Go.Maps
set_option linter.unusedVariables false

theorem elem_string_inv {H : Type} {P : Program} {e : TypeId} (he : P.underlying e = some .string) {v : Value} {z : DataW H × List MemPlace} (h : plainElem P e v = some z) : ∃ s : ByteArray, v = .string s ∧ z = (.lit (.string s.data.toList), []) := by
  unfold plainElem at h
  rw [he] at h
  cases v <;> simp at h
  exact ⟨_, rfl, h.2.symm⟩
/-- 'v, ok := m[k]' at text elements. -/
theorem look_str {P : Program} (w : World) {ops : Array Oper} {rest : List Oper} {o : Oper} {a : Act} {Q : Exit → Act → World → Prop} (hg : o.guard = none) (m x : Operand) (t : TypeId) (hop : o.op = Op.lookup t m x true)
    (k e : TypeId) (K : Keyed P k) (ht : P.underlying t = some (.map k e)) (he : P.underlying e = some .string) (hz : (zeroValue e).run P w = .ok (.string ⟨#[]⟩) w) (b n : Nat) (D : DataW Unit)
    (hm : a.eval m = .map (some b)) (hown : w.ownsMap P k (plainElem P e) b n D) (key : Value) (kl : Lit) (hx : a.eval x = key) (hkey : keyOf P k key = some kl)
    (y : Bool) (d : ByteArray) (hy : Maps.has D kl = y) (hd : D.atKey kl (.lit (.string [])) = .lit (.string d.data.toList))
    (hK : wpList P ops Q rest (a.put o.dst (.tuple #[.string d, .bool y])) w) : wpList P ops Q (o :: rest) a w :=
  wpList_lookup_own_ok w hg m x t hop k e K ht (plainElem P e) hz (.lit (.string [])) [] (plainElem_string (s := ⟨#[]⟩) he (by decide)) b n D hm hown key kl hx hkey (fun v ps hv => by
    obtain ⟨c, rfl, hc⟩ := elem_string_inv he hv
    have e1 := congrArg Prod.fst hc
    rw [hd] at e1
    injection e1 with e2
    injection e2 with e3
    have : d = c := by rw [← byte_eta d, ← byte_eta c, e3]
    subst this
    rw [hy]
    exact hK)
theorem zero9 (W : World) : (zeroValue 9).run Tryz.prog W = .ok (.string ⟨#[]⟩) W := by kernel_rfl
theorem zero3 (W : World) : (zeroValue 3).run Tryz.prog W = .ok (.int .i64 0) W := by kernel_rfl

/-- .. and the map of the manifest, the call's first new block. -/
structure VW (w W : World) (m : List File) (M n : Nat) (D : DataW Unit) (v : Value) (o : List Int) : Prop where
  vn : VN w W M n D v o
  bM : w.heap.size < M
  want : W.ownsMap Tryz.prog 9 (plainElem Tryz.prog 9) w.heap.size m.length (MD m)
variable {w W W1 : World} {m : List File} {M n : Nat} {D D' : DataW Unit} {v v' : Value} {o : List Int} {x : Int}
theorem VW.step (h : VW w W m M n D v o) (hb : Below W.heap.size W W1) : VW w W1 m M n D v o := ⟨h.vn.step hb, h.bM, h.want.kept (grown_of_below hb none) (by simp)⟩
theorem VW.alloc (h : VW w W m M n D v o) (ob : Obj) : VW w (W.alloc ob) m M n D v o := h.step ((Below.refl _ W).alloc (Nat.le_refl _) ob)
theorem VW.app (h : VW w W m M n D v o) (hg : W.grownBy W1 v.ownBlock) (ho : W1.ownsRow (M + 1) 3 1 v' (o.length + 1) (ints o ++ [.int .i64 x])) : VW w W1 m M n D v' (o ++ [x]) :=
  ⟨h.vn.app hg ho, h.bM, h.want.kept hg (fun e => by have := (h.vn.out.lt _ e.symm).1; have := h.bM; omega)⟩
theorem VW.put (h : VW w W m M n D v o) (hg : W.grownBy W1 (some M)) (ho : W1.ownsMap Tryz.prog 9 (plainElem Tryz.prog 3) M (n + 1) D') : VW w W1 m M (n + 1) D' v o :=
  ⟨h.vn.put hg ho, h.bM, h.want.kept hg (by have := h.bM; simp only [ne_eq, Option.some.injEq]; omega)⟩
theorem VW.start (h : EntAt w W w.heap.size m) : VW w (W.alloc (.map #[] 0)) m W.heap.size 0 (.map []) (.slice none 0 0) [] :=
  ⟨VN.start h.b0, h.own.lt, h.own.alloc _⟩
theorem put_cell {wr w2 : World} {M : Nat} {a b : Value} (hg : (wr.alloc (.cells #[a, b] 39)).grownBy w2 (some M)) (hM : M < wr.heap.size) : w2.cell? ⟨wr.heap.size, 1, none⟩ = some b := by
  have h := hg.block wr.heap.size (by simp) (by simp only [ne_eq, Option.some.injEq]; omega)
  rw [heap_alloc_new] at h
  exact (cell_of_row _ _ 1 _ _ _ h).trans rfl

set_option maxHeartbeats 1000000 in
set_option maxRecDepth 1000000 in
theorem walkVerS (l : List File) (a : Option Addr) (cap : Nat) (s : ByteArray) (w : World) (hg : GT w) (hs : s.data.toList.length ≤ 1000000) (hl : Fit l) (hf : FilesAt w l a) (m : List File) (hn : entsP s.data.toList = some m) (R : List Int) (hR : R = missL (matchB m) 0 l ++ (if surplusB m l = true then [(l.length : Int)] else [])) :
    Calls Tryz.prog 20 #[.slice a l.length cap, .string s] w (VerPost R w) := by
  have HR : Aside (R = missL (matchB m) 0 l ++ (if surplusB m l = true then [(l.length : Int)] else [])) := hR
  clear hR
  have HE : Aside (Calls Tryz.prog 36 #[.string s] w (EntPost (some m) w)) := by
    have := walkEnts s w hg hs
    rw [hn] at this
    exact this
  have HG : Aside (GT w ∧ Keys m ∧ Fit l ∧ FilesAt w l a ∧ m.length ≤ 1000000) := ⟨hg, entsP_keys hn, hl, hf, by have := entsP_len hn; omega⟩
  have hl1 := hl.1
  clear hg hs hn hl hf
  obtain ⟨i0, hi, hz0, hz1, hz2⟩ := info3
  have HI : Aside (Tryz.prog.info? 3 = some i0 ∧ i0.zero = some (.int .i64 0) ∧ i0.size = 1 ∧ i0.bytes = 8) := ⟨hi, hz0, hz1, hz2⟩
  clear hi hz0 hz1 hz2
  have hmm := @run_makeMap Tryz.prog
  go_enter Tryz.func20, Tryz.ntmps20
  go_wp2_with (go_at_call 36; refine HE.out.mono ?_; rintro e w1 ⟨rfl, hb⟩; have HB : Aside (EntAt w w1 w.heap.size m) := hb; clear hb)
  go_loopg [5, 21] l.length (fun gg s5 s21 wr => ∃ (i n : Nat) (D : DataW Unit) (v : Value) (o : List Int), s5 = v ∧ s21 = .int .i64 i ∧ l.length - i ≤ gg ∧ i ≤ l.length ∧ Aside (o.length ≤ i ∧ n ≤ i ∧ missL (matchB m) 0 l = o ++ missL (matchB m) i (l.drop i) ∧ MetI m l i D ∧ VW w wr m w1.heap.size n D v o))
  case atStart => exact ⟨0, 0, _, _, [], rfl, rfl, by omega, by omega, (show Aside _ from ⟨Nat.le_refl _, Nat.le_refl _, by simp, MetI.start m l, VW.start HB.out⟩)⟩
  case round =>
    obtain ⟨i, n, D, v, o, rfl, rfl, hgg, hil, I⟩ := hrel
    by_cases hlt : i < l.length
    · have hltz : (i : Int) < (l.length : Int) := by omega
      obtain ⟨b, of, rfl, hbl, z0, z1⟩ := HG.out.2.2.2.1 i hlt
      have HM : Aside (matchB m (l.getD i ([], [])) = (match sumOf m (l.getD i ([], [])).1 with | some d => decide (d = dig (l.getD i ([], [])).2) | none => false)) := rfl
      have HS : Aside ((∀ o', matchB m (l.getD i ([], [])) = true → o' = o → missL (matchB m) 0 l = o' ++ missL (matchB m) ((i : Int) + 1) (l.drop (i + 1))) ∧ (matchB m (l.getD i ([], [])) = false → missL (matchB m) 0 l = (o ++ [(i : Int)]) ++ missL (matchB m) ((i : Int) + 1) (l.drop (i + 1)))) := by
        have h := I.out.2.2.1
        rw [missL_step _ l hlt] at h
        refine ⟨fun o' hm ho => ?_, fun hm => ?_⟩
        · rw [h, if_pos hm, ho]; rfl
        · rw [h, if_neg (by rw [hm]; simp), List.append_assoc]
      have HD : Aside ((sumOf m (l.getD i ([], [])).1 = none → MetI m l (i + 1) D) ∧ ∀ d v, sumOf m (l.getD i ([], [])).1 = some d → MetI m l (i + 1) (D.put (.string (l.getD i ([], [])).1) v)) :=
        ⟨I.out.2.2.2.1.skip hlt, fun d v hd => I.out.2.2.2.1.put HG.out.2.1 hlt hd v⟩
      replace z0 := (I.out.2.2.2.2.vn.b0.cell (p := ⟨b, of + i * 2, none⟩) hbl).trans z0
      replace z1 := (I.out.2.2.2.2.vn.b0.cell (p := ⟨b, of + i * 2 + 1, none⟩) hbl).trans z1
      have hfit := fit_at HG.out.2.2.1 i
      generalize l.getD i ([], []) = f at z0 z1 hfit HM HS HD
      obtain ⟨p, hp⟩ : ∃ p : ByteArray, p = ⟨f.1.toArray⟩ := ⟨_, rfl⟩
      obtain ⟨q, hq⟩ : ∃ q : ByteArray, q = ⟨f.2.toArray⟩ := ⟨_, rfl⟩
      rw [← hp] at z0
      rw [← hq] at z1
      have hpl : p.data.toList = f.1 := by rw [hp]
      have hql : q.data.toList = f.2 := by rw [hq]
      rw [← hpl] at HM HD
      rw [← hql] at HM
      have HK : Aside (keyOf Tryz.prog 9 (.string p) = some (.string p.data.toList)) := Go.WideMaps.keyOf_string_mk Tryz.underlying9 (by rw [byte_size, hpl]; unfold maxLen; omega)
      have hq2 : q.data.toList.length ≤ 1000000 := by rw [hql]; omega
      have HQ : Aside (q.data.toList.length ≤ 1000000) := hq2
      have hat := MD_at HG.out.2.1 p.data.toList (.lit (.string []))
      have hhas := MD_has m p.data.toList
      clear hp hq hq2 hpl hql hfit hbl
      cases hsum : sumOf m p.data.toList with
      | none =>
        rw [hsum] at hat hhas HM
        have HL : Aside (Maps.has (MD m) (.string p.data.toList) = false ∧ (MD m).atKey (.string p.data.toList) (.lit (.string [])) = .lit (.string (⟨#[]⟩ : ByteArray).data.toList)) := ⟨hhas, hat⟩
        have HD2 : Aside (MetI m l (i + 1) D) := HD.out.1 hsum
        have HS2 := HS.out.2 HM.out
        have HS3 : Aside (missL (matchB m) 0 l = (o ++ [(i : Int)]) ++ missL (matchB m) ((i : Int) + 1) (l.drop (i + 1))) := HS2
        clear hat hhas HM hsum HD HS HS2
        go_wp2_with (first
          | (at_lookup; refine look_str _ rfl _ _ 56 rfl 9 9 keyed9 Tryz.underlying56 Tryz.underlying9 (zero9 _) w.heap.size m.length (MD m) rfl (I.out.2.2.2.2.alloc _).want _ _ rfl HK.out false ⟨#[]⟩ HL.out.1 HL.out.2 ?_)
          | (at_builtin; refine wpList_append_own _ rfl _ _ 31 rfl (w1.heap.size + 1) 3 i0 (.int .i64 0) 1 8 Tryz.underlying31 HI.out.1 HI.out.2.1 HI.out.2.2.1 HI.out.2.2.2 rfl (by decide) _ _ _ rfl ((I.out.2.2.2.2.alloc _).alloc _).vn.out ⟨wr.heap.size + 1, 0, none⟩ 1 1 [.int .i64 (i : Int)] rfl rfl ?c1 ?c2 ?c3 ?c4 ?c5 ?_))
        case c2 => rfl
        case c3 => unfold maxLen; have := I.out.1; omega
        case c4 => have := I.out.1; omega
        case c5 => have := I.out.2.2.2.2.vn.lt; omega
        intro v' w3 hown hgrow hnil
        have IN : Aside (VW w w3 m w1.heap.size n D v' (o ++ [(i : Int)])) := ((I.out.2.2.2.2.alloc _).alloc _).app hgrow hown
        clear hown hgrow hnil
        go_wp2
        go_roundg (l.length - (i + 1))
        case measure => omega
        case rel =>
          obtain ⟨i1, i2, i3, i4, i5⟩ := I.out
          exact ⟨i + 1, n, D, v', o ++ [(i : Int)], rfl, by go_num, Nat.le_refl _, by omega, (show Aside _ from ⟨by rw [List.length_append, List.length_singleton]; omega, by omega, HS3.out, HD2.out, IN.out⟩)⟩
      | some d =>
        rw [hsum] at hat hhas HM
        obtain ⟨db, hdb⟩ : ∃ db : ByteArray, db = ⟨d.toArray⟩ := ⟨_, rfl⟩
        have hdl : db.data.toList = d := by rw [hdb]
        have HL : Aside (Maps.has (MD m) (.string p.data.toList) = true ∧ (MD m).atKey (.string p.data.toList) (.lit (.string [])) = .lit (.string db.data.toList)) := ⟨hhas, by rw [hdl]; exact hat⟩
        obtain ⟨sb, hsb⟩ : ∃ sb : ByteArray, sb = ⟨(dig q.data.toList).toArray⟩ := ⟨_, rfl⟩
        have hsl : sb.data.toList = dig q.data.toList := by rw [hsb]
        have HC : Aside (∀ W, GT W → Calls Tryz.prog 27 #[.string q] W fun e w' => e = .returned (.string sb) ∧ Below W.heap.size W w') := by
          intro W hW
          rw [hsb]
          exact callSum q W hW HQ.out
        have HM2 : Aside (matchB m f = (db.toList == sb.toList)) := by
          have h : matchB m f = decide (d = dig q.data.toList) := HM.out
          show matchB m f = _
          rw [h, byte_toList, byte_toList, hdl, hsl, Bool.eq_iff_iff, decide_eq_true_eq, beq_iff_eq]
        have HD2 : Aside (∀ v, MetI m l (i + 1) (D.put (.string p.data.toList) v)) := fun v => HD.out.2 d v hsum
        clear hat hhas HM hsum HD hdb hdl hsb hsl
        have t1 := True.intro
        go_wp2_with (first
          | (at_lookup; clear t1; refine look_str _ rfl _ _ 56 rfl 9 9 keyed9 Tryz.underlying56 Tryz.underlying9 (zero9 _) w.heap.size m.length (MD m) rfl (I.out.2.2.2.2.alloc _).want _ _ rfl HK.out true db HL.out.1 HL.out.2 ?_)
          | (at_lookup; refine wpList_lookup_own_int _ rfl _ _ 59 rfl 9 3 .i64 keyed9 Tryz.underlying59 Tryz.underlying3 (zero3 _) w1.heap.size n D rfl (I.out.2.2.2.2.alloc _).vn.met _ _ rfl HK.out ?_; intro c hat hwc; clear hat)
          | (at_mapUpdate; refine wpList_mapUpdate_own _ rfl _ _ _ 59 rfl 9 3 keyed9 Tryz.underlying59 _ w1.heap.size n _ rfl (I.out.2.2.2.2.alloc _).vn.met ?q1 _ _ _ rfl rfl HK.out _ [] (plainElem_int Tryz.underlying3 ?q2) ?_))
        case q1 => unfold maxLen; have := I.out.2.1; omega
        case q2 => go_wf2
        intro w2 hown hgrow
        have n1 := put_cell hgrow I.out.2.2.2.2.vn.lt
        have IN2 : Aside (VW w w2 m w1.heap.size (n + 1) _ _ o) := (I.out.2.2.2.2.alloc _).put hgrow hown
        clear hown hgrow
        cases hcmp : (db.toList == sb.toList) with
        | true =>
          go_wp2_with (go_at_call 27; refine (HC.out _ (keepsGT w _ HG.out.1 IN2.out.vn.b0)).mono ?_; rintro e w3 ⟨rfl, hb⟩; have IN3 := IN2.out.step hb; have IN4 : Aside (VW w w3 m w1.heap.size (n + 1) _ _ o) := IN3; clear hb IN3)
          go_roundg (l.length - (i + 1))
          case measure => omega
          case rel =>
            obtain ⟨i1, i2, i3, i4, i5⟩ := I.out
            exact ⟨i + 1, n + 1, _, _, o, rfl, by go_num, Nat.le_refl _, by omega, (show Aside _ from ⟨by omega, by omega, HS.out.1 o (HM2.out.trans hcmp) rfl, HD2.out _, IN4.out⟩)⟩
        | false =>
          go_wp2_with (first
            | (go_at_call 27; refine (HC.out _ (keepsGT w _ HG.out.1 IN2.out.vn.b0)).mono ?_; rintro e w3 ⟨rfl, hb⟩; have IN3 := IN2.out.step hb; have IN4 : Aside (VW w w3 m w1.heap.size (n + 1) _ _ o) := IN3; clear hb IN3)
            | (at_builtin; refine wpList_append_own _ rfl _ _ 31 rfl (w1.heap.size + 1) 3 i0 (.int .i64 0) 1 8 Tryz.underlying31 HI.out.1 HI.out.2.1 HI.out.2.2.1 HI.out.2.2.2 rfl (by decide) _ _ _ rfl (IN4.out.alloc _).vn.out ⟨w3.heap.size, 0, none⟩ 1 1 [.int .i64 (i : Int)] rfl rfl ?e1 ?e2 ?e3 ?e4 ?e5 ?_))
          case e1 => exact one_cell _ _
          case e2 =>
            intro u hu
            rw [List.mem_singleton] at hu
            rw [hu]; rfl
          case e3 => unfold maxLen; have := I.out.1; omega
          case e4 => have := I.out.1; omega
          case e5 => have := IN4.out.vn.lt; simp; omega
          intro v' w4 hown hgrow hnil
          have IN5 : Aside (VW w w4 m w1.heap.size (n + 1) _ v' (o ++ [(i : Int)])) := (IN4.out.alloc _).app hgrow hown
          clear hown hgrow hnil
          go_wp2
          go_roundg (l.length - (i + 1))
          case measure => omega
          case rel =>
            obtain ⟨i1, i2, i3, i4, i5⟩ := I.out
            exact ⟨i + 1, n + 1, _, v', o ++ [(i : Int)], rfl, by go_num, Nat.le_refl _, by omega, (show Aside _ from ⟨by rw [List.length_append, List.length_singleton]; omega, by omega, HS.out.2 (HM2.out.trans hcmp), HD2.out _, IN5.out⟩)⟩
    · obtain rfl : i = l.length := by omega
      have hltz : ¬ (l.length : Int) < (l.length : Int) := by omega
      have hfin := I.out.2.2.2.1.fin HG.out.2.1
      have q1 := fun ty => I.out.2.2.2.2.vn.met.len Tryz.underlying59 ty
      have q2 := fun ty => I.out.2.2.2.2.want.len Tryz.underlying56 ty
      have HO : Aside (missL (matchB m) 0 l = o) := by
        have h := I.out.2.2.1
        rw [List.drop_length] at h
        exact h.trans (List.append_nil o)
      cases hsur : surplusB m l with
      | true =>
        rw [hsur] at hfin
        have hcz : ((Maps.size D : Nat) : Int) < ((Maps.size (MD m) : Nat) : Int) := by
          have := of_decide_eq_true hfin.symm
          omega
        have HR2 : Aside (R = o ++ [(l.length : Int)]) := by
          have h := HR.out
          rw [hsur, HO.out] at h
          exact h
        clear hfin hsur
        go_wp2_with (at_builtin; refine wpList_append_own _ rfl _ _ 31 rfl (w1.heap.size + 1) 3 i0 (.int .i64 0) 1 8 Tryz.underlying31 HI.out.1 HI.out.2.1 HI.out.2.2.1 HI.out.2.2.2 rfl (by decide) _ _ _ rfl (I.out.2.2.2.2.alloc _).vn.out ⟨wr.heap.size, 0, none⟩ 1 1 [.int .i64 (l.length : Int)] rfl rfl ?d1 ?d2 ?d3 ?d4 ?d5 ?_)
        case d2 => rfl
        case d3 => unfold maxLen; have := I.out.1; omega
        case d4 => have := I.out.1; omega
        case d5 => have := I.out.2.2.2.2.vn.lt; omega
        intro v' w3 hown hgrow hnil
        have IN : Aside (VW w w3 m w1.heap.size n D v' (o ++ [(l.length : Int)])) := (I.out.2.2.2.2.alloc _).app hgrow hown
        clear hown hgrow hnil
        go_wp2
        go_ret
        rw [HR2.out]
        exact ⟨v', _, rfl, Nat.le_succ_of_le IN.out.vn.lo, IN.out.vn.b0, IN.out.vn.out⟩
      | false =>
        rw [hsur] at hfin
        have hcz : ¬ ((Maps.size D : Nat) : Int) < ((Maps.size (MD m) : Nat) : Int) := by
          have := of_decide_eq_false hfin.symm
          omega
        have HR2 : Aside (R = o) := by
          have h := HR.out
          rw [hsur, HO.out] at h
          exact h.trans (List.append_nil o)
        clear hfin hsur
        go_wp2
        go_ret
        rw [HR2.out]
        exact ⟨_, _, rfl, Nat.le_succ_of_le I.out.2.2.2.2.vn.lo, I.out.2.2.2.2.vn.b0, I.out.2.2.2.2.vn.out⟩
end Go.Proofs.YthpgkpcnajookaaGreatDoor
