/-
  Chapter 44: the laws BagFinds, BagDetects. No condition beyond what each line says.
-/
import Derived.Test.YthpgkpcnajookaaGreatDoorY
namespace Go.Proofs.YthpgkpcnajookaaGreatDoor
open Go Go.Nu
set_option linter.unusedVariables false

theorem parts_at (l : List File) {i : Nat} (h : i < l.length) : l = l.take i ++ l.getD i ([], []) :: l.drop (i + 1) := by
  conv => lhs; rw [← List.take_append_drop i l, drop_getD ([], []) h]
theorem set_parts (l : List File) {i : Nat} (h : i < l.length) (v : File) : l.set i v = l.take i ++ v :: l.drop (i + 1) := by
  rw [List.set_eq_take_append_cons_drop, if_pos h]

section
variable {a b : List File} {f : File}
theorem dist_out (h : Dist (a ++ f :: b)) : ∀ g ∈ a ++ b, g.1 ≠ f.1 := by
  unfold Dist at h
  rw [List.pairwise_append] at h
  obtain ⟨h1, h2, h3⟩ := h
  intro g hg
  rcases List.mem_append.1 hg with hg | hg
  · exact h3 g hg f List.mem_cons_self
  · exact ((List.pairwise_cons.1 h2).1 g hg).symm
theorem mem_less {g : File} (h : g ∈ a ++ b) : g ∈ a ++ f :: b := by
  rcases List.mem_append.1 h with h | h
  · exact List.mem_append_left _ h
  · exact List.mem_append_right _ (List.mem_cons_of_mem _ h)
theorem find_changed (h : rightP (a ++ f :: b) = 0) {d : List UInt8} (hd : dig d ≠ dig f.2) : verifyP (a ++ (f.1, d) :: b) ((a ++ f :: b).flatMap manF) = [(a.length : Int)] := by
  have hdis := right_dist h
  rw [verify_man h, surplus_no, miss_one]
  · simp
  · exact fun x hx => match_at hdis (List.mem_append_left _ hx)
  · unfold matchB
    rw [sum_at hdis f (by simp)]
    exact dF (fun e => hd e.symm)
  · exact fun x hx => match_at hdis (List.mem_append_right _ (List.mem_cons_of_mem _ hx))
  · intro x hx
    rcases List.mem_append.1 hx with hx | hx
    · exact ⟨x, List.mem_append_left _ hx, rfl⟩
    · rcases List.mem_cons.1 hx with rfl | hx
      · exact ⟨(x.1, d), by simp, rfl⟩
      · exact ⟨x, List.mem_append_right _ (List.mem_cons_of_mem _ hx), rfl⟩
theorem find_less (h : rightP (a ++ f :: b) = 0) : verifyP (a ++ b) ((a ++ f :: b).flatMap manF) = [((a ++ b).length : Int)] := by
  have hdis := right_dist h
  rw [verify_man h, surplus_yes (f := f) (by simp) (dist_out hdis), miss_all _ _ fun x hx => match_at hdis (mem_less hx)]
  rfl
theorem right_less (h : rightP (a ++ f :: b) = 0) (hn : (a ++ b).length ≠ 0) : rightP (a ++ b) = 0 := by
  have hl := right_len h
  have hs := right_sorted h
  have hsub : (a ++ b).Sublist (a ++ f :: b) := (List.Sublist.refl a).append (List.sublist_cons_self f b)
  refine rightP_of (by omega) ?_ (rightL_of _ _ (fun _ h => by cases h) (hs.sublist hsub) fun g hg => right_all h g (mem_less hg))
  have := hsub.length_le
  omega
theorem find_more (h : rightP (a ++ f :: b) = 0) (hn : (a ++ b).length ≠ 0) : verifyP (a ++ f :: b) ((a ++ b).flatMap manF) = [(a.length : Int)] := by
  have h2 := right_less h hn
  have hdis := right_dist h2
  rw [verify_man h2, surplus_no (fun x hx => ⟨x, mem_less hx, rfl⟩), miss_one]
  · simp
  · exact fun x hx => match_at hdis (List.mem_append_left _ hx)
  · unfold matchB
    rw [sum_out (dist_out (right_dist h))]
  · exact fun x hx => match_at hdis (List.mem_append_right _ hx)
end

theorem law9 (l : List File) (k : UInt8) (d : List UInt8) : F9 l k d = some true := by
  unfold F9
  rw [g11, bindO_some]
  cases hs : smallB l with
  | false => rw [Bool.not_false, cond_true, g12, bindO_some]
  | true =>
  have hf := fit_small hs
  rw [Bool.not_true, cond_false]
  by_cases h2 : 2000 < d.length
  · rw [dT (by omega), cond_true, g12, bindO_some]
  rw [dF (by omega), cond_false, g13 l hf, bindO_some]
  by_cases h0 : rightP l = 0
  rotate_left
  · rw [dF h0, Bool.not_false, cond_true, g12, bindO_some]
  have hn := right_len h0
  have hk := UInt8.toNat_lt k
  rw [dT h0, Bool.not_true, cond_false, g17 l hf, bindO_some, man_of h0]
  dsimp only
  rw [dT rfl, Bool.not_true, cond_false, fVerify_pos hf (man_len h0), bindO_some]
  have hself : verifyP l (l.flatMap manF) = [] := by
    rw [verify_man h0, surplus_no (fun f hf => ⟨f, hf, rfl⟩), miss_all _ _ (fun f hf => match_at (right_dist h0) hf)]
    rfl
  rw [hself, dT (by rfl), Bool.not_true, cond_false, gd_pos (by omega), bnd_eq, i64_wrap (by omega)]
  have hx : Int.tmod (k.toNat : Int) (l.length : Int) = ((k.toNat % l.length : Nat) : Int) := by
    rw [Int.tmod_eq_emod_of_nonneg (by omega)]
    exact (Int.natCast_emod _ _).symm
  have hi : k.toNat % l.length < l.length := Nat.mod_lt _ (by omega)
  rw [hx]
  generalize k.toNat % l.length = i at hi
  rw [gd_pos (by omega), gd_pos (by unfold big; omega), gd_pos (by omega), gd_pos (by omega), gd_pos (by omega)]
  simp only [toNat_nat, toNat1]
  have e := parts_at l hi
  have hsp := set_parts l hi
  have hal : (l.take i).length = i := by rw [List.length_take]; omega
  have hfi := fit_at hf i
  generalize l.getD i ([], []) = f at *
  generalize ha : l.take i = a at *
  generalize hb : l.drop (i + 1) = b at *
  have h0e : rightP (a ++ f :: b) = 0 := by rw [← e]; exact h0
  have hlen : l.length = a.length + (b.length + 1) := by conv => lhs; rw [e]; rw [List.length_append, List.length_cons]
  have hfl : Fit (a ++ b) := ⟨by rw [List.length_append]; have := hf.1; omega, fun g hg => hf.2 g (by rw [e]; exact mem_less hg)⟩
  refine jn_rule (fun _ => True) (fun next hnx => ?_) (fun _ _ => ?_)
  · rw [f11 d (by omega), bindO_some, gd_pos (by omega), f11 f.2 (by omega), bindO_some]
    by_cases hd : dig d = dig f.2
    · rw [dT hd, Bool.not_true, cond_false]
      exact hnx () trivial
    · have hfc : Fit (l.set i (f.1, d)) := by
        rw [hsp]
        refine ⟨by rw [List.length_append, List.length_cons, ← hlen]; exact hf.1, fun g hg => ?_⟩
        rcases List.mem_append.1 hg with hg | hg
        · exact hf.2 g (by rw [e]; exact List.mem_append_left _ hg)
        · rcases List.mem_cons.1 hg with rfl | hg
          · exact ⟨hfi.1, by dsimp only; omega⟩
          · exact hf.2 g (by rw [e]; exact List.mem_append_right _ (List.mem_cons_of_mem _ hg))
      rw [dF hd, Bool.not_false, cond_true, fVerify_pos hfc (man_len h0), bindO_some, hsp, show l.flatMap manF = (a ++ f :: b).flatMap manF by rw [← e], find_changed h0e hd, hal,
        g19 _ _ (by simp) (by simp), bindO_some, dT rfl, Bool.not_true, cond_false]
      exact hnx () trivial
  · rw [gd_pos (by omega), bnd_eq, gdN_rfl, List.nil_append, gd_pos (by unfold big; simp only [List.length_nil]; omega), bnd_eq, bnd_eq, i64_wrap (by omega), gd_pos (by omega), toNat1, hb, bnd_eq, gdN_rfl, gd_pos (by unfold big; omega), bnd_eq,
      fVerify_pos hfl (man_len h0), bindO_some, show l.flatMap manF = (a ++ f :: b).flatMap manF by rw [← e], find_less h0e, g19 _ _ (by simp) (by simp), bindO_some, dT rfl, Bool.not_true, cond_false]
    by_cases hz : (a ++ b).length = 0
    · rw [dT (by omega), cond_true, g12, bindO_some]
    · have hr := right_less h0e hz
      have hv := find_more h0e hz
      rw [hal, ← e] at hv
      rw [dF (by omega), cond_false, g17 _ hfl, bindO_some, man_of hr]
      dsimp only
      rw [dT rfl, cond_true, fVerify_pos hf (man_len hr), bindO_some, hv, g19 _ _ (by simp) (by simp), bindO_some, dT rfl, cond_true, g12, bindO_some]

theorem rightL_size : ∀ (l l2 : List File) (q : Option (List UInt8)), sizesOf l = sizesOf l2 → rightL q l = rightL q l2
  | [], [], _, _ => rfl
  | [], _ :: _, _, h => by cases h
  | _ :: _, [], _, h => by cases h
  | f :: l, g :: l2, q, h => by
    have h : (f.1, f.2.length) :: sizesOf l = (g.1, g.2.length) :: sizesOf l2 := h
    injection h with h1 h2
    injection h1 with h3 h4
    rw [rightL_cons, rightL_cons, h3, h4, rightL_size l l2 _ h2]
theorem right_size {l l2 : List File} (h : sizesOf l = sizesOf l2) : rightP l = rightP l2 := by
  have hl : l.length = l2.length := by
    have := congrArg List.length h
    unfold sizesOf at this
    rwa [List.length_map, List.length_map] at this
  unfold rightP
  rw [hl, rightL_size l l2 none h]

theorem law10 (l : List File) (at_ : Int) (hw : 0 ≤ at_ ∧ at_ ≤ 65535) (c : UInt8) : F10 l at_ c = some true := by
  unfold F10
  rw [g11, bindO_some]
  cases hs : smallB l with
  | false => rw [Bool.not_false, cond_true, g12, bindO_some]
  | true =>
  have hf := fit_small hs
  rw [Bool.not_true, cond_false, g22 l hf, bindO_some]
  by_cases h0 : rightP l = 0
  rotate_left
  · rw [show packP l = ([], rightP l) from if_neg h0]
    dsimp only
    rw [dF h0, Bool.not_false, cond_true, g12, bindO_some]
  have hn := right_len h0
  have hpl := pack_len h0
  have hrl := root_len hn.1
  rw [pack_of h0]
  dsimp only
  obtain ⟨A, rfl⟩ : ∃ A : Nat, at_ = (A : Int) := ⟨at_.toNat, by omega⟩
  rw [dT rfl, Bool.not_true, cond_false, gd_pos (by omega), gd_pos (by unfold big; omega), gd_pos (by omega), bnd_eq, i64_wrap (by omega)]
  rw [show Int.tmod (A : Int) (l.length : Int) = ((A % l.length : Nat) : Int) by rw [Int.tmod_eq_emod_of_nonneg (by omega)]; exact (Int.natCast_emod _ _).symm,
    show Int.tdiv (A : Int) (l.length : Int) = ((A / l.length : Nat) : Int) by rw [Int.tdiv_eq_ediv_of_nonneg (by omega)]; exact (Int.natCast_ediv _ _).symm]
  have hk : A % l.length < l.length := Nat.mod_lt _ (by omega)
  have hA : A / l.length ≤ 65535 := Nat.le_trans (Nat.div_le_self _ _) (by omega)
  generalize A % l.length = k at hk
  generalize A / l.length = B at hA
  rw [gd_pos (by omega)]
  simp only [toNat_nat]
  have e := parts_at l hk
  have hsp := set_parts l hk
  have hal : (l.take k).length = k := by rw [List.length_take]; omega
  have hfi := fit_at hf k
  have hdr := drop_getD ([], []) hk
  generalize l.getD k ([], []) = f at *
  by_cases hz : f.2.length = 0
  · rw [dT (by omega), cond_true, g12, bindO_some]
  rw [dF (by omega), cond_false, gd_pos (by omega), bnd_eq, i64_wrap (by omega), gd_pos (by omega), bnd_eq,
    show Int.tmod (B : Int) (f.2.length : Int) = ((B % f.2.length : Nat) : Int) by rw [Int.tmod_eq_emod_of_nonneg (by omega)]; exact (Int.natCast_emod _ _).symm]
  have hi : B % f.2.length < f.2.length := Nat.mod_lt _ (by omega)
  generalize B % f.2.length = i at hi
  rw [bnd_eq, i64_wrap (n := (i : Int) + 1) (by omega), i64_wrap (n := ((packT l).length : Int) - 16) (by omega)]
  -- the parts of the package
  obtain ⟨A0, hA0⟩ : ∃ A0, A0 = headP l.length ++ l.flatMap entF ++ (l.take k).flatMap Prod.snd := ⟨_, rfl⟩
  obtain ⟨R, hR⟩ : ∃ R, R = (l.drop (k + 1)).flatMap Prod.snd ++ rootP l := ⟨_, rfl⟩
  have hall : ∀ v : File, (l.take k ++ v :: l.drop (k + 1)).flatMap Prod.snd = (l.take k).flatMap Prod.snd ++ (v.2 ++ (l.drop (k + 1)).flatMap Prod.snd) := by
    intro v
    rw [List.flatMap_append, List.flatMap_cons]
  have hp : packT l = A0 ++ (f.2 ++ R) := by
    have h1 := hall f
    rw [← e] at h1
    unfold packT
    rw [h1, hA0, hR]
    simp only [List.append_assoc]
  have hpn : (packT l).length = A0.length + (f.2.length + R.length) := by rw [hp, List.length_append, List.length_append]
  have hlen : (packT l).length = A0.length + ((l.drop k).flatMap Prod.snd).length + 16 := by
    rw [hpn, hR, hdr, List.flatMap_cons, List.length_append, List.length_append, hrl]
    omega
  refine loopK_rule (fun p : Int × Int => ∃ j : Nat, p = (((A0.length + ((l.drop j).flatMap Prod.snd).length : Nat) : Int), (j : Int)) ∧ k ≤ j ∧ j ≤ l.length ∧ A0.length + ((l.drop j).flatMap Prod.snd).length ≤ 50000) (fun p => l.length - p.2.toNat) ⟨k, ?_, Nat.le_refl _, by omega, by omega⟩ rfl ?_
  · congr 1
    omega
  rintro _ again ⟨j, rfl, hkj, hj, hb⟩ hag
  simp only []
  by_cases hlt : j < l.length
  · have hd := drop_getD ([], []) hlt
    have hlj : ((l.drop j).flatMap Prod.snd).length = (l.getD j ([], [])).2.length + ((l.drop (j + 1)).flatMap Prod.snd).length := by rw [hd, List.flatMap_cons, List.length_append]
    rw [dT (by omega), cond_true, gd_pos (by omega), bnd_eq, getD_nat, i64_wrap (by omega), bnd_eq, i64_wrap (by omega)]
    refine hag _ ⟨j + 1, ?_, by omega, by omega, by omega⟩ (by simp only []; omega)
    congr 1
    omega
  · rw [dF (by omega), cond_false, List.drop_eq_nil_of_le (by omega : l.length ≤ j)]
    simp only [List.flatMap_nil, List.length_nil, Nat.add_zero]
    rw [bnd_eq, i64_wrap (by omega), dF (by omega), cond_false, dF (by omega), cond_false, gd_pos (by omega), gd_pos (by omega), gd_pos (by omega)]
    have ex : ((A0.length : Int) + (i : Int)).toNat = A0.length + i := by omega
    have hget : List.getD (packT l) (A0.length + i) 0 = f.2.getD i 0 := by
      rw [hp, List.getD_eq_getElem?_getD, List.getElem?_append_right (by omega), Nat.add_sub_cancel_left, List.getElem?_append_left hi, ← List.getD_eq_getElem?_getD]
    rw [ex]
    simp only [toNat_nat, toNat1]
    rw [hget, dT rfl, Bool.not_true, cond_false, gd_pos (by omega), gd_pos (by omega), bnd_eq, gd_pos (by unfold big; rw [List.length_take]; simp only [List.length_cons, List.length_nil]; omega), bnd_eq, gd_pos (by omega), bnd_eq, gd_pos (by omega)]
    simp only [toNat1]
    rw [bnd_eq, gd_pos (by unfold big; simp only [List.length_append, List.length_take, List.length_drop, List.length_cons, List.length_nil]; omega), bnd_eq, gd_pos (by omega), gd_pos (by omega), gd_pos (by omega), gd_pos (by omega), gd_pos (by omega)]
    obtain ⟨d', hd'⟩ : ∃ d', d' = f.2.take i ++ [c] ++ f.2.drop (i + 1) := ⟨_, rfl⟩
    have hdl : d'.length = f.2.length := by rw [hd']; simp only [List.length_append, List.length_take, List.length_drop, List.length_cons, List.length_nil]; omega
    rw [← hd']
    by_cases hc : c = f.2.getD i 0
    · rw [dT (by rw [← hc]), cond_true, g12, bindO_some]
    have hci : ¬ ((c.toNat : Int) = ((f.2.getD i 0).toNat : Int)) := fun h => hc (UInt8.toNat_inj.1 (by omega))
    have hsz : sizesOf l = sizesOf (l.set k (f.1, d')) := by
      rw [hsp]
      conv => lhs; rw [e]
      unfold sizesOf
      rw [List.map_append, List.map_append, List.map_cons, List.map_cons]
      dsimp only
      rw [hdl]
    have hrc : rightP (l.set k (f.1, d')) = 0 := by rw [← right_size hsz]; exact h0
    rw [dF hci, cond_false, g15 _ (right_fit hrc), bindO_some, g15 l hf, bindO_some]
    by_cases hroot : rootP (l.set k (f.1, d')) = rootP l
    · rw [dT hroot, cond_true, g12, bindO_some]
    have htext : List.take (A0.length + i) (packT l) ++ [c] ++ List.drop (A0.length + i + 1) (packT l) = headP l.length ++ l.flatMap entF ++ ((l.set k (f.1, d')).flatMap Prod.snd ++ rootP l) := by
      rw [hsp, hall, hp, List.take_length_add_append, List.take_append_of_le_length (by omega), Nat.add_assoc, List.drop_length_add_append, List.drop_append_of_le_length (by omega), hA0, hR, hd']
      simp only [List.append_assoc]
    have hun : unpackP (headP l.length ++ l.flatMap entF ++ ((l.set k (f.1, d')).flatMap Prod.snd ++ rootP l)) = ([], 5) := by
      rw [unpack_any hn.2 (right_all h0) hsz]
      unfold finP
      rw [if_pos ⟨hrl, hrc⟩, if_neg (fun h => hroot h.symm)]
    rw [dF hroot, cond_false, gd_pos (by omega), bnd_eq, gd_pos (by unfold big; rw [List.length_take]; simp only [List.length_cons, List.length_nil]; omega), bnd_eq, bnd_eq, i64_wrap (by omega), gd_pos (by omega),
      show ((A0.length : Int) + (i : Int) + 1).toNat = A0.length + i + 1 by omega, bnd_eq, gd_pos (by unfold big; simp only [List.length_append, List.length_take, List.length_drop, List.length_cons, List.length_nil]; omega), bnd_eq,
      g24 _ (by simp only [List.length_append, List.length_take, List.length_drop, List.length_cons, List.length_nil]; omega), bindO_some, htext, hun]
    dsimp only
    rw [dT (by rfl), cond_true, dT rfl, cond_true, g12, bindO_some]
theorem u16_range {n : Int} (h : (Lit.int .u16 n).wf = true) : 0 ≤ n ∧ n ≤ 65535 := by
  unfold Lit.wf at h
  rw [Bool.and_eq_true, decide_eq_true_eq, decide_eq_true_eq] at h
  exact h
end Go.Proofs.YthpgkpcnajookaaGreatDoor
